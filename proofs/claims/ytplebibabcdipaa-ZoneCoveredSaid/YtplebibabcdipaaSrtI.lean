/- slices.insertionSortCmpFunc, stableCmpFunc, SortStableFunc at []int, for at most 19 numbers. -/
import Derived.Test.YtplebibabcdipaaSrt
namespace Go.Proofs.Ytplebibabcdipaa
open Go.RowKit

def SrtTo (key : Int → Int) (i : Nat) (r : List Int) : Prop := ∀ p q, p < q → q < i → key (r.getD p 0) ≤ key (r.getD q 0)
def Mid (key : Int → Int) (i j : Nat) (r : List Int) : Prop :=
  (∀ p q, p < q → q ≤ i → p ≠ j → q ≠ j → key (r.getD p 0) ≤ key (r.getD q 0)) ∧ ∀ q, j < q → q ≤ i → key (r.getD j 0) ≤ key (r.getD q 0)
theorem mid_start {key : Int → Int} {i : Nat} {r : List Int} (h : SrtTo key i r) : Mid key i i r :=
  ⟨fun p q h1 h2 _ h4 => h p q h1 (by omega), fun q h1 h2 => by omega⟩
theorem mid_zero {key : Int → Int} {i : Nat} {r : List Int} (h : Mid key i 0 r) : SrtTo key (i + 1) r := fun p q h1 h2 => by
  by_cases hp : p = 0
  · subst hp; exact h.2 q h1 (by omega)
  · exact h.1 p q h1 (by omega) hp (by omega)
theorem mid_stop {key : Int → Int} {i j : Nat} {r : List Int} (h : Mid key i (j + 1) r) (hj : j + 1 ≤ i) (hk : key (r.getD j 0) ≤ key (r.getD (j + 1) 0)) : SrtTo key (i + 1) r := fun p q h1 h2 => by
  by_cases hp : p = j + 1
  · subst hp; exact h.2 q h1 (by omega)
  · by_cases hq : q = j + 1
    · subst hq
      by_cases hpj : p = j
      · subst hpj; exact hk
      · exact Int.le_trans (h.1 p j (by omega) (by omega) hp (by omega)) hk
    · exact h.1 p q h1 (by omega) hp hq
def swp (r : List Int) (j : Nat) : List Int := (r.set (j + 1) (r.getD j 0)).set j (r.getD (j + 1) 0)
theorem swp_get (r : List Int) (j k : Nat) (hj : j + 1 < r.length) : (swp r j).getD k 0 = if k = j then r.getD (j + 1) 0 else if k = j + 1 then r.getD j 0 else r.getD k 0 := by
  unfold swp
  rw [List.getD_eq_getElem?_getD, List.getElem?_set, List.getElem?_set]
  by_cases h1 : k = j
  · subst h1; simp [show k < r.length from by omega]
  · rw [if_neg (fun h => h1 h.symm), if_neg h1]
    by_cases h2 : k = j + 1
    · subst h2; simp [hj]
    · rw [if_neg (fun h => h2 h.symm), if_neg h2, List.getD_eq_getElem?_getD]
theorem swp_len (r : List Int) (j : Nat) : (swp r j).length = r.length := by simp [swp]
theorem getD_mem {r : List Int} {k : Nat} (h : k < r.length) : r.getD k 0 ∈ r := by rw [List.getD_eq_getElem?_getD, List.getElem?_eq_getElem h]; exact List.getElem_mem h
theorem mem_getD {r : List Int} {x : Int} (h : x ∈ r) : ∃ k, k < r.length ∧ r.getD k 0 = x := by
  obtain ⟨k, hk⟩ := List.getElem?_of_mem h
  exact ⟨k, (List.getElem?_eq_some_iff.1 hk).1, by rw [List.getD_eq_getElem?_getD, hk]; rfl⟩
theorem swp_mem (r : List Int) (j : Nat) (hj : j + 1 < r.length) (x : Int) : x ∈ swp r j ↔ x ∈ r := by
  constructor
  · intro h
    obtain ⟨k, hk, rfl⟩ := mem_getD h
    rw [swp_get r j k hj]
    rw [swp_len] at hk
    split
    · exact getD_mem hj
    · split
      · exact getD_mem (by omega)
      · exact getD_mem hk
  · intro h
    obtain ⟨k, hk, rfl⟩ := mem_getD h
    by_cases h1 : k = j
    · have := getD_mem (r := swp r j) (k := j + 1) (by rw [swp_len]; exact hj)
      rw [swp_get r j _ hj, if_neg (by omega), if_pos rfl] at this
      rw [h1]; exact this
    · by_cases h2 : k = j + 1
      · have := getD_mem (r := swp r j) (k := j) (by rw [swp_len]; omega)
        rw [swp_get r j _ hj, if_pos rfl] at this
        rw [h2]; exact this
      · have := getD_mem (r := swp r j) (k := k) (by rw [swp_len]; exact hk)
        rw [swp_get r j _ hj, if_neg h1, if_neg h2] at this
        exact this
theorem mid_swap {key : Int → Int} {i j : Nat} {r : List Int} (h : Mid key i (j + 1) r) (hj : j + 1 ≤ i) (hi : i < r.length) (hk : key (r.getD (j + 1) 0) < key (r.getD j 0)) : Mid key i j (swp r j) := by
  have hl : j + 1 < r.length := by omega
  refine ⟨fun p q h1 h2 h3 h4 => ?_, fun q h1 h2 => ?_⟩
  · rw [swp_get r j p hl, swp_get r j q hl, if_neg h3, if_neg h4]
    by_cases hp : p = j + 1
    · rw [if_pos hp, if_neg (by omega)]
      exact h.1 j q (by omega) h2 (by omega) (by omega)
    · rw [if_neg hp]
      by_cases hq : q = j + 1
      · rw [if_pos hq]; exact h.1 p j (by omega) (by omega) hp (by omega)
      · rw [if_neg hq]; exact h.1 p q h1 h2 hp hq
  · rw [swp_get r j j hl, swp_get r j q hl, if_pos rfl, if_neg (by omega)]
    by_cases hq : q = j + 1
    · rw [if_pos hq]; omega
    · rw [if_neg hq]; exact h.2 q (by omega) h2
theorem cmpI_neg (a b : Int) : cmpI a b < 0 ↔ a < b := by
  unfold cmpI; split
  · simp; omega
  · split <;> simp <;> omega
theorem But.drewN' {b : Nat} {w w1 : World} (h : But b w w1) (n : Nat) : But b w (w1.drewN n) := h.drewN n

/-- What a comparing function answers, in worlds in which block g may have changed. -/
def CmpAt (g : Nat) (w : World) (fn : FuncId) (caps : Array Value) (key : Int → Int) (l : List Int) : Prop :=
  ∀ W, But g w W → ∀ x y : Int, x ∈ l → y ∈ l → Calls Try.prog fn (#[.int .i64 x, .int .i64 y] ++ caps) W fun e w' => e = .returned (.int .i64 (cmpI (key x) (key y))) ∧ ∃ md, w' = W.drewN md
/-- A block sorted. -/
def Sorted (g : Nat) (w : World) (key : Int → Int) (l : List Int) (m : Nat) (w' : World) : Prop :=
  ∃ r, IB w' g r ∧ r.length = m ∧ (∀ x, x ∈ r ↔ x ∈ l) ∧ SrtTo key m r ∧ But g w w'

set_option maxHeartbeats 2000000 in
theorem ins_c (g m c : Nat) (l : List Int) (key : Int → Int) (fn : FuncId) (caps : Array Value) (w : World) (hl : l.length = m) (hm : m ≤ 19) (hib : IB w g l)
    (eg : ∀ (args : Array Value) (w : World), (callFunc fn args).run Try.prog w = .ok (.enter fn args) w) (hf : Hid (CmpAt g w fn caps key l)) :
    Calls Try.prog 114 #[.slice (some ⟨g, 0, none⟩) m c, .int .i64 0, .int .i64 m, .func (.func fn) #[] caps] w fun e w' => e = .returned (.tuple #[]) ∧ Sorted g w key l m w' := by
  have HIB := Lib.hid hib
  clear hib
  have hS0 : Hid (SrtTo key 1 l) := fun p q h1 h2 => by omega
  go_enter Try.func114, Try.ntmps114
  go_wp2_with fail
  go_loopw [8] (fun i wr => ∃ (k : Nat) (r : List Int), i = .int .i64 ((k + 1 : Nat) : Int) ∧ (k + 1 ≤ m ∨ m = 0) ∧ r.length = m ∧ Hid (∀ x, x ∈ r ↔ x ∈ l) ∧ Hid (SrtTo key (k + 1) r) ∧ Hid (IB wr g r) ∧ Hid (But g w wr)) (fun i _ => m + 1 - (intOf i).toNat)
  case atStart => exact ⟨0, l, by go_num, by omega, hl, fun _ => Iff.rfl, hS0, HIB, But.refl _ _⟩
  case round =>
    obtain ⟨k, r, rfl, hk, hrl, hmem, hsr, hbr, hbw⟩ := hrel
    by_cases hlt : k + 1 < m
    ·
      have g0 : decide (((k + 1 : Nat) : Int) < (m : Int)) = true := decide_eq_true (by omega)
      have HM0 : Hid (Mid key (k + 1) (k + 1) r) := mid_start hsr.out
      go_wp2_with fail
      go_loopw [9] (fun i wr => ∃ (j : Nat) (r : List Int), i = .int .i64 (j : Int) ∧ j ≤ k + 1 ∧ r.length = m ∧ Hid (∀ x, x ∈ r ↔ x ∈ l) ∧ Hid (Mid key (k + 1) j r) ∧ Hid (IB wr g r) ∧ Hid (But g w wr)) (fun i _ => (intOf i).toNat)
      case atStart => exact ⟨k + 1, r, rfl, Nat.le_refl _, hrl, hmem, HM0, hbr, hbw⟩
      case round =>
        clear hrl hmem hsr hbr hbw HM0
        obtain ⟨j, r, rfl, hj, hrl, hmem, hmd, hbr, hbw⟩ := hrel
        cases j with
        | zero =>
          have HS1 := Lib.hid (mid_zero hmd.out)
          go_wp2_with fail
          refine wp_region_quiet_lit (by kernel_rfl) (by kernel_rfl) ?_
          repeat (first | go_big_quiet_step (fail) | (go_big_quiet_want; go_simp; go_big_quiet_on))
          refine wpQuiet_nil ?_
          intro _ hw'
          obtain ⟨nq, hw''⟩ := hw'
          subst hw''
          go_wp2_with fail
          go_roundw
          case rel => exact ⟨k + 1, r, by go_num, Or.inl hlt, hrl, hmem, HS1, hbr, hbw.out.drewN _⟩
          case measure => simp [intOf]; omega
        | succ j' =>
          have hjl : j' + 1 < m := by omega
          have hjl2 : j' < m := by omega
          have z0 := hbr.out.cell (j := j' + 1) (by omega)
          have z1 := hbr.out.cell (j := j') (by omega)
          have g1 : decide ((0 : Int) < ((j' + 1 : Nat) : Int)) = true := decide_eq_true (by omega)
          have hw : IntKind.i64.wrap (((j' + 1 : Nat) : Int) - 1) = (j' : Int) := by rw [IntWalk.i64_in _ (by omega)]; omega
          have lg := hbr.out.lt
          have HI : Hid (∀ nd, Calls Try.prog fn (#[.int .i64 (r.getD (j' + 1) 0), .int .i64 (r.getD j' 0)] ++ caps) (wr.drewN nd) fun e w' => e = .returned (.int .i64 (cmpI (key (r.getD (j' + 1) 0)) (key (r.getD j' 0)))) ∧ ∃ md, w' = wr.drewN md) := fun nd =>
            Calls.quiet_of (hf.out (wr.drewN nd) (hbw.out.drewN nd) _ _ ((hmem.out _).1 (getD_mem (by omega))) ((hmem.out _).1 (getD_mem (by omega))))
          have HCN := Lib.hid (cmpI_neg (key (r.getD (j' + 1) 0)) (key (r.getD j' 0)))
          have HSW := Lib.hid (mid_swap (key := key) hmd.out hj (by omega))
          have HST := Lib.hid (mid_stop hmd.out hj)
          have HSM := Lib.hid (swp_mem r j' (by omega))
          obtain ⟨x, hx⟩ : ∃ x, r.getD (j' + 1) 0 = x := ⟨_, rfl⟩
          obtain ⟨y, hy⟩ : ∃ y, r.getD j' 0 = y := ⟨_, rfl⟩
          have HX := Lib.hid hx
          have HY := Lib.hid hy
          rw [hx, hy] at HI HCN HSW HST
          rw [hx] at z0
          rw [hy] at z1
          clear hx hy
          generalize cmpI (key x) (key y) = C at *
          by_cases hc : C < 0
          ·
            have g2 : decide (C < 0) = true := decide_eq_true hc
            have HMD := Lib.hid (HSW.out (HCN.out.1 hc))
            clear hc HCN HST
            go_wp2_with fail
            refine wp_region_quiet_lit (by kernel_rfl) (by kernel_rfl) ?_
            repeat (first | go_big_quiet_step ((exact HI.out _)) | (go_big_quiet_want; go_simp; go_big_quiet_on))
            refine wpQuiet_nil ?_
            intro _ hw'
            obtain ⟨nq, hw''⟩ := hw'
            subst hw''
            go_wp2_with fail
            have K4 := hbr.out.drewN nq
            have BW4 := Lib.hid (hbw.out.drewN nq)
            generalize wr.drewN nq = W4 at *
            have y0 := K4.cell (j := j' + 1) (by omega)
            have y1 := K4.cell (j := j') (by omega)
            have f0 := K4.free (j' + 1)
            have f1 := K4.free j'
            rw [HX.out] at y0
            rw [HY.out] at y1
            have lg4 := K4.lt
            have KS : Hid (IB ((W4.drew.setCell ⟨g, j' + 1, none⟩ (.int .i64 y)).setCell ⟨g, j', none⟩ (.int .i64 x)) g (swp r j')) := by
              have h := (K4.drew.set (j' + 1) y).set j' x
              rw [← HX.out, ← HY.out] at h ⊢
              exact h
            have BS : Hid (But g w ((W4.drew.setCell ⟨g, j' + 1, none⟩ (.int .i64 y)).setCell ⟨g, j', none⟩ (.int .i64 x))) := (BW4.out.drew.set _ _).set _ _
            clear K4 z0 z1
            go_region
            all_goals
              go_wp2_with fail
              go_roundw
              case rel => exact ⟨j', _, by go_num, by omega, by rw [swp_len]; exact hrl, fun x => (HSM.out x).trans (hmem.out x), HMD, KS, BS⟩
              case measure => simp [intOf]
          ·
            have g2 : decide (C < 0) = false := decide_eq_false hc
            have HS1 := Lib.hid (HST.out (by have := HCN.out; omega))
            clear hc HCN HSW
            go_wp2_with fail
            refine wp_region_quiet_lit (by kernel_rfl) (by kernel_rfl) ?_
            repeat (first | go_big_quiet_step ((exact HI.out _)) | (go_big_quiet_want; go_simp; go_big_quiet_on))
            refine wpQuiet_nil ?_
            intro _ hw'
            obtain ⟨nq, hw''⟩ := hw'
            subst hw''
            go_wp2_with fail
            go_roundw
            case rel => exact ⟨k + 1, r, by go_num, Or.inl hlt, hrl, hmem, HS1, hbr, hbw.out.drewN _⟩
            case measure => simp [intOf]; omega
    ·
      have g0 : decide (((k + 1 : Nat) : Int) < (m : Int)) = false := decide_eq_false (by omega)
      have HSM : Hid (SrtTo key m r) := fun p q h1 h2 => hsr.out p q h1 (by omega)
      go_wp2_with fail
      go_end0
      exact ⟨rfl, r, hbr.out, hrl, hmem.out, HSM.out, hbw.out⟩
end Go.Proofs.Ytplebibabcdipaa
