/- slices.IndexFunc, ContainsFunc at []int; reclose.Check. -/
import Derived.Test.YtjkgkoedkphnjaaRds
import Derived.Shelf.Abstract
namespace Go.Proofs.Ytjkgkoedkphnjaa
open Go.RowKit

/-- The first index at which P holds, or -1. -/
def idxF (P : Int → Bool) : List Int → Int → Int
  | [], _ => -1
  | x :: xs, i => if P x then i else idxF P xs (i + 1)
theorem idxF_neg (P : Int → Bool) : ∀ (l : List Int) (i : Int), 0 ≤ i → (0 ≤ idxF P l i ↔ l.any P = true) := by
  intro l
  induction l with
  | nil => intro i _; simp [idxF]
  | cons x xs ih =>
    intro i hi
    unfold idxF
    by_cases hp : P x = true
    · rw [if_pos hp]; simp [hp, hi]
    · rw [if_neg hp, ih (i + 1) (by omega)]; simp [hp]
theorem idxF_drop {P : Int → Bool} {l : List Int} {k : Nat} (h : k < l.length) : idxF P (l.drop k) k = if P (l.getD k 0) then (k : Int) else idxF P (l.drop (k + 1)) ((k + 1 : Nat) : Int) := by
  rw [List.drop_eq_getElem_cons h]
  conv => lhs; unfold idxF
  simp [h]

/-- What a function value answers, in every world behind w. -/
def Tells (w : World) (g : FuncId) (caps : Array Value) (P : Int → Bool) : Prop :=
  ∀ (k : Int) (W : World), Below w.heap.size w W → Calls Try.prog g (#[.int .i64 k] ++ caps) W fun e w' => e = .returned (.bool (P k)) ∧ Below w.heap.size w w'

set_option maxHeartbeats 400000 in
theorem indexFunc_c (v : Value) (l : List Int) (P : Int → Bool) (g : FuncId) (caps : Array Value) (w : World) (hv : IVal w v l)
    (eg : ∀ (args : Array Value) (w : World), (callFunc g args).run Try.prog w = .ok (.enter g args) w) (hf : Hid (Tells w g caps P)) :
    Calls Try.prog 55 #[v, .func (.func g) #[] caps] w fun e w' => e = .returned (.int .i64 (idxF P l 0)) ∧ Below w.heap.size w w' := by
  obtain ⟨a, cap, rfl⟩ := hv.slice
  have hn : l.length ≤ 9223372036854775807 := by
    rcases hv with ⟨h, _⟩ | ⟨_, _, _, _, _, h, _⟩
    · omega
    · exact h
  have HV := Lib.hid hv
  have HE : Hid (idxF P (l.drop 0) (0 : Nat) = idxF P l 0) := by show _ = _; rfl
  generalize idxF P l 0 = E at *
  obtain ⟨n, hN⟩ : ∃ n, l.length = n := ⟨_, rfl⟩
  have HN := Lib.hid hN
  have HV2 : Hid (Reads w (.slice a n cap) n (ints l)) := by show Reads _ _ _ _; rw [← hN]; exact hv
  rw [hN] at hn ⊢
  clear hN hv HV
  go_enter Try.func55, Try.ntmps55
  go_wp2_with fail
  go_loopw [8] (fun i wr => ∃ k : Nat, k ≤ n ∧ i = .int .i64 k ∧ Hid (idxF P (l.drop k) k = E) ∧ Hid (Below w.heap.size w wr)) (fun i _ => n - (intOf i).toNat)
  case atStart => exact ⟨0, Nat.zero_le _, rfl, HE.out, Below.refl _ _⟩
  case round =>
    obtain ⟨k, hk, rfl, he, hb⟩ := hrel
    by_cases hlt : k < n
    · obtain ⟨b, off, cap', hvv, _, _, hbl, hc⟩ := HV2.out.addr (by omega)
      simp only [Value.slice.injEq] at hvv
      obtain ⟨rfl, _, rfl⟩ := hvv
      have hlk : k < l.length := by rw [HN.out]; exact hlt
      have x0 := hc k _ (ints_get hlk)
      rw [← hb.out.cell (by exact hbl)] at x0
      have hd := idxF_drop (P := P) hlk
      generalize l.getD k 0 = x at *
      have HD := Lib.hid hd
      clear hd hc
      go_wp2_with fail
      refine (hf.out x wr hb.out).mono ?_; rintro e w2 ⟨rfl, hb2⟩
      have HB2 := Lib.hid hb2
      clear hb2 hb x0
      cases hp : P x
      · have HP := Lib.hid hp
        clear hp
        go_wp2_with fail
        go_roundw
        case rel => exact ⟨k + 1, by omega, by go_num, by show _ = _; rw [← he.out, HD.out, HP.out]; rfl, HB2⟩
        case measure => simp [intOf]; omega
      · have HP := Lib.hid hp
        clear hp
        go_wp2_with fail
        go_ret
        exact ⟨by rw [← he.out, HD.out, HP.out]; rfl, HB2.out⟩
    · have hkn : l.drop k = [] := List.drop_eq_nil_of_le (by rw [HN.out]; omega)
      have HX : Hid (E = -1) := by show _ = _; rw [← he.out, hkn]; rfl
      clear he hkn
      go_wp2_with fail
      go_ret
      exact ⟨by rw [HX.out]; rfl, hb.out⟩

set_option maxHeartbeats 400000 in
theorem containsFunc_c (v : Value) (l : List Int) (P : Int → Bool) (g : FuncId) (caps : Array Value) (w : World) (hv : IVal w v l)
    (eg : ∀ (args : Array Value) (w : World), (callFunc g args).run Try.prog w = .ok (.enter g args) w) (hf : Hid (Tells w g caps P)) :
    Calls Try.prog 45 #[v, .func (.func g) #[] caps] w fun e w' => e = .returned (.bool (l.any P)) ∧ Below w.heap.size w w' := by
  have hc := indexFunc_c v l P g caps w hv eg hf
  have hi := idxF_neg P l 0 (by decide)
  obtain ⟨a, cap, rfl⟩ := hv.slice
  have HC := Lib.hid hc
  clear hc hv
  generalize idxF P l 0 = E at *
  cases hp : l.any P
  · have h : ¬ 0 ≤ E := by rw [hi, hp]; simp
    clear hi hp
    go_enter Try.func45, Try.ntmps45
    go_wp2_with fail
    refine HC.out.mono ?_; rintro e w2 ⟨rfl, hb2⟩
    have HB2 := Lib.hid hb2
    clear hb2
    have g1 : decide (0 ≤ E) = false := decide_eq_false (by omega)
    go_wp2_with fail
    go_ret
    exact ⟨rfl, HB2.out⟩
  · have h : 0 ≤ E := by rw [hi, hp]
    clear hi hp
    go_enter Try.func45, Try.ntmps45
    go_wp2_with fail
    refine HC.out.mono ?_; rintro e w2 ⟨rfl, hb2⟩
    have HB2 := Lib.hid hb2
    clear hb2
    have g1 : decide (0 ≤ E) = true := decide_eq_true h
    go_wp2_with fail
    go_ret
    exact ⟨rfl, HB2.out⟩

/-- Whether a number is out of range. -/
def outR (n : Int) : Bool := decide (n < 1) || decide (600000 < n)
set_option maxHeartbeats 400000 in
theorem check1_c (k : Int) (w : World) : Calls Try.prog 46 #[.int .i64 k] w fun e w' => e = .returned (.bool (outR k)) ∧ w = w' := by
  by_cases h : k < 1
  · have H : Hid (outR k = true) := by show _ = _; unfold outR; simp [h]
    go_enter Try.func46, Try.ntmps46
    go_wp2
    go_ret
    exact ⟨by rw [H.out]; rfl, rfl⟩
  · have H : Hid (outR k = decide (600000 < k)) := by show _ = _; unfold outR; simp [h]
    go_enter Try.func46, Try.ntmps46
    go_wp2
    go_ret
    exact ⟨by rw [H.out]; rfl, rfl⟩

/-- What Check returns. -/
def recE (l : List Int) (rc : Int) : Int := if 4 < l.length then 2 else if l.length = 0 then 3 else if (rc :: l).any outR then 4 else 0

theorem infoInt : (Try.prog.info? 3).map (fun i => (i.zero, i.size, i.bytes)) = some (some (.int .i64 0), 1, 8) := by kernel_rfl

set_option maxHeartbeats 1000000 in
theorem recCheck_c (v : Value) (l : List Int) (rc : Int) (w : World) (hv : IVal w v l) :
    Calls Try.prog 24 #[.agg #[v, .int .i64 rc]] w fun e w' => e = .returned (.int .i64 (recE l rc)) ∧ Below w.heap.size w w' := by
  obtain ⟨a, cap, rfl⟩ := hv.slice
  have hn : l.length ≤ 9223372036854775807 := by
    rcases hv with ⟨h, _⟩ | ⟨_, _, _, _, _, h, _⟩
    · omega
    · exact h
  have HE : Hid (recE l rc = if 4 < l.length then 2 else if l.length = 0 then 3 else if (rc :: l).any outR then 4 else 0) := rfl
  generalize recE l rc = E at *
  have HV := Lib.hid hv
  obtain ⟨n, hN⟩ : ∃ n, l.length = n := ⟨_, rfl⟩
  have HN := Lib.hid hN
  have HV2 : Hid (Reads w (.slice a n cap) n (ints l)) := by show Reads _ _ _ _; rw [← hN]; exact hv
  rw [hN] at hn HE ⊢
  clear hN hv HV
  by_cases h4 : 4 < n
  · have HR := Lib.hid (HE.out.trans (if_pos h4))
    have h4' : (4 : Int) < n := by omega
    clear HE
    go_enter Try.func24, Try.ntmps24
    go_wp2
    go_ret
    exact ⟨by rw [HR.out]; rfl, belowA (Below.refl _ _) _⟩
  by_cases h0 : n = 0
  · have HR := Lib.hid (HE.out.trans ((if_neg h4).trans (if_pos h0)))
    have g0 : ((n : Int) == 0) = true := by simp [h0]
    clear HE
    subst h0
    go_enter Try.func24, Try.ntmps24
    go_wp2
    go_ret
    exact ⟨by rw [HR.out]; rfl, belowA (Below.refl _ _) _⟩
  have HR := Lib.hid (HE.out.trans ((if_neg h4).trans (if_neg h0)))
  have g0 : ((n : Int) == 0) = false := by simp; omega
  have hn4 : (n : Int) ≤ 4 := by omega
  clear HE
  obtain ⟨b, off, cap', hvv, hcap, _, hbl, hc⟩ := HV2.out.addr (by omega)
  simp only [Value.slice.injEq] at hvv
  obtain ⟨rfl, _, rfl⟩ := hvv
  obtain ⟨i0, hi, hz0, hz1, hz2⟩ := info_parts infoInt
  have HC := Lib.hid hc
  clear hc HV2
  go_enter Try.func24, Try.ntmps24
  go_wp2_with (at_builtin; have _t := g0; refine wpList_append_own _ rfl _ _ 39 rfl w.heap.size 3 i0 (.int .i64 0) 1 8 Try.underlying39 hi hz0 hz1 hz2 rfl (by decide) _ 1 [.int .i64 rc] rfl (owns_lit (Blk.new2 _ _ _ _) (by omega) 1 1 rfl (by decide)) ⟨b, off, none⟩ n cap (ints l) rfl (by unfold ints; simp; exact HN.out) (cells_add (fun j u hj => by rw [(belowA (belowA (Below.refl _ w) _) _).cell (by exact hbl)]; exact HC.out j u hj)) (ints_one l) (by unfold maxLen; omega) (by omega) (by simp; omega) ?_; intro v' w3 hown' hgrow3 hnil3)
  have hb3 : Below w.heap.size w w3 := Below.grown (belowA (belowA (Below.refl _ w) _) _) hgrow3 (by simp; omega) (fun j hj => by have : w.heap.size + 1 = j := Option.some.inj hj; omega)
  have hv3 : IVal w3 v' (rc :: l) := by
    have e : ((1 : Nat) + n) = (rc :: l).length := by rw [List.length_cons, HN.out]; omega
    show Reads _ _ _ _
    rw [← e]
    exact Reads.of_owns hown' (by omega)
  have HB3 := Lib.hid hb3
  clear hown' hgrow3 hnil3 hb3
  refine (containsFunc_c v' (rc :: l) outR 46 #[] w3 hv3 (fun a w' => enters_of Try.func46 (by kernel_rfl) rfl a w') (show Tells _ _ _ _ from fun k W hW => (check1_c k W).mono fun e w' ⟨he, hw⟩ => ⟨he, hw ▸ hW⟩)).mono ?_; rintro e w4 ⟨rfl, hb4⟩
  have HB4 := Lib.hid (belowT HB3.out hb4)
  clear hb4 hv3
  cases ha : (rc :: l).any outR
  · have HA := Lib.hid ha
    clear ha
    go_wp2_with fail
    go_ret
    exact ⟨by rw [HR.out, HA.out]; rfl, HB4.out⟩
  · have HA := Lib.hid ha
    clear ha
    go_wp2_with fail
    go_ret
    exact ⟨by rw [HR.out, HA.out]; rfl, HB4.out⟩
end Go.Proofs.Ytjkgkoedkphnjaa
