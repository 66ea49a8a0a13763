/- nat.Sub. -/
import Derived.Test.YtkpalfgnfhphjaaDoorNat4
namespace Go.Proofs.YtkpalfgnfhphjaaDoor
open Go.RowKit

theorem made_u32s (n : Nat) : madeCells #[.int .u32 0] n = (u32s (List.replicate n 0)).toArray := by
  apply Array.ext
  · simp [madeCells, u32s]
  · intro i h1 h2
    simp [madeCells, u32s, Nat.mod_one]
/-- 'make([]uint32, n)'. -/
theorem make_full (n : Nat) (hn : n ≤ 70000000000000) (W : World) : (Instr.makeSlice 63 (.int .i64 (n : Int)) (.int .i64 (n : Int))).run Tryd.prog W = .ok (.slice (some ⟨W.heap.size, 0, none⟩) n n) (W.alloc (.cells (u32s (List.replicate n 0)).toArray 114)) := by
  rw [← made_u32s]
  exact run_make_row' 63 114 (.int .u32 0) 4 Tryd.underlying63 infoU32 rfl .i64 .i64 n (by omega) (by omega) W
theorem u32s_put (d : List Int) (v : Nat) (x : Int) : (u32s d).toArray.setIfInBounds v (.int .u32 x) = (u32s (d.set v x)).toArray := by
  unfold u32s
  rw [List.setIfInBounds_toArray, List.map_set]
theorem Blk.u32 {w : World} {g : Nat} {d : List Int} {t : TypeId} (h : Blk w g (u32s d).toArray t) {i : Nat} (hi : i < d.length) : w.cell? ⟨g, i, none⟩ = some (.int .u32 (d.getD i 0)) :=
  h.cell i (by rw [List.getElem?_toArray]; exact u32s_get hi)
theorem Blk.ro {w : World} {g base : Nat} {d : List Int} (h : Blk w g (u32s d).toArray 114) (hb : base ≤ g) (hl : d.length ≤ maxLen) {n : Nat} (hn : d.length = n) : RO base w (.slice (some ⟨g, 0, none⟩) n n) d := by
  subst hn
  have := owns_lit h hb 1 d.length (by simp [u32s_len]) hl
  exact this
def subI (A B : List Int) (n k : Nat) (ds : List Int) (c : Int) : Prop := ds.length = n ∧ DgOk ds ∧ (∀ j, k ≤ j → ds.getD j 0 = 0) ∧ val ds = val (A.take k) - val (B.take k) + c * pw k
theorem sub_alg {V X Y c c' p x y d : Int} (hd : d = x - c - y + 1000000000 * c') (h : V = X - Y + c * p) : V + (d - 0) * p = X + p * x - (Y + p * y) + c' * (1000000000 * p) := by
  grind
theorem subI.step {A B : List Int} {n k : Nat} {ds : List Int} {c c' d : Int} (h : subI A B n k ds c) (hk : k < n) (h0 : 0 ≤ d) (h1 : d < 1000000000) (hd : d = A.getD k 0 - c - B.getD k 0 + 1000000000 * c') : subI A B n (k + 1) (ds.set k d) c' := by
  obtain ⟨e1, e2, e3, e4⟩ := h
  refine ⟨by simp [e1], e2.set k h0 h1, fun j hj => ?_, ?_⟩
  · rw [getD_set _ _ _ _ (by omega), if_neg (by omega)]; exact e3 j (by omega)
  · rw [val_set _ _ _ (by omega), e3 k (Nat.le_refl _), pw_succ, val_take_next, val_take_next]
    exact sub_alg hd e4
theorem replicate_getD (n j : Nat) : (List.replicate n (0 : Int)).getD j 0 = 0 := by
  rw [List.getD_eq_getElem?_getD, List.getElem?_replicate]; split <;> rfl
set_option maxRecDepth 100000 in
set_option maxHeartbeats 4000000 in
theorem nsub_c (va vb : Value) (a b : Nat) (w : World) (ha : NV w va a) (hb : NV w vb b) (sa : ln a ≤ 30000000000000) (hba : b ≤ a) :
    Calls Tryd.prog 51 #[va, vb] w fun e w' => (∃ v', e = .returned v' ∧ NO w.heap.size w' v' (a - b)) ∧ Below w.heap.size w w' := by
  obtain ⟨aa, ca, rfl⟩ := ha.slice
  obtain ⟨ab, cb, rfl⟩ := hb.slice
  have hmn := ln_mono hba
  obtain ⟨n, hn⟩ : ∃ n, ln a = n := ⟨_, rfl⟩
  obtain ⟨m, hm⟩ : ∃ m, ln b = m := ⟨_, rfl⟩
  obtain ⟨A, hAE⟩ : ∃ A, dg a = A := ⟨_, rfl⟩
  obtain ⟨B, hBE⟩ : ∃ A, dg b = A := ⟨_, rfl⟩
  have HAE := Lib.hid hAE
  have HBE := Lib.hid hBE
  have HDA : Hid (DgOk A) := hAE ▸ dg_ok a
  have HDB : Hid (DgOk B) := hBE ▸ dg_ok b
  have HN := Lib.hid hn
  have HM := Lib.hid hm
  have HA := Lib.hid ha
  have HB := Lib.hid hb
  have HBA := Lib.hid hba
  rw [hn] at sa HA hmn ⊢
  rw [hm] at HB hmn ⊢
  clear hn hm ha hb hAE hBE
  have hmk := make_full n (by omega) w
  have K0 := Lib.hid (Blk.new w (u32s (List.replicate n 0)).toArray 114)
  have B0 := Lib.hid (belowA (Below.refl w.heap.size w) (.cells (u32s (List.replicate n 0)).toArray 114))
  go_enter Tryd.func51, Tryd.ntmps51
  go_wp2_with (rw [hmk])
  generalize w.alloc (.cells (u32s (List.replicate n 0)).toArray 114) = w1 at *
  go_loopw [14, 6] (fun i c wr => ∃ (k : Nat) (ds : List Int) (cc : Int), k ≤ n ∧ i = .int .i64 k ∧ c = .int .i64 cc ∧ 0 ≤ cc ∧ cc ≤ 1 ∧ Hid (subI A B n k ds cc) ∧ Hid (Blk wr w.heap.size (u32s ds).toArray 114) ∧ Hid (Below w.heap.size w wr)) (fun i _ _ => n - (intOf i).toNat)
  case atStart => exact ⟨0, _, 0, Nat.zero_le _, rfl, rfl, by omega, by omega, ⟨List.length_replicate, DgOk.replicate _, fun j _ => replicate_getD _ _, by rw [val_replicate]; rfl⟩, K0, B0⟩
  case round =>
    obtain ⟨k, ds, c, hk, rfl, rfl, hc0, hc1, hI, hk0, hb⟩ := hrel
    by_cases hlt : k < n
    · obtain ⟨g1, o1, c1, e1, _, x1⟩ := (HA.out.below hb.out).at HN.out (j := k) hlt
      cases e1
      obtain ⟨x, hx⟩ : ∃ x, A.getD k 0 = x := ⟨_, rfl⟩
      rw [HAE.out, hx] at x1
      have HX := Lib.hid hx
      have hxb := HDA.out.getD k
      rw [hx] at hxb
      clear hx
      by_cases hlm : k < m
      · obtain ⟨g2, o2, c2, e2, _, x2⟩ := (HB.out.below hb.out).at HM.out (j := k) hlm
        cases e2
        obtain ⟨y, hy⟩ : ∃ y, B.getD k 0 = y := ⟨_, rfl⟩
        rw [HBE.out, hy] at x2
        have HY := Lib.hid hy
        have hyb := HDB.out.getD k
        rw [hy] at hyb
        clear hy
        by_cases hneg : x - c - y < 0
        · have q2 : decide (x - c - y < 0) = true := decide_eq_true hneg
          have HI' := Lib.hid (hI.out.step (c' := 1) hlt (show 0 ≤ x - c - y + 1000000000 by omega) (show x - c - y + 1000000000 < 1000000000 by omega) (by rw [HX.out, HY.out]; omega))
          have HK' : Hid (Blk _ w.heap.size _ 114) := (hk0.out.set k (.int .u32 (x - c - y + 1000000000))).congr (u32s_put _ _ _)
          have hfz := hk0.out.free k
          have hcl := hk0.out.u32 (i := k) (by rw [hI.out.1]; exact hlt)
          rw [hI.out.2.2.1 k (Nat.le_refl _)] at hcl
          have HB' := Lib.hid (hb.out.setCell (p := ⟨w.heap.size, k, none⟩) (Nat.le_refl _) (.int .u32 (x - c - y + 1000000000)))
          clear hI hb
          go_wp2_with fail
          go_roundw
          case rel => exact ⟨k + 1, _, 1, hlt, by go_num, rfl, by omega, by omega, HI', HK', HB'⟩
          case measure => (simp [intOf] <;> omega)
        · have q2 : decide (x - c - y < 0) = false := decide_eq_false hneg
          have HI' := Lib.hid (hI.out.step (c' := 0) hlt (show 0 ≤ x - c - y by omega) (show x - c - y < 1000000000 by omega) (by rw [HX.out, HY.out]; omega))
          have HK' : Hid (Blk _ w.heap.size _ 114) := (hk0.out.set k (.int .u32 (x - c - y))).congr (u32s_put _ _ _)
          have hfz := hk0.out.free k
          have hcl := hk0.out.u32 (i := k) (by rw [hI.out.1]; exact hlt)
          rw [hI.out.2.2.1 k (Nat.le_refl _)] at hcl
          have HB' := Lib.hid (hb.out.setCell (p := ⟨w.heap.size, k, none⟩) (Nat.le_refl _) (.int .u32 (x - c - y)))
          clear hI hb
          go_wp2_with fail
          go_roundw
          case rel => exact ⟨k + 1, _, 0, hlt, by go_num, rfl, by omega, by omega, HI', HK', HB'⟩
          case measure => (simp [intOf] <;> omega)
      · have HY : Hid (B.getD k 0 = 0) := by
          show _ = _
          rw [List.getD_eq_getElem?_getD, List.getElem?_eq_none (by rw [← HBE.out]; show ln _ ≤ k; rw [HM.out]; omega)]; rfl
        by_cases hneg : x - c < 0
        · have q2 : decide (x - c < 0) = true := decide_eq_true hneg
          have HI' := Lib.hid (hI.out.step (c' := 1) hlt (show 0 ≤ x - c + 1000000000 by omega) (show x - c + 1000000000 < 1000000000 by omega) (by rw [HX.out, HY.out]; omega))
          have HK' : Hid (Blk _ w.heap.size _ 114) := (hk0.out.set k (.int .u32 (x - c + 1000000000))).congr (u32s_put _ _ _)
          have hfz := hk0.out.free k
          have hcl := hk0.out.u32 (i := k) (by rw [hI.out.1]; exact hlt)
          rw [hI.out.2.2.1 k (Nat.le_refl _)] at hcl
          have HB' := Lib.hid (hb.out.setCell (p := ⟨w.heap.size, k, none⟩) (Nat.le_refl _) (.int .u32 (x - c + 1000000000)))
          clear hI hb
          go_wp2_with fail
          go_roundw
          case rel => exact ⟨k + 1, _, 1, hlt, by go_num, rfl, by omega, by omega, HI', HK', HB'⟩
          case measure => (simp [intOf] <;> omega)
        · have q2 : decide (x - c < 0) = false := decide_eq_false hneg
          have HI' := Lib.hid (hI.out.step (c' := 0) hlt (show 0 ≤ x - c by omega) (show x - c < 1000000000 by omega) (by rw [HX.out, HY.out]; omega))
          have HK' : Hid (Blk _ w.heap.size _ 114) := (hk0.out.set k (.int .u32 (x - c))).congr (u32s_put _ _ _)
          have hfz := hk0.out.free k
          have hcl := hk0.out.u32 (i := k) (by rw [hI.out.1]; exact hlt)
          rw [hI.out.2.2.1 k (Nat.le_refl _)] at hcl
          have HB' := Lib.hid (hb.out.setCell (p := ⟨w.heap.size, k, none⟩) (Nat.le_refl _) (.int .u32 (x - c)))
          clear hI hb
          go_wp2_with fail
          go_roundw
          case rel => exact ⟨k + 1, _, 0, hlt, by go_num, rfl, by omega, by omega, HI', HK', HB'⟩
          case measure => (simp [intOf] <;> omega)
    · obtain rfl : k = n := by omega
      have HT := Lib.hid (ntrim_c w.heap.size _ ds wr (hk0.out.ro (Nat.le_refl _) (by unfold maxLen; rw [hI.out.1]; omega) hI.out.1) hI.out.2.1)
      have HS : Hid ((val ds).toNat = a - b) := by
        show _ = _
        obtain ⟨h1, h2, h3, h4⟩ := hI.out
        rw [← HAE.out, ← HBE.out, dg_take _ (by rw [HN.out]; exact Nat.le_refl _), dg_take _ (by rw [HM.out]; omega)] at h4
        have h5 := val_lt h2
        have := HBA.out
        rw [h1] at h5
        rcases (show c = 0 ∨ c = 1 by omega) with rfl | rfl
        · omega
        · omega
      go_wp2_with fail
      refine HT.out.mono ?_; rintro e w' ⟨⟨v', rfl, hno⟩, rfl⟩
      go_wp2_with fail
      go_ret
      exact ⟨⟨_, rfl, by rw [← HS.out]; exact hno⟩, hb.out⟩
end Go.Proofs.YtkpalfgnfhphjaaDoor
