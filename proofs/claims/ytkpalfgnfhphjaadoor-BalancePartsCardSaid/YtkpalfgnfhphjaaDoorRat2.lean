/- rat: Int, Sign, Neg. -/
import Derived.Test.YtkpalfgnfhphjaaDoorRat1
namespace Go.Proofs.YtkpalfgnfhphjaaDoor
open Go.RowKit

def signR (q : Rat) : Int := if q = 0 then 0 else if q.num < 0 then -1 else 1
set_option maxHeartbeats 1000000 in
theorem sign_c (ng : Bool) (vn vd : Value) (q : Rat) (w : World) (h : QC w ng vn vd q) :
    Calls Tryd.prog 54 #[.agg #[.bool ng, vn, vd]] w fun e w' => e = .returned (.int .i64 (signR q)) ∧ Below w.heap.size w w' := by
  obtain ⟨na, nc, da, dl, dc, rfl, rfl, _⟩ := h.parts
  have HB := Lib.hid (belowA (Below.refl w.heap.size w) (.cells #[.bool ng, .slice na (ln q.num.natAbs) nc, .slice da dl dc] 65))
  have HNG := Lib.hid h.1
  obtain ⟨n, hn⟩ : ∃ n, ln q.num.natAbs = n := ⟨_, rfl⟩
  rw [hn] at HB ⊢
  by_cases h0 : q = 0
  · have hz : n = 0 := by rw [← hn, num_zero.2 h0]; exact ln_zero
    subst hz
    have HS : Hid (signR q = 0) := if_pos h0
    clear hn h h0 HNG
    go_enter Tryd.func54, Tryd.ntmps54
    go_wp2_with fail
    go_ret
    exact ⟨ret_int HS.out.symm, HB.out⟩
  · have hz : 0 < n := by rw [← hn]; exact ln_pos (Nat.pos_of_ne_zero fun h => h0 (num_zero.1 h))
    have q1 : ((n : Int) == 0) = false := by rw [beq_eq_false_iff_ne]; omega
    cases ng with
    | true =>
      have HS : Hid (signR q = -1) := by
        have : q.num < 0 := of_decide_eq_true HNG.out.symm
        show _ = _; unfold signR; rw [if_neg h0, if_pos this]
      clear hn h h0 HNG
      go_enter Tryd.func54, Tryd.ntmps54
      go_wp2_with fail
      go_ret
      exact ⟨ret_int HS.out.symm, HB.out⟩
    | false =>
      have HS : Hid (signR q = 1) := by
        have : ¬ q.num < 0 := of_decide_eq_false HNG.out.symm
        show _ = _; unfold signR; rw [if_neg h0, if_neg this]
      clear hn h h0 HNG
      go_enter Tryd.func54, Tryd.ntmps54
      go_wp2_with fail
      go_ret
      exact ⟨ret_int HS.out.symm, HB.out⟩
theorem QC.neg {w : World} {ng : Bool} {vn vd : Value} {q : Rat} (h : QC w ng vn vd q) (h0 : q ≠ 0) : QC w (!ng) vn vd (-q) := by
  obtain ⟨h1, h2, h3⟩ := h
  have hn : q.num ≠ 0 := fun h => h0 (Rat.num_eq_zero.1 h)
  refine ⟨?_, by rw [Rat.neg_num, Int.natAbs_neg]; exact h2, Or.inl ?_⟩
  · rw [h1, Rat.neg_num]
    by_cases h : q.num < 0
    · rw [decide_eq_true h, decide_eq_false (by omega)]; rfl
    · rw [decide_eq_false h, decide_eq_true (by omega)]; rfl
  · rcases h3 with h3 | ⟨h3, _⟩
    · exact h3
    · exact absurd h3 h0
set_option maxHeartbeats 1000000 in
theorem neg_c (ng : Bool) (vn vd : Value) (q : Rat) (w : World) (h : QC w ng vn vd q) :
    Calls Tryd.prog 34 #[.agg #[.bool ng, vn, vd]] w fun e w' => (∃ v, e = .returned v ∧ QV w' v (-q)) ∧ Below w.heap.size w w' := by
  have H := Lib.hid h
  obtain ⟨na, nc, da, dl, dc, rfl, rfl, _⟩ := h.parts
  obtain ⟨n, hn⟩ : ∃ n, ln q.num.natAbs = n := ⟨_, rfl⟩
  rw [hn] at H ⊢
  by_cases h0 : q = 0
  · have hz : n = 0 := by rw [← hn, num_zero.2 h0]; exact ln_zero
    subst hz
    have HQ0 := Lib.hid h0
    clear hn h h0
    go_enter Tryd.func34, Tryd.ntmps34
    go_wp2_with fail
    (try simp only [Exit.inBlock, Exit.then])
    refine bodyPost_ret (v := .agg #[.bool ng, .slice na 0 nc, .slice da dl dc]) ?_ rfl ⟨⟨_, rfl, _, _, _, rfl, ?_⟩, ?_⟩
    · rw [results_cell rfl]
      go_simp
    · have h1 := HQ0.out
      subst h1
      exact H.out.below (belowA (belowA (Below.refl _ _) _) _)
    · exact belowA (belowA (Below.refl _ _) _) _
  · have hz : 0 < n := by rw [← hn]; exact ln_pos (Nat.pos_of_ne_zero fun h => h0 (num_zero.1 h))
    have q1 : ((n : Int) == 0) = false := by rw [beq_eq_false_iff_ne]; omega
    have HQ0 := Lib.hid h0
    clear hn h h0
    go_enter Tryd.func34, Tryd.ntmps34
    go_wp2_with fail
    (try simp only [Exit.inBlock, Exit.then])
    refine bodyPost_ret (v := .agg #[.bool !ng, .slice na n nc, .slice da dl dc]) ?_ rfl ⟨⟨_, rfl, _, _, _, rfl, ?_⟩, ?_⟩
    · rw [results_cell rfl]
      go_simp
    · exact (H.out.neg HQ0.out).below (belowA (belowA (Below.refl _ _) _) _)
    · exact belowA (belowA (Below.refl _ _) _) _
theorem QC.ofInt {w : World} {vn vd : Value} {n : Int} (h : NV w vn n.natAbs) (k : NV w vd 1) : QC w (decide (n < 0)) vn vd (n : Rat) :=
  ⟨by rw [Rat.num_intCast], by rw [Rat.num_intCast]; exact h, Or.inl (by rw [Rat.den_intCast]; exact k)⟩
set_option maxHeartbeats 1000000 in
theorem int_c (n : Int) (w : World) (h0 : -9223372036854775807 ≤ n) (h1 : n ≤ 9223372036854775807) :
    Calls Tryd.prog 23 #[.int .i64 n] w fun e w' => (∃ v, e = .returned v ∧ QV w' v (n : Rat)) ∧ Below w.heap.size w w' := by
  have HOF := Lib.hid (fun m W (h : m ≤ 9223372036854775807) => nof_c m W h)
  have K0 := Lib.hid (Blk.new w #[.bool false, .slice none 0 0, .slice none 0 0] 65)
  have B0 := Lib.hid (belowA (Below.refl w.heap.size w) (.cells #[.bool false, .slice none 0 0, .slice none 0 0] 65))
  by_cases hn : n < 0
  · obtain ⟨m, hm⟩ : ∃ m : Nat, -n = m := ⟨(-n).toNat, by omega⟩
    have hmb : m ≤ 9223372036854775807 := by omega
    have q1 : decide (n < 0) = true := decide_eq_true hn
    have HM : Hid (n.natAbs = m ∧ decide (n < 0) = true) := ⟨by omega, q1⟩
    have e1 : IntKind.i64.wrap (-n) = m := by rw [hm]; exact IntWalk.i64_in _ (by omega)
    clear hn
    go_enter Tryd.func23, Tryd.ntmps23
    go_wp2_with fail
    generalize w.alloc (.cells #[.bool false, .slice none 0 0, .slice none 0 0] 65) = w1 at *
    refine (HOF.out m w1 hmb).mono ?_; rintro e w2 ⟨⟨v1, rfl, hn1⟩, hb1⟩
    obtain ⟨a1, c1, rfl⟩ := hn1.nv.slice
    have HN1 := Lib.hid hn1.nv
    have HB1 := Lib.hid hb1
    clear hn1 hb1
    go_wp2_with fail
    refine (HOF.out 1 w2 (by omega)).mono ?_; rintro e w3 ⟨⟨v2, rfl, hn2⟩, hb2⟩
    obtain ⟨a2, c2, rfl⟩ := hn2.nv.slice
    have HQ1 := Lib.hid (HN1.out.below hb2)
    have HQ2 := Lib.hid hn2.nv
    have HB2 := Lib.hid (belowT HB1.out hb2)
    clear hn2 hb2
    have hbs := below_blk HB2.out K0.out K0.out.lt
    have HBS := Lib.hid hbs
    have y0 := hbs.cell 0 rfl
    have y1 := hbs.cell 1 rfl
    have y2 := hbs.cell 2 rfl
    have f0 := hbs.free 0
    have f1 := hbs.free 1
    have f2 := hbs.free 2
    have hzr := hbs.lt
    have HBU : Hid (But w.heap.size w3 (((w3.setCell ⟨w.heap.size, 0, none⟩ (.bool true)).setCell ⟨w.heap.size, 1, none⟩ (.slice a1 (ln m) c1)).setCell ⟨w.heap.size, 2, none⟩ (.slice a2 (ln 1) c2))) := (((But.refl _ _).set 0 _).set 1 _).set 2 _
    clear hbs
    go_wp2_with fail
    (try simp only [Exit.inBlock, Exit.then])
    refine bodyPost_ret (v := .agg #[.bool true, .slice a1 (ln m) c1, .slice a2 (ln 1) c2]) ?_ rfl ⟨⟨_, rfl, _, _, _, rfl, ?_⟩, (((B0.out.trans (HB2.out.mono B0.out.size)).setCell (Nat.le_refl _) _).setCell (Nat.le_refl _) _).setCell (Nat.le_refl _) _⟩
    · rw [results_cell rfl]
      go_simp
    have hq := QC.ofInt (n := n) (by rw [HM.out.1]; exact HQ1.out.keep HBS.out (noDig_q _ _ _ _ _ _ _) HBU.out) (HQ2.out.keep HBS.out (noDig_q _ _ _ _ _ _ _) HBU.out)
    rw [HM.out.2] at hq
    exact hq
  · obtain ⟨m, rfl⟩ : ∃ m : Nat, n = m := ⟨n.toNat, by omega⟩
    have hmb : m ≤ 9223372036854775807 := by omega
    have q1 : decide ((m : Int) < 0) = false := decide_eq_false hn
    have HM : Hid ((m : Int).natAbs = m ∧ decide ((m : Int) < 0) = false) := ⟨by omega, q1⟩
    clear hn h0 h1
    go_enter Tryd.func23, Tryd.ntmps23
    go_wp2_with fail
    generalize w.alloc (.cells #[.bool false, .slice none 0 0, .slice none 0 0] 65) = w1 at *
    refine (HOF.out m w1 hmb).mono ?_; rintro e w2 ⟨⟨v1, rfl, hn1⟩, hb1⟩
    obtain ⟨a1, c1, rfl⟩ := hn1.nv.slice
    have HN1 := Lib.hid hn1.nv
    have HB1 := Lib.hid hb1
    clear hn1 hb1
    go_wp2_with fail
    refine (HOF.out 1 w2 (by omega)).mono ?_; rintro e w3 ⟨⟨v2, rfl, hn2⟩, hb2⟩
    obtain ⟨a2, c2, rfl⟩ := hn2.nv.slice
    have HQ1 := Lib.hid (HN1.out.below hb2)
    have HQ2 := Lib.hid hn2.nv
    have HB2 := Lib.hid (belowT HB1.out hb2)
    clear hn2 hb2
    have hbs := below_blk HB2.out K0.out K0.out.lt
    have HBS := Lib.hid hbs
    have y0 := hbs.cell 0 rfl
    have y1 := hbs.cell 1 rfl
    have y2 := hbs.cell 2 rfl
    have f0 := hbs.free 0
    have f1 := hbs.free 1
    have f2 := hbs.free 2
    have hzr := hbs.lt
    have HBU : Hid (But w.heap.size w3 (((w3.setCell ⟨w.heap.size, 0, none⟩ (.bool false)).setCell ⟨w.heap.size, 1, none⟩ (.slice a1 (ln m) c1)).setCell ⟨w.heap.size, 2, none⟩ (.slice a2 (ln 1) c2))) := (((But.refl _ _).set 0 _).set 1 _).set 2 _
    clear hbs
    go_wp2_with fail
    (try simp only [Exit.inBlock, Exit.then])
    refine bodyPost_ret (v := .agg #[.bool false, .slice a1 (ln m) c1, .slice a2 (ln 1) c2]) ?_ rfl ⟨⟨_, rfl, _, _, _, rfl, ?_⟩, (((B0.out.trans (HB2.out.mono B0.out.size)).setCell (Nat.le_refl _) _).setCell (Nat.le_refl _) _).setCell (Nat.le_refl _) _⟩
    · rw [results_cell rfl]
      go_simp
    have hq := QC.ofInt (n := (m : Int)) (by rw [HM.out.1]; exact HQ1.out.keep HBS.out (noDig_q _ _ _ _ _ _ _) HBU.out) (HQ2.out.keep HBS.out (noDig_q _ _ _ _ _ _ _) HBU.out)
    rw [HM.out.2] at hq
    exact hq
end Go.Proofs.YtkpalfgnfhphjaaDoor
