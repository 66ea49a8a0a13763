/- The law BreakerOpens: a tripped breaker is open exactly from Open milliseconds later on, can then be closed, and is closed Close milliseconds later. For every input; no condition. -/
import Derived.Test.YtjkgkoedkphnjaaBrkLaws
namespace Go.Proofs.Ytjkgkoedkphnjaa
open Go.RowKit

theorem opens_plain (op cl ch st A W M : Int) (hk : KindOk op cl ch st) :
    ((BS.fresh op cl ch st true).trip A) = (0, ⟨op, cl, ch, st, A, 1, A, false, st, 0⟩) ∧
    ((⟨op, cl, ch, st, A, 1, A, false, st, 0⟩ : BS).pass (A + W)) = ⟨op, cl, ch, st, A + W, if op ≤ W then 2 else 1, A, false, st, 0⟩ ∧
    (op ≤ W → (⟨op, cl, ch, st, A + W, 2, A, false, st, 0⟩ : BS).close (A + W) = (0, ⟨op, cl, ch, st, A + W, 3, A + W, false, st - 1, A + W⟩)) ∧
    (¬ op ≤ W → (⟨op, cl, ch, st, A + W, 1, A, false, st, 0⟩ : BS).close (A + W) = (11, ⟨op, cl, ch, st, A + W, 1, A, false, st, 0⟩)) ∧
    ((⟨op, cl, ch, st, A + W, 3, A + W, false, st - 1, A + W⟩ : BS).pass (A + W + M)).state = if cl ≤ M then 0 else 3 := by
  obtain ⟨k1, k2, k3, k4, k5, k6, k7, k8⟩ := hk
  refine ⟨?_, ?_, fun h => ?_, fun h => ?_, ?_⟩
  · unfold BS.trip; simp only; rw [BS.pass_full _ rfl rfl]; rfl
  · rw [BS.pass_full _ rfl rfl]; unfold BS.move; simp only [true_and]
    by_cases h : op ≤ W
    · rw [if_pos (by omega), if_pos h]
    · rw [if_neg (by omega), if_neg (by simp), if_neg h]
  · have e : (⟨op, cl, ch, st, A + W, 2, A, false, st, 0⟩ : BS).pass (A + W) = ⟨op, cl, ch, st, A + W, 2, A, false, st, 0⟩ := by
      rw [BS.pass_full _ rfl rfl]; unfold BS.move; simp
    unfold BS.close; simp only; rw [e]; simp; omega
  · have e : (⟨op, cl, ch, st, A + W, 1, A, false, st, 0⟩ : BS).pass (A + W) = ⟨op, cl, ch, st, A + W, 1, A, false, st, 0⟩ := by
      rw [BS.pass_full _ rfl rfl]; unfold BS.move; simp only [true_and]; rw [if_neg (by omega)]; simp
    unfold BS.close; simp only; rw [e]; simp
  · rw [BS.pass_state _ rfl]; simp only [true_and]
    rw [if_neg (by simp)]
    by_cases h : cl ≤ M
    · rw [if_pos (by omega), if_pos h]
    · rw [if_neg (by omega), if_neg h]

set_option maxHeartbeats 4000000 in
theorem opens_walk (op cl ch st a wt mo : Int) (w : World) :
    Calls Try.prog 3 #[.agg #[.int .i64 op, .int .i64 cl, .int .i64 ch, .int .i64 st], .int .i64 a, .int .i64 wt, .int .i64 mo] w fun e w' => e = .returned (.bool true) ∧ Below w.heap.size w w' := by
  have nA := norm_range a 1000 (by decide) (by decide)
  have nW := norm_range wt 20000 (by decide) (by decide)
  have nM := norm_range mo 20000 (by decide) (by decide)
  go_enter Try.func3, Try.ntmps3
  go_wp2_with fail
  refine (breakerWorks_c _).mono ?_; rintro e w1 ⟨rfl, a1⟩
  have HP := Lib.hid (Below.blk a1 (Blk.new w #[.int .i64 op, .int .i64 cl, .int .i64 ch, .int .i64 st] 23) (by simp))
  have q0 := HP.out.cell 0 rfl
  have q1 := HP.out.cell 1 rfl
  have q2 := HP.out.cell 2 rfl
  have q3 := HP.out.cell 3 rfl
  have H1 : Hid (Below w.heap.size w w1) := ((Below.refl _ _).alloc (Nat.le_refl _) _).trans (a1.mono (by simp))
  clear a1
  by_cases hk : KindOk op cl ch st
  · go_wp2_with fail
    generalize (wrap64 (a.tmod 1000 + 1000)).tmod 1000 = A at *
    generalize (wrap64 (wt.tmod 20000 + 20000)).tmod 20000 = W at *
    generalize (wrap64 (mo.tmod 20000 + 20000)).tmod 20000 = M at *
    obtain ⟨nA1, nA2⟩ := nA
    obtain ⟨nW1, nW2⟩ := nW
    obtain ⟨nM1, nM2⟩ := nM
    have L := opens_plain op cl ch st A W M hk
    have b1 : 1 ≤ op ∧ op ≤ 10000 ∧ 1 ≤ cl ∧ cl ≤ 10000 := ⟨hk.1, hk.2.1, hk.2.2.1, hk.2.2.2.1⟩
    have HK := Lib.hid hk
    clear hk
    obtain ⟨l1, l2, l3, l4, l5⟩ := L
    have L1 := Lib.hid l1
    have L2 := Lib.hid l2
    have L3 := Lib.hid l3
    have L4 := Lib.hid l4
    have L5 := Lib.hid l5
    clear l1 l2 l3 l4 l5
    refine (new_ok op cl ch st true HK.out _).mono ?_; rintro e w2 ⟨nb, rfl, a1, a2, a3⟩
    have HP2 := Lib.hid (Below.blk a3 HP.out (HP.out.lt))
    have HS2 := Lib.hid (Has.made H1.out a1 a2 a3)
    have HN := Lib.hid a1
    clear a1 a2 a3 q0 q1 q2 q3
    go_wp2_with fail
    refine (trip_c _ (BS.fresh_ok HK.out true) A (by exact nA1) (by omega) nb _ HS2.out.2.1).mono ?_; rintro e w3 ⟨rfl, a1⟩
    have HS3 := Lib.hid (HS2.out.go a1)
    have HP3 := Lib.hid (a1.2.blk HP2.out (by have := HP.out.lt; have := HN.out; omega))
    clear a1
    rw [L1.out] at HS3 ⊢
    have o3 : BS.Ok ⟨op, cl, ch, st, A, 1, A, false, st, 0⟩ := by
      have := BS.trip_ok (BS.fresh_ok HK.out true) A (by exact nA1) (by omega); rw [L1.out] at this; exact this
    have O3 := Lib.hid o3
    clear o3
    go_wp2_with fail
    refine (at_c _ O3.out (A + W) (by show A ≤ A + W; omega) (by omega) nb _ HS3.out.2.1).mono ?_; rintro e w4 ⟨rfl, a1⟩
    have HS4 := Lib.hid (HS3.out.go a1)
    have HP4 := Lib.hid (a1.2.blk HP3.out (by have := HP.out.lt; have := HN.out; omega))
    clear a1
    have o4 := (BS.pass_ok O3.out (A + W) (by show A ≤ A + W; omega) (by omega)).1
    rw [L2.out] at HS4 o4 ⊢
    have O4 := Lib.hid o4
    clear o4
    have r0 := HP4.out.cell 0 rfl
    have r1 := HP4.out.cell 1 rfl
    by_cases hw : op ≤ W
    · simp only [if_pos hw] at HS4 O4 ⊢
      have g1 : decide (op ≤ W) = true := decide_eq_true hw
      go_wp2_with fail
      refine (close_c _ O4.out (A + W) (by show A + W ≤ A + W; omega) (by omega) nb _ HS4.out.2.1).mono ?_; rintro e w5 ⟨rfl, a1⟩
      have HS5 := Lib.hid (HS4.out.go a1)
      have HP5 := Lib.hid (a1.2.blk HP4.out (by have := HP.out.lt; have := HN.out; omega))
      clear a1
      have o5 := BS.close_ok O4.out (A + W) (by show A + W ≤ A + W; omega) (by omega)
      rw [L3.out hw] at HS5 o5 ⊢
      have O5 := Lib.hid o5
      clear o5 r0 r1
      go_wp2_with fail
      refine (at_c _ O5.out (A + W + M) (by show A + W ≤ A + W + M; omega) (by omega) nb _ HS5.out.2.1).mono ?_; rintro e w6 ⟨rfl, a1⟩
      have HS6 := Lib.hid (HS5.out.go a1)
      have HP6 := Lib.hid (a1.2.blk HP5.out (by have := HP.out.lt; have := HN.out; omega))
      clear a1
      have r0 := HP6.out.cell 0 rfl
      have r1 := HP6.out.cell 1 rfl
      rw [L5.out]
      by_cases hm : cl ≤ M
      · rw [if_pos hm]
        have g2 : decide (cl ≤ M) = true := decide_eq_true hm
        go_wp2_with fail
        go_ret
        exact ⟨rfl, HS6.out.2.2⟩
      · rw [if_neg hm]
        have g2 : decide (cl ≤ M) = false := decide_eq_false hm
        go_wp2_with fail
        go_ret
        exact ⟨rfl, HS6.out.2.2⟩
    · simp only [if_neg hw] at HS4 O4 ⊢
      have g1 : decide (op ≤ W) = false := decide_eq_false hw
      go_wp2_with fail
      refine (close_c _ O4.out (A + W) (by show A + W ≤ A + W; omega) (by omega) nb _ HS4.out.2.1).mono ?_; rintro e w5 ⟨rfl, a1⟩
      have HS5 := Lib.hid (HS4.out.go a1)
      clear a1
      rw [L4.out hw]
      go_wp2_with fail
      go_ret
      exact ⟨rfl, HS5.out.2.2⟩
  · have HK := Lib.hid hk
    clear hk
    go_wp2_with fail
    refine (new_bad op cl ch st true HK.out _).mono ?_; rintro e w2 ⟨rfl, a1⟩
    have HP2 := Lib.hid (Below.blk a1 HP.out (HP.out.lt))
    have H2 := Lib.hid (H1.out.trans (a1.mono H1.out.size))
    clear a1 q0 q1 q2 q3
    have r0 := HP2.out.cell 0 rfl
    have r1 := HP2.out.cell 1 rfl
    have r2 := HP2.out.cell 2 rfl
    have r3 := HP2.out.cell 3 rfl
    go_wp2_with fail
    refine (check_c op cl ch st _).mono ?_; rintro e w3 ⟨rfl, a1⟩
    have H3 := Lib.hid (H2.out.trans (a1.mono H2.out.size))
    clear a1
    rw [kindE_bad HK.out]
    go_wp2_with fail
    go_ret
    exact ⟨rfl, H3.out⟩

end Go.Proofs.Ytjkgkoedkphnjaa
