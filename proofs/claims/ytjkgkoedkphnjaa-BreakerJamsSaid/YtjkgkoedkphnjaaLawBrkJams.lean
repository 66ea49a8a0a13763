/- The law BreakerJams: a jammed breaker does not open; that it has failed is reported; and it opens at once when it is not jammed any more. For every input; no condition. -/
import Derived.Test.YtjkgkoedkphnjaaBrkLaws
namespace Go.Proofs.Ytjkgkoedkphnjaa
open Go.RowKit

theorem BS.pass_jam {s : BS} (t : Int) (hj : s.jam = true) (he : s.en = s.st) : s.pass t = { s with now := t } := by
  unfold BS.pass; simp only [hj, if_true]
  exact BS.store_stop (by intro h'; have e : ∀ u : BS, u.en = u.st → ¬ u.en < u.st := fun u hu => by omega
                          exact e _ (by exact he) h'.1)

theorem jams_plain (op cl ch st W T : Int) :
    ((BS.fresh op cl ch st true).jamTo 0 true) = ⟨op, cl, ch, st, 0, 0, 0, true, st, 0⟩ ∧
    ((⟨op, cl, ch, st, 0, 0, 0, true, st, 0⟩ : BS).trip 0) = (0, ⟨op, cl, ch, st, 0, 1, 0, true, st, 0⟩) ∧
    ((⟨op, cl, ch, st, 0, 1, 0, true, st, 0⟩ : BS).pass T) = ⟨op, cl, ch, st, T, 1, 0, true, st, 0⟩ ∧
    ((⟨op, cl, ch, st, T, 1, 0, true, st, 0⟩ : BS).pass T) = ⟨op, cl, ch, st, T, 1, 0, true, st, 0⟩ ∧
    ((⟨op, cl, ch, st, T, 1, 0, true, st, 0⟩ : BS).jamTo T false) = ⟨op, cl, ch, st, T, if op ≤ T then 2 else 1, 0, false, st, 0⟩ ∧
    ((⟨op, cl, ch, st, T, if op ≤ T then 2 else 1, 0, false, st, 0⟩ : BS).pass T).state = (if op ≤ T then 2 else 1) ∧
    ((⟨op, cl, ch, st, T, 1, 0, true, st, 0⟩ : BS).failedB T W) = decide (op + W ≤ T) := by
  refine ⟨?_, ?_, ?_, ?_, ?_, ?_, ?_⟩
  · unfold BS.jamTo; rw [if_pos rfl, BS.pass_full _ rfl rfl]; rfl
  · unfold BS.trip; simp only; rw [BS.pass_jam _ rfl rfl]; rfl
  · rw [BS.pass_jam _ rfl rfl]
  · rw [BS.pass_jam _ rfl rfl]
  · unfold BS.jamTo; rw [if_neg (by decide), BS.pass_jam _ rfl rfl]; unfold BS.move; simp only [true_and]
    by_cases h : op ≤ T
    · rw [if_pos (by omega), if_pos h]
    · rw [if_neg (by omega), if_neg (by simp), if_neg h]
  · rw [BS.pass_state _ rfl]; simp only
    by_cases h : op ≤ T
    · simp [h]
    · simp [h]
  · unfold BS.failedB; simp

set_option maxHeartbeats 4000000 in
theorem jams_walk (op cl ch st wt tm : Int) (w : World) :
    Calls Try.prog 5 #[.agg #[.int .i64 op, .int .i64 cl, .int .i64 ch, .int .i64 st], .int .i64 wt, .int .i64 tm] w fun e w' => e = .returned (.bool true) ∧ Below w.heap.size w w' := by
  have nW := norm_range wt 1000 (by decide) (by decide)
  have nT := norm_range tm 30000 (by decide) (by decide)
  go_enter Try.func5, Try.ntmps5
  go_wp2_with fail
  refine (breakerWorks_c _).mono ?_; rintro e w1 ⟨rfl, a1⟩
  have HP := Lib.hid (Below.blk a1 (Blk.new w #[.int .i64 op, .int .i64 cl, .int .i64 ch, .int .i64 st] 23) (by simp))
  have q0 := HP.out.cell 0 rfl
  have q1 := HP.out.cell 1 rfl
  have q2 := HP.out.cell 2 rfl
  have q3 := HP.out.cell 3 rfl
  have H1 : Hid (Below w.heap.size w w1) := ((Below.refl _ _).alloc (Nat.le_refl _) _).trans (a1.mono (by simp))
  clear a1
  by_cases hk : KindOk op cl ch st
  · go_wp2_with fail
    generalize (wrap64 (wt.tmod 1000 + 1000)).tmod 1000 = W at *
    generalize (wrap64 (tm.tmod 30000 + 30000)).tmod 30000 = T at *
    obtain ⟨nW1, nW2⟩ := nW
    obtain ⟨nT1, nT2⟩ := nT
    obtain ⟨l1, l2, l3, l4, l5, l6, l7⟩ := jams_plain op cl ch st W T
    have b1 : 1 ≤ op ∧ op ≤ 10000 ∧ 1 ≤ cl ∧ cl ≤ 10000 := ⟨hk.1, hk.2.1, hk.2.2.1, hk.2.2.2.1⟩
    have HK := Lib.hid hk
    clear hk
    have L1 := Lib.hid l1
    have L2 := Lib.hid l2
    have L3 := Lib.hid l3
    have L4 := Lib.hid l4
    have L5 := Lib.hid l5
    have L6 := Lib.hid l6
    have L7 := Lib.hid l7
    clear l1 l2 l3 l4 l5 l6 l7
    refine (new_ok op cl ch st true HK.out _).mono ?_; rintro e w2 ⟨nb, rfl, a1, a2, a3⟩
    have HP2 := Lib.hid (Below.blk a3 HP.out (HP.out.lt))
    have HS2 := Lib.hid (Has.made H1.out a1 a2 a3)
    have HN := Lib.hid a1
    clear a1 a2 a3 q0 q1 q2 q3
    have o2 := BS.fresh_ok HK.out true
    have O2 := Lib.hid o2
    clear o2
    go_wp2_with fail
    refine (jam_c _ O2.out 0 true (Int.le_refl 0) (by decide) nb _ HS2.out.2.1).mono ?_; rintro e w3 ⟨rfl, a1⟩
    have HS3 := Lib.hid (HS2.out.go a1)
    have HP3 := Lib.hid (a1.2.blk HP2.out (by have := HP.out.lt; have := HN.out; omega))
    have o3 := BS.jamTo_ok O2.out 0 true (Int.le_refl 0) (by decide)
    clear a1
    simp only at HS3 ⊢
    rw [L1.out] at HS3 o3
    have O3 := Lib.hid o3
    clear o3
    go_wp2_with fail
    refine (trip_c _ O3.out 0 (Int.le_refl 0) (by decide) nb _ HS3.out.2.1).mono ?_; rintro e w4 ⟨rfl, a1⟩
    have HS4 := Lib.hid (HS3.out.go a1)
    have HP4 := Lib.hid (a1.2.blk HP3.out (by have := HP.out.lt; have := HN.out; omega))
    have o4 := BS.trip_ok O3.out 0 (Int.le_refl 0) (by decide)
    clear a1
    rw [L2.out] at HS4 o4 ⊢
    have O4 := Lib.hid o4
    clear o4
    go_wp2_with fail
    refine (failed_c _ O4.out T W nW1 (by omega) (by exact nT1) (by omega) nb _ HS4.out.2.1).mono ?_; rintro e w5 ⟨rfl, a1⟩
    have HS5 := Lib.hid (HS4.out.go a1)
    have HP5 := Lib.hid (a1.2.blk HP4.out (by have := HP.out.lt; have := HN.out; omega))
    have o5 := (BS.pass_ok O4.out T (by exact nT1) (by omega)).1
    clear a1
    rw [L3.out] at HS5 o5 ⊢
    rw [L7.out]
    have O5 := Lib.hid o5
    clear o5
    go_wp2_with fail
    refine (at_c _ O5.out T (by show T ≤ T; omega) (by omega) nb _ HS5.out.2.1).mono ?_; rintro e w6 ⟨rfl, a1⟩
    have HS6 := Lib.hid (HS5.out.go a1)
    have HP6 := Lib.hid (a1.2.blk HP5.out (by have := HP.out.lt; have := HN.out; omega))
    have o6 := (BS.pass_ok O5.out T (by show T ≤ T; omega) (by omega)).1
    clear a1
    rw [L4.out] at HS6 o6 ⊢
    have O6 := Lib.hid o6
    clear o6
    have r0 := HP6.out.cell 0 rfl
    by_cases hw : op + W ≤ T
    all_goals
      first
        | have g1 : decide (op + W ≤ T) = true := decide_eq_true hw
        | have g1 : decide (op + W ≤ T) = false := decide_eq_false hw
      clear hw
      go_wp2_with fail
      refine (jam_c _ O6.out T false (by show T ≤ T; omega) (by omega) nb _ HS6.out.2.1).mono ?_; rintro e w7 ⟨rfl, a1⟩
      have HS7 := Lib.hid (HS6.out.go a1)
      have HP7 := Lib.hid (a1.2.blk HP6.out (by have := HP.out.lt; have := HN.out; omega))
      have o7 := BS.jamTo_ok O6.out T false (by show T ≤ T; omega) (by omega)
      clear a1
      simp only at HS7 ⊢
      rw [L5.out] at HS7 o7
      have O7 := Lib.hid o7
      clear o7 r0
      go_wp2_with fail
      refine (at_c _ O7.out T (by show T ≤ T; omega) (by omega) nb _ HS7.out.2.1).mono ?_; rintro e w8 ⟨rfl, a1⟩
      have HS8 := Lib.hid (HS7.out.go a1)
      have HP8 := Lib.hid (a1.2.blk HP7.out (by have := HP.out.lt; have := HN.out; omega))
      clear a1
      rw [L6.out]
      have r0 := HP8.out.cell 0 rfl
      by_cases hm : op ≤ T
      · rw [if_pos hm]
        have g2 : decide (op ≤ T) = true := decide_eq_true hm
        go_wp2_with fail
        go_ret
        exact ⟨rfl, HS8.out.2.2⟩
      · rw [if_neg hm]
        have g2 : decide (op ≤ T) = false := decide_eq_false hm
        go_wp2_with fail
        go_ret
        exact ⟨rfl, HS8.out.2.2⟩
  · have HK := Lib.hid hk
    clear hk
    go_wp2_with fail
    refine (new_bad op cl ch st true HK.out _).mono ?_; rintro e w2 ⟨rfl, a1⟩
    have HP2 := Lib.hid (Below.blk a1 HP.out (HP.out.lt))
    have H2 := Lib.hid (H1.out.trans (a1.mono H1.out.size))
    clear a1 q0 q1 q2 q3
    have r0 := HP2.out.cell 0 rfl
    have r1 := HP2.out.cell 1 rfl
    have r2 := HP2.out.cell 2 rfl
    have r3 := HP2.out.cell 3 rfl
    go_wp2_with fail
    refine (check_c op cl ch st _).mono ?_; rintro e w3 ⟨rfl, a1⟩
    have H3 := Lib.hid (H2.out.trans (a1.mono H2.out.size))
    clear a1
    rw [kindE_bad HK.out]
    go_wp2_with fail
    go_ret
    exact ⟨rfl, H3.out⟩
end Go.Proofs.Ytjkgkoedkphnjaa
