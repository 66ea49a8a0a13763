/- The law CurveFalls: a greater current makes a relay operate at least as early. For every input; no condition. -/
import Derived.Test.YtjkgkoedkphnjaaCrvO
namespace Go.Proofs.Ytjkgkoedkphnjaa
open Go.RowKit

theorem timeR_cases (l : Pts) (pk cur : Int) : ((l.timeR pk cur).2 ≠ 0 ∧ (l.timeR pk cur).1 = 0) ∨ ((l.timeR pk cur).2 = 0 ∧ l.Ok ∧ 1 ≤ pk ∧ pk ≤ 1000000 ∧ 0 ≤ cur ∧ cur ≤ 1000000 ∧ l.time pk cur = some (l.timeR pk cur).1) := by
  unfold Pts.timeR
  split
  · rename_i h; exact Or.inl ⟨h, rfl⟩
  · rename_i h
    split
    · exact Or.inl ⟨by decide, rfl⟩
    · rename_i h2
      cases ht : l.time pk cur with
      | none => exact Or.inl ⟨by decide, rfl⟩
      | some t => exact Or.inr ⟨rfl, (Pts.err_zero l).1 (Decidable.not_not.1 h), by omega, by omega, by omega, by omega, rfl⟩

set_option maxHeartbeats 2000000 in
theorem falls_walk (v : Value) (l : Pts) (pk a b : Int) (w : World) (hv : PVal w v l) :
    Calls Try.prog 9 #[v, .int .i64 pk, .int .i64 a, .int .i64 b] w fun e w' => e = .returned (.bool true) ∧ Below w.heap.size w w' := by
  have HC1 := Lib.hid (timeR_cases l pk a)
  have HC2 := Lib.hid (timeR_cases l pk b)
  obtain ⟨sa, sl, sc0, rfl⟩ := hv.slice
  have HV := Lib.hid hv
  clear hv
  go_enter Try.func9, Try.ntmps9
  go_wp2_with fail
  refine (curveWorks_c _).mono ?_; rintro e w1 ⟨rfl, b1⟩
  have B1 := Lib.hid b1
  have V1 := Lib.hid (HV.out.below b1)
  clear b1
  go_wp2_with fail
  refine (time_c _ l pk a _ V1.out).mono ?_; rintro e w2 ⟨rfl, b2⟩
  have B2 := Lib.hid (belowT B1.out b2)
  have V2 := Lib.hid (V1.out.below b2)
  clear b2 V1 B1
  unfold two
  obtain ⟨R1, hR1⟩ : ∃ R, l.timeR pk a = R := ⟨_, rfl⟩
  obtain ⟨t, e1⟩ := R1
  have HR1 := Lib.hid hR1
  rw [hR1]
  clear hR1
  go_wp2_with fail
  refine (time_c _ l pk b _ V2.out).mono ?_; rintro e w3 ⟨rfl, b3⟩
  have B3 := Lib.hid (belowT B2.out b3)
  clear b3 V2 B2
  unfold two
  obtain ⟨R2, hR2⟩ : ∃ R, l.timeR pk b = R := ⟨_, rfl⟩
  obtain ⟨u, e2⟩ := R2
  have HR2 := Lib.hid hR2
  rw [hR2]
  clear hR2
  have C1 := HC1.out
  have C2 := HC2.out
  rw [HR1.out] at C1
  rw [HR2.out] at C2
  simp only at C1 C2
  rcases C1 with ⟨c1, c2⟩ | ⟨c1, k1, k2, k3, k4, k5, k6⟩
  · have g1 : (e1 == 0) = false := by simpa using c1
    have g1' : (e1 != 0) = true := by simpa using c1
    subst c2
    clear c1
    rcases C2 with ⟨d1, d2⟩ | ⟨d1, _⟩
    · have g2 : (e2 == 0) = false := by simpa using d1
      subst d2
      clear d1
      go_wp2
      go_ret
      exact ⟨rfl, B3.out⟩
    · subst d1
      go_wp2
      go_ret
      exact ⟨rfl, B3.out⟩
  · subst c1
    rcases C2 with ⟨d1, d2⟩ | ⟨d1, _, _, _, _, _, j6⟩
    · have g2 : (e2 == 0) = false := by simpa using d1
      have g2' : (e2 != 0) = true := by simpa using d1
      subst d2
      clear d1 k1 k2 k3 k4 k5 k6
      go_wp2
      go_ret
      exact ⟨rfl, B3.out⟩
    · subst d1
      by_cases hab : b < a
      · have g3 : decide (b < a) = true := decide_eq_true hab
        clear k1 k2 k3 k4 k5 k6 j6 hab
        go_wp2
        go_ret
        exact ⟨rfl, B3.out⟩
      · have g3 : decide (b < a) = false := decide_eq_false hab
        have g4 : u ≤ t := Pts.time_falls k1 k2 (by omega) k6 j6
        have g5 : decide (u ≤ t) = true := decide_eq_true g4
        clear k1 k2 k3 k4 k5 k6 j6 hab
        go_wp2
        go_ret
        exact ⟨rfl, B3.out⟩
end Go.Proofs.Ytjkgkoedkphnjaa
