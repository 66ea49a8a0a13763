/- The law CurveLeast: at the least current a relay operates in time, and at one less it does not. For every input; no condition. -/
import Derived.Test.YtjkgkoedkphnjaaLawCrvFalls
namespace Go.Proofs.Ytjkgkoedkphnjaa
open Go.RowKit

/-- Either Least fails, with what the law asks of it, or it finds k. -/
theorem leastR_cases (l : Pts) (pk tm : Int) :
    ((l.leastR pk tm).2 ≠ 0 ∧ (l.leastR pk tm).2 ≠ 8 ∧ (l.leastR pk tm).1 = 0) ∨
    ((l.leastR pk tm).2 = 8 ∧ (l.leastR pk tm).1 = 0 ∧ ((l.timeR pk 1000000).2 ≠ 0 ∨ tm < (l.timeR pk 1000000).1)) ∨
    ((l.leastR pk tm).2 = 0 ∧ 0 ≤ (l.leastR pk tm).1 ∧ (l.leastR pk tm).1 ≤ 1000000 ∧ (l.timeR pk (l.leastR pk tm).1).2 = 0 ∧ (l.timeR pk (l.leastR pk tm).1).1 ≤ tm ∧ ((l.timeR pk ((l.leastR pk tm).1 - 1)).2 ≠ 0 ∨ tm < (l.timeR pk ((l.leastR pk tm).1 - 1)).1)) := by
  unfold Pts.leastR
  split
  · rename_i h
    have := l.err_codes
    exact Or.inl ⟨h, by simp only; omega, rfl⟩
  rename_i h
  have he : l.err = 0 := Decidable.not_not.1 h
  have hl := (Pts.err_zero l).1 he
  split
  · exact Or.inl ⟨by decide, by decide, rfl⟩
  rename_i hr
  obtain ⟨s0, s1, s2, s3⟩ := bisM_spec (l.inT pk tm) (fun x y h1 h2 h3 h4 => Pts.inT_mono hl (by omega) h2 h4)
  have key : ∀ k, 0 ≤ k → k ≤ 1000000 → (l.inT pk tm k = true → (l.timeR pk k).2 = 0 ∧ (l.timeR pk k).1 ≤ tm) ∧ (l.inT pk tm k = false → (l.timeR pk k).2 ≠ 0 ∨ tm < (l.timeR pk k).1) := by
    intro k k0 k1
    unfold Pts.inT Pts.timeR
    rw [if_neg h, if_neg (by omega)]
    cases l.time pk k with
    | none => exact ⟨fun h => by simp at h, fun _ => Or.inl (by decide)⟩
    | some t => exact ⟨fun h => ⟨rfl, of_decide_eq_true h⟩, fun h => Or.inr (by have := of_decide_eq_false h; simp only; omega)⟩
  generalize bisM (l.inT pk tm) = r at *
  split
  · exact Or.inr (Or.inl ⟨rfl, rfl, (key 1000000 (by decide) (by decide)).2 (s2 1000000 (by decide) (by assumption))⟩)
  · rename_i hk
    obtain ⟨a1, a2⟩ := (key r s0 (by omega)).1 (s3 (by omega))
    refine Or.inr (Or.inr ⟨rfl, s0, by simp only; omega, a1, a2, ?_⟩)
    simp only
    by_cases h0 : r = 0
    · left
      rw [h0]
      unfold Pts.timeR
      rw [if_neg h, if_pos (by omega)]
      decide
    · exact (key (r - 1) (by omega) (by omega)).2 (s2 (r - 1) (by omega) (by omega))

set_option maxHeartbeats 2000000 in
theorem least_walk (v : Value) (l : Pts) (pk tm : Int) (w : World) (hv : PVal w v l) :
    Calls Try.prog 11 #[v, .int .i64 pk, .int .i64 tm] w fun e w' => e = .returned (.bool true) ∧ Below w.heap.size w w' := by
  have HC := Lib.hid (leastR_cases l pk tm)
  obtain ⟨sa, sl, sc0, rfl⟩ := hv.slice
  have HV := Lib.hid hv
  clear hv
  go_enter Try.func11, Try.ntmps11
  go_wp2_with fail
  refine (curveWorks_c _).mono ?_; rintro e w1 ⟨rfl, b1⟩
  have B1 := Lib.hid b1
  have V1 := Lib.hid (HV.out.below b1)
  clear b1 HV
  go_wp2_with fail
  refine (least_c _ l pk tm _ V1.out).mono ?_; rintro e w2 ⟨rfl, b2⟩
  have B2 := Lib.hid (belowT B1.out b2)
  have V2 := Lib.hid (V1.out.below b2)
  clear b2 V1 B1
  unfold two
  have C := HC.out
  clear HC
  generalize l.leastR pk tm = R at *
  obtain ⟨k, e1⟩ := R
  simp only at C ⊢
  rcases C with ⟨c1, c2, rfl⟩ | ⟨rfl, rfl, c3⟩ | ⟨rfl, k0, k1, c1, c2, c3⟩
  · have g1 : (e1 != 0) = true := by simpa using c1
    have g2 : (e1 != 8) = true := by simpa using c2
    clear c1 c2
    go_wp2
    go_ret
    exact ⟨rfl, B2.out⟩
  · have C3 := Lib.hid c3
    clear c3
    go_wp2_with fail
    refine (time_c _ l pk 1000000 _ V2.out).mono ?_; rintro e w3 ⟨rfl, b3⟩
    have B3 := Lib.hid (belowT B2.out b3)
    clear b3 V2 B2
    unfold two
    have c3 := C3.out
    clear C3
    generalize l.timeR pk 1000000 = R at *
    obtain ⟨t, f⟩ := R
    simp only at c3 ⊢
    by_cases hf : f = 0
    · have c4 : tm < t := c3.resolve_left (fun h => h hf)
      subst hf
      clear c3
      go_wp2
      go_ret
      exact ⟨rfl, B3.out⟩
    · have g1 : (f != 0) = true := by simpa using hf
      clear c3 hf
      go_wp2
      go_ret
      exact ⟨rfl, B3.out⟩
  · have C3 := Lib.hid (And.intro c1 (And.intro c2 c3))
    clear c1 c2 c3
    go_wp2_with fail
    refine (time_c _ l pk k _ V2.out).mono ?_; rintro e w3 ⟨rfl, b3⟩
    have B3 := Lib.hid (belowT B2.out b3)
    have V3 := Lib.hid (V2.out.below b3)
    clear b3 V2 B2
    unfold two
    obtain ⟨c1, c2, c3⟩ := C3.out
    clear C3
    obtain ⟨R, hR⟩ : ∃ R, l.timeR pk k = R := ⟨_, rfl⟩
    rw [hR] at c1 c2 ⊢
    clear hR
    obtain ⟨t, f⟩ := R
    simp only at c1 c2 ⊢
    subst c1
    have C3 := Lib.hid c3
    clear c3
    go_wp2_with fail
    refine (time_c _ l pk (k - 1) _ V3.out).mono ?_; rintro e w4 ⟨rfl, b4⟩
    have B4 := Lib.hid (belowT B3.out b4)
    clear b4 V3 B3
    unfold two
    have c3 := C3.out
    clear C3
    obtain ⟨R, hR⟩ : ∃ R, l.timeR pk (k - 1) = R := ⟨_, rfl⟩
    rw [hR] at c3 ⊢
    clear hR
    obtain ⟨u, g⟩ := R
    simp only at c3 ⊢
    by_cases hf : g = 0
    · have c4 : tm < u := c3.resolve_left (fun h => h hf)
      subst hf
      clear c3
      go_wp2
      go_ret
      exact ⟨rfl, B4.out⟩
    · have g1 : (g != 0) = true := by simpa using hf
      clear c3 hf
      go_wp2
      go_ret
      exact ⟨rfl, B4.out⟩
end Go.Proofs.Ytjkgkoedkphnjaa
