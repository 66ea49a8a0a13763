/- Conflicts and dials, the plain laws. -/
import Derived.Test.YtplebibabcdipaaSet11
import Derived.Test.YtplebibabcdipaaCrvL
namespace Go.Proofs.Ytplebibabcdipaa
open Go.RowKit

/-- What a conflict's code of 8 tells: nothing is refused, and no current is wrong. -/
theorem conf_none {a b : Pts} {pa pb m lo hi : Int} (h : (conflictR a pa b pb m lo hi).2 = 8) :
    a.Ok ∧ b.Ok ∧ 1 ≤ pa ∧ 1 ≤ pb ∧ 0 ≤ m ∧ 0 ≤ lo ∧ lo ≤ hi ∧ (∀ x, lo ≤ x → x ≤ hi → badAt a pa b pb m x = false) ∧
    (∀ b' : Pts, b'.Ok → (conflictR a pa b' pb m lo hi).2 = 0 ∨ (conflictR a pa b' pb m lo hi).2 = 8) ∧
    (∀ b' : Pts, b'.Ok → (∀ x, lo ≤ x → x ≤ hi → badAt a pa b' pb m x = false) → (conflictR a pa b' pb m lo hi).2 = 8) := by
  unfold conflictR at h
  split at h
  · rename_i h1; have := a.err_codes; simp only at h; omega
  rename_i ha
  split at h
  · rename_i h1; have := b.err_codes; simp only at h; omega
  rename_i hb
  have hla := (Pts.err_zero a).1 (Decidable.not_not.1 ha)
  have hlb := (Pts.err_zero b).1 (Decidable.not_not.1 hb)
  split at h
  · simp only at h; omega
  rename_i hr
  split at h
  · simp only at h; omega
  rename_i hd
  have key : ∀ b' : Pts, b'.Ok → conflictR a pa b' pb m lo hi = match scan (badAt a pa b' pb m) (hi + 1 - lo).toNat lo with | none => (0, 8) | some k => (k, 0) := fun b' hb' => by
    have he : b'.err = 0 := (Pts.err_zero b').2 hb'
    unfold conflictR
    rw [if_neg ha, if_neg (fun h => h he), if_neg hr, if_neg hd]
    rfl
  refine ⟨hla, hlb, by omega, by omega, by omega, by omega, by omega, ?_, fun b' hb' => ?_, fun b' hb' hn => ?_⟩
  · split at h
    · rename_i hs
      intro x h1 h2
      exact scan_none hs x h1 (by omega)
    · cases h
  · rw [key b' hb']
    split
    · exact Or.inr rfl
    · exact Or.inl rfl
  · rw [key b' hb']
    split
    · rfl
    · rename_i k hs
      obtain ⟨k0, k1, k2, _⟩ := scan_some hs
      rw [hn k k0 (by omega)] at k2
      cases k2
/-- The code that the law's closure returns. -/
def confD (a b : CRA) (m lo hi d : Int) : Int := if b.pts.scaleE d ≠ 0 then b.pts.scaleE d else (conflictR a.pts a.pk (b.pts.scaled d) b.pk m lo hi).2
theorem bisD_range {P : Int → Bool} : ∀ (f : Nat) (lo hi : Int), lo ≤ hi → lo ≤ bisD P f lo hi ∧ bisD P f lo hi ≤ hi ∧ (bisD P f lo hi = lo ∨ P (bisD P f lo hi - 1) = false) := by
  intro f
  induction f with
  | zero => intro lo hi h; exact ⟨Int.le_refl _, h, Or.inl rfl⟩
  | succ f ih =>
    intro lo hi h
    unfold bisD
    split
    · rename_i hlt
      split
      · obtain ⟨h1, h2, h3⟩ := ih lo ((lo + hi) / 2) (by omega)
        exact ⟨h1, by omega, h3⟩
      · rename_i hp
        obtain ⟨h1, h2, h3⟩ := ih ((lo + hi) / 2 + 1) hi (by omega)
        refine ⟨by omega, h2, Or.inr ?_⟩
        rcases h3 with h3 | h3
        · rw [h3, Int.add_sub_cancel]; simpa using hp
        · exact h3
    · exact ⟨Int.le_refl _, h, Or.inl rfl⟩
/-- What a dial that Dial returns has. -/
theorem dial_ok {a b : CRA} {m lo hi : Int} (h : (dialE a b m lo hi).2 = 0) :
    1 ≤ (dialE a b m lo hi).1 ∧ (dialE a b m lo hi).1 ≤ 10000 ∧ b.pts.scaleE (dialE a b m lo hi).1 = 0 ∧ (conflictR a.pts a.pk (b.pts.scaled (dialE a b m lo hi).1) b.pk m lo hi).2 = 8 ∧
      ((dialE a b m lo hi).1 = 1 ∨ confD a b m lo hi ((dialE a b m lo hi).1 - 1) = 0) := by
  unfold dialE at h ⊢
  split
  · rename_i h1; rw [if_pos h1] at h; exact absurd h h1.1
  · rename_i h1
    rw [if_neg h1] at h
    split
    · rename_i h2
      obtain ⟨h3, h4, h5⟩ := h2
      obtain ⟨r1, r2, r3⟩ := bisD_range (P := dialOk a b m lo hi) 10000 1 10001 (by omega)
      refine ⟨r1, h3, h4, h5, ?_⟩
      rcases r3 with r3 | r3
      · exact Or.inl r3
      · right
        unfold dialOk at r3
        split at r3
        · rename_i h6
          have hne := of_decide_eq_false r3
          obtain ⟨_, _, _, _, _, _, _, _, hc, _⟩ := conf_none h5
          show confD a b m lo hi (bisD (dialOk a b m lo hi) 10000 1 10001 - 1) = 0
          unfold confD
          rw [if_neg (fun h => h h6)]
          rcases hc _ (Pts.scaled_ok h6).2.1 with h7 | h7
          · exact h7
          · exact absurd h7 hne
        · cases r3
    · rename_i h2; rw [if_neg h2] at h; cases h
theorem dial_zero {a b : CRA} {m lo hi : Int} (h : (dialE a b m lo hi).2 ≠ 0) : (dialE a b m lo hi).1 = 0 := by
  unfold dialE at h ⊢
  split
  · rfl
  · rename_i h1
    rw [if_neg h1] at h
    split
    · rename_i h2; rw [if_pos h2] at h; exact absurd rfl h
    · rfl
end Go.Proofs.Ytplebibabcdipaa
