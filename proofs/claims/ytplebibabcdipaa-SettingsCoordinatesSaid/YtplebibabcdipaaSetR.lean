/- Coordination, the plain law: Wrong finds no pair in the relays with their new curves. -/
import Derived.Test.YtplebibabcdipaaSetQ
namespace Go.Proofs.Ytplebibabcdipaa
open Go.RowKit

theorem cOut_bad {l : List CRA} {ps : List IPr} {m lo hi : Int} : ∀ (ol : List Int) (st : List Int × List Pts), (cOut l ps m lo hi ol st).2 ≠ 0 → (cOut l ps m lo hi ol st).1 = [] := by
  intro ol
  induction ol with
  | nil => intro st h; exact absurd rfl h
  | cons k ks ih =>
    intro st h
    unfold cOut at h ⊢
    split
    · rfl
    · rename_i h1
      rw [if_neg h1] at h
      split
      · rfl
      · rename_i h2
        rw [if_neg h2] at h
        exact ih _ h
theorem coordE_bad {l : List CRA} {ps : List IPr} {m lo hi : Int} (h : (coordE l ps m lo hi).2 ≠ 0) : (coordE l ps m lo hi).1 = [] := by
  unfold coordE at h ⊢
  split
  · rfl
  · rename_i h1
    rw [if_neg h1] at h
    split
    · rfl
    · rename_i h2
      rw [if_neg h2] at h
      exact cOut_bad _ _ h
theorem crvAll_zero : ∀ (l : List CRA), (∀ x ∈ l, x.pts.err = 0) → crvAll l = 0 := by
  intro l
  induction l with
  | nil => intro _; rfl
  | cons x xs ih =>
    intro h
    unfold crvAll
    rw [if_neg (by rw [h x List.mem_cons_self]; simp)]
    exact ih fun y hy => h y (List.mem_cons_of_mem _ hy)
theorem wrongL_none {l : List CRA} {m lo hi : Int} : ∀ (ps : List IPr) (i : Nat), (∀ p ∈ ps, (confOf l p m lo hi).2 = 8) → wrongL l m lo hi ps i = (0, 0, 8) := by
  intro ps
  induction ps with
  | nil => intro i _; rfl
  | cons p ps ih =>
    intro i h
    have h1 := h p List.mem_cons_self
    unfold wrongL
    rw [if_neg (by rw [h1]; decide), if_pos h1]
    exact ih _ fun q hq => h q (List.mem_cons_of_mem _ hq)
/-- The relays O are l with the curves of the dials. -/
def Dialed (l O : List CRA) (D : List Int) : Prop := O.length = l.length ∧ ∀ (i : Nat) x, l[i]? = some x → ∃ y, O[i]? = some y ∧ y.pk = x.pk ∧ y.pts = x.pts.scaled (D.getD i 0)
theorem Dialed.rel {l O : List CRA} {D : List Int} (h : Dialed l O D) {p : Int} (h0 : 0 ≤ p) (h1 : p < l.length) : (relOf O p).pk = (relOf l p).pk ∧ (relOf O p).pts = (relOf l p).pts.scaled (D.getD p.toNat 0) := by
  obtain ⟨a, rfl⟩ := Int.eq_ofNat_of_zero_le h0
  obtain ⟨x, hx⟩ : ∃ x, l[a]? = some x := ⟨_, List.getElem?_eq_getElem (by omega)⟩
  obtain ⟨y, hy, e1, e2⟩ := h.2 a x hx
  have r1 : relOf l (a : Int) = x := by unfold relOf; simp [hx]
  have r2 : relOf O (a : Int) = y := by unfold relOf; simp [hy]
  rw [r1, r2]
  exact ⟨e1, e2⟩
theorem wrong_none {l O : List CRA} {ps : List IPr} {m lo hi : Int} (h : (coordE l ps m lo hi).2 = 0) (ho : Dialed l O (coordE l ps m lo hi).1) : wrongE O ps m lo hi = (0, 0, 8) := by
  obtain ⟨h1, h2, h3, h4⟩ := coord_ok h
  obtain ⟨s1, s2, s3, s4⟩ := setE_ok h1
  have hs : setE O ps = 0 := by
    unfold setE at h1 ⊢
    rw [if_neg (by omega)] at h1
    rw [if_neg (by have := ho.1; omega)]
    have hc : crvAll O = 0 := crvAll_zero O fun y hy => by
      obtain ⟨i, hi⟩ := List.getElem?_of_mem hy
      have hiO := (List.getElem?_eq_some_iff.1 hi).1
      obtain ⟨x, hx⟩ : ∃ x, l[i]? = some x := ⟨_, List.getElem?_eq_getElem (by have := ho.1; omega)⟩
      obtain ⟨z, hz, _, e2⟩ := ho.2 i x hx
      rw [hi] at hz; cases hz
      have := h3 i (by have := ho.1; omega)
      have r1 : relOf l (i : Int) = x := by unfold relOf; simp [hx]
      rw [r1] at this
      rw [e2]
      exact (Pts.err_zero _).2 (Pts.scaled_ok this).2.1
    rw [if_neg (by rw [hc]; simp)]
    rw [if_neg (by rw [s3]; simp)] at h1
    rw [ho.1]; exact h1
  unfold wrongE
  rw [if_neg (by rw [hs]; simp)]
  refine wrongL_none ps 0 fun p hp => ?_
  obtain ⟨p0, p1, p2, p3, _⟩ := s4 p hp
  obtain ⟨a1, a2⟩ := ho.rel p0 p1
  obtain ⟨b1, b2⟩ := ho.rel p2 p3
  unfold confOf
  rw [a1, a2, b1, b2]
  exact h4 p hp
end Go.Proofs.Ytplebibabcdipaa
