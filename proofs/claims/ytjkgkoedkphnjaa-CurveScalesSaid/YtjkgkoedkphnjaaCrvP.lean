/- Over-current characteristics: plain. -/
import Derived.Test.YtjkgkoedkphnjaaWld
namespace Go.Proofs.Ytjkgkoedkphnjaa
open Go.RowKit

/-- A characteristic: its points (multiple, time). -/
abbrev Pts := List (Int × Int)
namespace Pts
def rng (x : Int × Int) : Bool := decide (x.1 < 100) || decide (10000 < x.1) || decide (x.2 < 0) || decide (3600000 < x.2)
def out (q x : Int × Int) : Bool := decide (x.1 ≤ q.1) || decide (q.2 < x.2)
/-- What Check finds from a point on; q is the point before. -/
def chk : Option (Int × Int) → Pts → Int
  | _, [] => 0
  | none, x :: xs => if rng x then 4 else chk (some x) xs
  | some q, x :: xs => if rng x then 4 else if out q x then 3 else chk (some x) xs
def err (l : Pts) : Int := if 32 < l.length then 2 else if l.length < 2 then 3 else chk none l
def pt (l : Pts) (i : Nat) : Int × Int := l.getD i (0, 0)
/-- A permitted characteristic. -/
structure Ok (l : Pts) : Prop where
  len1 : 2 ≤ l.length
  len2 : l.length ≤ 32
  m1 : ∀ i, i < l.length → 100 ≤ (l.pt i).1
  m2 : ∀ i, i < l.length → (l.pt i).1 ≤ 10000
  t1 : ∀ i, i < l.length → 0 ≤ (l.pt i).2
  t2 : ∀ i, i < l.length → (l.pt i).2 ≤ 3600000
  up : ∀ i, i + 1 < l.length → (l.pt i).1 < (l.pt (i + 1)).1
  dn : ∀ i, i + 1 < l.length → (l.pt (i + 1)).2 ≤ (l.pt i).2

theorem chk_some (q : Int × Int) (l : Pts) : chk (some q) l = 0 ↔ (∀ i, i < l.length → rng (l.pt i) = false) ∧ (∀ _h : 0 < l.length, out q (l.pt 0) = false) ∧ (∀ i, i + 1 < l.length → out (l.pt i) (l.pt (i + 1)) = false) := by
  induction l generalizing q with
  | nil => simp [chk]
  | cons x xs ih =>
    simp only [chk]
    by_cases h1 : rng x = true
    · rw [if_pos h1]
      constructor
      · intro h; omega
      · rintro ⟨h, _, _⟩
        have := h 0 (by simp)
        simp [pt, h1] at this
    · rw [if_neg h1]
      by_cases h2 : out q x = true
      · rw [if_pos h2]
        constructor
        · intro h; omega
        · rintro ⟨_, h, _⟩
          have := h (by simp)
          simp [pt, h2] at this
      · rw [if_neg h2, ih]
        simp only [Bool.not_eq_true] at h1 h2
        constructor
        · rintro ⟨a, b, c⟩
          refine ⟨?_, ?_, ?_⟩
          · intro i hi
            cases i with
            | zero => simpa [pt] using h1
            | succ i => have := a i (by simpa using hi); simpa [pt] using this
          · intro _; simpa [pt] using h2
          · intro i hi
            cases i with
            | zero => have := b (by simp at hi; omega); simpa [pt] using this
            | succ i => have := c i (by simpa using hi); simpa [pt] using this
        · rintro ⟨a, b, c⟩
          refine ⟨?_, ?_, ?_⟩
          · intro i hi; have := a (i + 1) (by simpa using hi); simpa [pt] using this
          · intro hi; have := c 0 (by simp; omega); simpa [pt] using this
          · intro i hi; have := c (i + 1) (by simpa using hi); simpa [pt] using this

theorem chk_none (l : Pts) : chk none l = 0 ↔ (∀ i, i < l.length → rng (l.pt i) = false) ∧ (∀ i, i + 1 < l.length → out (l.pt i) (l.pt (i + 1)) = false) := by
  cases l with
  | nil => simp [chk]
  | cons x xs =>
    simp only [chk]
    by_cases h1 : rng x = true
    · rw [if_pos h1]
      constructor
      · intro h; omega
      · rintro ⟨h, _⟩
        have := h 0 (by simp)
        simp [pt, h1] at this
    · rw [if_neg h1, chk_some]
      simp only [Bool.not_eq_true] at h1
      constructor
      · rintro ⟨a, b, c⟩
        refine ⟨?_, ?_⟩
        · intro i hi
          cases i with
          | zero => simpa [pt] using h1
          | succ i => have := a i (by simpa using hi); simpa [pt] using this
        · intro i hi
          cases i with
          | zero => have := b (by simp at hi; omega); simpa [pt] using this
          | succ i => have := c i (by simpa using hi); simpa [pt] using this
      · rintro ⟨a, c⟩
        refine ⟨?_, ?_, ?_⟩
        · intro i hi; have := a (i + 1) (by simpa using hi); simpa [pt] using this
        · intro hi; have := c 0 (by simp; omega); simpa [pt] using this
        · intro i hi; have := c (i + 1) (by simpa using hi); simpa [pt] using this

theorem rng_no {x : Int × Int} : rng x = false ↔ 100 ≤ x.1 ∧ x.1 ≤ 10000 ∧ 0 ≤ x.2 ∧ x.2 ≤ 3600000 := by
  unfold rng; simp; omega
theorem out_no {q x : Int × Int} : out q x = false ↔ q.1 < x.1 ∧ x.2 ≤ q.2 := by
  unfold out; simp

theorem err_zero (l : Pts) : l.err = 0 ↔ l.Ok := by
  unfold err
  constructor
  · intro h
    split at h
    · omega
    · split at h
      · omega
      · obtain ⟨a, c⟩ := (chk_none l).1 h
        exact ⟨by omega, by omega, fun i hi => (rng_no.1 (a i hi)).1, fun i hi => (rng_no.1 (a i hi)).2.1, fun i hi => (rng_no.1 (a i hi)).2.2.1, fun i hi => (rng_no.1 (a i hi)).2.2.2, fun i hi => (out_no.1 (c i hi)).1, fun i hi => (out_no.1 (c i hi)).2⟩
  · intro h
    rw [if_neg (by have := h.len2; omega), if_neg (by have := h.len1; omega)]
    exact (chk_none l).2 ⟨fun i hi => rng_no.2 ⟨h.m1 i hi, h.m2 i hi, h.t1 i hi, h.t2 i hi⟩, fun i hi => out_no.2 ⟨h.up i hi, h.dn i hi⟩⟩
theorem chk_codes (q : Option (Int × Int)) (l : Pts) : chk q l = 0 ∨ chk q l = 3 ∨ chk q l = 4 := by
  induction l generalizing q with
  | nil => cases q <;> exact Or.inl rfl
  | cons x xs ih =>
    cases q with
    | none => simp only [chk]; split; · exact Or.inr (Or.inr rfl)
              · exact ih _
    | some q =>
      simp only [chk]; split
      · exact Or.inr (Or.inr rfl)
      · split
        · exact Or.inr (Or.inl rfl)
        · exact ih _
theorem err_codes (l : Pts) : l.err = 0 ∨ l.err = 2 ∨ l.err = 3 ∨ l.err = 4 := by
  unfold err; split
  · exact Or.inr (Or.inl rfl)
  · split
    · exact Or.inr (Or.inr (Or.inl rfl))
    · rcases chk_codes none l with h | h | h
      · exact Or.inl h
      · exact Or.inr (Or.inr (Or.inl h))
      · exact Or.inr (Or.inr (Or.inr h))

/-- What is left to check from point k on. -/
def at_ (l : Pts) (k : Nat) : Int := chk (if k = 0 then none else some (l.pt (k - 1))) (l.drop k)
theorem at_zero (l : Pts) : l.at_ 0 = chk none l := by simp [at_]
theorem at_end (l : Pts) : l.at_ l.length = 0 := by
  unfold at_; rw [List.drop_length]; split <;> rfl
theorem drop_pt {l : Pts} {k : Nat} (h : k < l.length) : l.drop k = l.pt k :: l.drop (k + 1) := by
  rw [List.drop_eq_getElem_cons h]; simp [pt, h]
theorem at_rng {l : Pts} {k : Nat} (h : k < l.length) (hr : rng (l.pt k) = true) : l.at_ k = 4 := by
  unfold at_; rw [drop_pt h]; split <;> simp [chk, hr]
theorem at_out {l : Pts} {k : Nat} (h : k < l.length) (hr : rng (l.pt k) = false) (h0 : 0 < k) (ho : out (l.pt (k - 1)) (l.pt k) = true) : l.at_ k = 3 := by
  unfold at_; rw [drop_pt h, if_neg (by omega)]; simp [chk, hr, ho]
theorem at_go {l : Pts} {k : Nat} (h : k < l.length) (hr : rng (l.pt k) = false) (ho : k = 0 ∨ out (l.pt (k - 1)) (l.pt k) = false) : l.at_ k = l.at_ (k + 1) := by
  conv => lhs; unfold at_
  conv => rhs; unfold at_
  rw [drop_pt h, if_neg (show ¬ k + 1 = 0 by omega)]
  rcases ho with rfl | ho
  · simp [chk, hr]
  · split
    · rename_i h0; subst h0; simp [chk, hr]
    · simp [chk, hr, ho]
end Pts
end Go.Proofs.Ytjkgkoedkphnjaa
