/- journal: First: the plain law. -/
import Derived.Test.YtjakhgilkogcnaaDoorJr14
namespace Go.Proofs.YtjakhgilkogcnaaDoor
open Go.RowKit Go.Sort

theorem le_time {a b : Ev} (h : leE a b = true) : a.t ≤ b.t := by
  unfold leE ltOf at h
  simp at h
  by_cases hlt : b.t < a.t
  · exfalso
    have : cmpE b a = -1 := by
      unfold cmpE
      have h1 : cmpI b.t a.t = -1 := if_pos hlt
      rw [h1]
      rfl
    omega
  · omega
theorem check_8 (l : List Ev) : checkE l ≠ 8 := by
  unfold checkE
  split
  · decide
  · induction l with
    | nil => decide
    | cons x xs ih =>
      have he : evE x ≠ 8 := by
        unfold evE
        split
        · decide
        · split
          · decide
          · split <;> decide
      unfold evsE
      split
      · exact he
      · exact ih (by simp at *; omega)
theorem find_law (kd : ByteArray) : ∀ (l : List Ev), l.Pairwise (fun a b => leE a b = true) → (findK kd l = (ev0, 8) ∧ ∀ y ∈ l, y.k ≠ kd) ∨ (∃ x, findK kd l = (x, 0) ∧ x.k = kd ∧ ∀ y ∈ l, y.k = kd → ¬ y.t < x.t)
  | [], _ => Or.inl ⟨rfl, fun y hy => by cases hy⟩
  | x :: xs, hp => by
    rw [List.pairwise_cons] at hp
    by_cases hk : x.k = kd
    · refine Or.inr ⟨x, if_pos hk, hk, fun y hy _ => ?_⟩
      rcases List.mem_cons.1 hy with rfl | hy
      · omega
      · have := le_time (hp.1 y hy); omega
    · have e : findK kd (x :: xs) = findK kd xs := if_neg hk
      rw [e]
      rcases find_law kd xs hp.2 with ⟨h1, h2⟩ | ⟨z, h1, h2, h3⟩
      · refine Or.inl ⟨h1, fun y hy => ?_⟩
        rcases List.mem_cons.1 hy with rfl | hy
        · exact hk
        · exact h2 y hy
      · refine Or.inr ⟨z, h1, h2, fun y hy hy2 => ?_⟩
        rcases List.mem_cons.1 hy with rfl | hy
        · exact absurd hy2 hk
        · exact h3 y hy hy2
theorem sortE_sorted (l : List Ev) : (sortE l).Pairwise (fun a b => leE a b = true) := by
  refine List.pairwise_mergeSort (fun a b c h1 h2 => ?_) (fun a b => ?_) l
  · unfold leE at *
    simp only [Bool.not_eq_true'] at *
    exact swoE.ntrans c b a h2 h1
  · unfold leE
    cases h1 : ltOf cmpE b a
    · rfl
    · cases h2 : ltOf cmpE a b
      · rfl
      · have := swoE.trans a b a h2 h1
        rw [swoE.irrefl] at this
        cases this
theorem first_law (l : List Ev) (kd : ByteArray) : (∃ er, firstE l kd = (ev0, er) ∧ er ≠ 0 ∧ er ≠ 8) ∨ (firstE l kd = (ev0, 8) ∧ ∀ y ∈ l, y.k ≠ kd) ∨ (∃ x, firstE l kd = (x, 0) ∧ x.k = kd ∧ ∀ y ∈ l, y.k = kd → ¬ y.t < x.t) := by
  by_cases hz : checkE l = 0
  · have hs : sortedE l = (sortE l, 0) := if_neg (fun h => h hz)
    have hf : firstE l kd = findK kd (sortE l) := by
      unfold firstE
      rw [hs]
      exact if_neg (fun h => h rfl)
    rw [hf]
    rcases find_law kd (sortE l) (sortE_sorted l) with ⟨h1, h2⟩ | ⟨x, h1, h2, h3⟩
    · exact Or.inr (Or.inl ⟨h1, fun y hy => h2 y ((sortE_mem l y).2 hy)⟩)
    · exact Or.inr (Or.inr ⟨x, h1, h2, fun y hy => h3 y ((sortE_mem l y).2 hy)⟩)
  · refine Or.inl ⟨checkE l, ?_, hz, check_8 l⟩
    have hs : sortedE l = ([], checkE l) := if_pos hz
    unfold firstE
    rw [hs]
    exact if_pos hz
end Go.Proofs.YtjakhgilkogcnaaDoor
