/- Plain laws of a breaker's state. -/
import Derived.Test.YtjkgkoedkphnjaaBrk3
namespace Go.Proofs.Ytjkgkoedkphnjaa
open Go.RowKit

theorem norm_range (a m : Int) (h0 : 0 < m) (h1 : m ≤ 1000000) : 0 ≤ (wrap64 (a.tmod m + m)).tmod m ∧ (wrap64 (a.tmod m + m)).tmod m < m := by
  have e1 := Int.tmod_lt_of_pos a h0
  have e2 := Int.lt_tmod_of_pos a h0
  have e3 : wrap64 (a.tmod m + m) = a.tmod m + m := by unfold wrap64; omega
  rw [e3]
  exact ⟨Int.tmod_nonneg _ (by omega), Int.tmod_lt_of_pos _ h0⟩

namespace BS
theorem store1_state (s : BS) (t : Int) : (s.store1 t).state = s.state ∧ (s.store1 t).since = s.since ∧ (s.store1 t).now = s.now ∧ (s.store1 t).op = s.op ∧ (s.store1 t).cl = s.cl ∧ (s.store1 t).jam = s.jam ∧ (s.store1 t).st = s.st ∧ (s.store1 t).ch = s.ch := by
  unfold store1; split <;> exact ⟨rfl, rfl, rfl, rfl, rfl, rfl, rfl, rfl⟩
theorem store_state (s : BS) (t : Int) : (s.store t).state = s.state := by unfold store; rw [(store1_state _ t).1, (store1_state _ t).1, (store1_state _ t).1]
theorem pass_state {s : BS} (t : Int) (hj : s.jam = false) : (s.pass t).state = (if s.state = 1 ∧ s.op ≤ t - s.since then 2 else if s.state = 3 ∧ s.cl ≤ t - s.since then 0 else s.state) := by
  unfold pass; simp only [hj]; rw [store_state]
  simp only [Bool.false_eq_true, if_false]
  unfold move; split
  · rfl
  · split <;> rfl
theorem pass_full {s : BS} (t : Int) (hj : s.jam = false) (he : s.en = s.st) : s.pass t = ({ s with now := t } : BS).move := by
  have h : (({ s with now := t } : BS).move).en = (({ s with now := t } : BS).move).st := by unfold move; split <;> (try split) <;> exact he
  unfold pass; simp only [hj, Bool.false_eq_true, if_false]
  exact store_stop (by intro h'; have e : ∀ u : BS, u.en = u.st → ¬ u.en < u.st := fun u hu => by omega
                       exact e _ (by rw [hj] at h; exact h) h'.1)
end BS
end Go.Proofs.Ytjkgkoedkphnjaa
