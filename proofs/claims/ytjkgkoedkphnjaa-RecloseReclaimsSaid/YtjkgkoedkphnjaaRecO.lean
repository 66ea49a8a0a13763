/- A rule for reclosing and a list of numbers that come in, opened. -/
import Derived.Test.YtjkgkoedkphnjaaRec7
import Derived.ProofKit
import Derived.ChangeSlices
import Derived.Lib.SmallJoins
namespace Go.Proofs.Ytjkgkoedkphnjaa
open Go.RowKit Go.ChangeShapes Go.WideShapes

theorem ints_of {H : Type} {enc : TypeId × Value → H} {W : World} {fuel : Nat} {v : Value} {x : DataW H × List MemPlace}
    (h : DataW.trod enc Try.prog W 0 (fun _ => true) true fuel 39 [v] = some x) : ∃ l : List Int, IVal W v l ∧ ∀ n ∈ l, (Lit.int .i64 n).wf = true := by
  rcases Go.ChangeShapes.open_ints Try.underlying39 Try.underlying3 (by kernel_rfl) h with ⟨hcs, _⟩ | ⟨a, len, cap, zs, hcs, _, hl, hm, hzl, _, hx, hwf⟩
  · simp only [List.cons.injEq, and_true] at hcs
    subst hcs
    exact ⟨[], ival_nil _, fun n hn => by cases hn⟩
  · simp only [List.cons.injEq, and_true] at hcs
    subst hcs
    simp only [if_true] at hzl
    refine ⟨zs.take len, ?_, fun n hn => hwf n (List.mem_of_mem_take hn)⟩
    have hlen : (zs.take len).length = len := by rw [List.length_take]; omega
    rcases Nat.eq_zero_or_pos len with h0 | h0
    · subst h0; exact Or.inl ⟨by simp, by simp [ints], some a, cap, rfl⟩
    · obtain ⟨b, off, spot⟩ := a
      have c0 := hx 0 (by omega)
      have hs : spot = none := by
        cases spot with
        | none => rfl
        | some s =>
          exfalso
          simp only [Addr.add, if_true, World.cell?] at c0
          split at c0 <;> simp at c0
      subst hs
      have ha : ∀ j, (⟨b, off, none⟩ : Addr).add j = ⟨b, off + j, none⟩ := fun j => by unfold Addr.add; split <;> simp_all
      refine Or.inr ⟨b, off, cap, by rw [hlen], by omega, by unfold maxLen at hm; omega, World.block_lt_of_cell? W _ c0, fun j u hj => ?_⟩
      have hj' : j < (zs.take len).length := by
        have := (List.getElem?_eq_some_iff.1 hj).1
        simpa [ints] using this
      have hj2 : j < zs.length := by omega
      rw [ints_get hj'] at hj
      cases hj
      have := hx j hj2
      rw [ha] at this
      rw [this]
      have hjl : j < len := by omega
      simp [hj2, hjl]
theorem open_il {H : Type} {enc : TypeId × Value → H} {W : World} {base : Nat} {v : Value} {d : DataW H} {p : List MemPlace}
    (ok : Value.okWide Try.prog W .any base 39 v) (h : DataW.Trod enc Try.prog W 0 (fun _ => true) true 39 v d p) : ∃ l : List Int, IVal W v l ∧ ∀ n ∈ l, (Lit.int .i64 n).wf = true := by
  obtain ⟨a, len, cap, rfl⟩ := okWide_slice Try.underlying39 ok
  obtain ⟨fuel, hf⟩ := h
  exact ints_of (by simpa [Value.cells] using hf)
theorem open_rule {H : Type} {enc : TypeId × Value → H} {W : World} {base : Nat} {v : Value} {d : DataW H} {p : List MemPlace}
    (ok : Value.okWide Try.prog W .any base 41 v) (h : DataW.Trod enc Try.prog W 0 (fun _ => true) true 41 v d p) : ∃ (u : Value) (l : List Int) (rc : Int), v = .agg #[u, .int .i64 rc] ∧ IVal W u l ∧ (Lit.int .i64 rc).wf = true := by
  obtain ⟨v0, v1, y0, y1, n, rfl, -, -, h0, h1⟩ := Go.Joins.open_agg2 Try.underlying41 (by kernel_rfl) (by kernel_rfl) ok h
  obtain ⟨l, hl, -⟩ := ints_of h0
  obtain ⟨rc, e1, -, w1⟩ := DataW.trod_int Try.underlying3 h1
  simp only [List.cons.injEq, and_true] at e1
  subst e1
  exact ⟨v0, l, rc, rfl, hl, w1⟩
end Go.Proofs.Ytjkgkoedkphnjaa
