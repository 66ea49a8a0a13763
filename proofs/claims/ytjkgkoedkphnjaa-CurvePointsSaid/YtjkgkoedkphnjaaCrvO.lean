/- A characteristic that comes in, opened. -/
import Derived.Test.YtjkgkoedkphnjaaCrvL
import Derived.ProofKit
import Derived.Deep.SlicePairs
namespace Go.Proofs.Ytjkgkoedkphnjaa
open Go.RowKit Go.ChangeShapes Go.WideShapes

theorem open_pts {H : Type} {enc : TypeId × Value → H} {W : World} {base : Nat} {v : Value} {d : DataW H} {p : List MemPlace}
    (ok : Value.okWide Try.prog W .any base 53 v) (h : DataW.Trod enc Try.prog W 0 (fun _ => true) true 53 v d p) : ∃ l : Pts, PVal W v l := by
  obtain ⟨a, len, cap, rfl⟩ := okWide_slice Try.underlying53 ok
  obtain ⟨fuel, hf⟩ := h
  rcases Go.Deep.open_slice_pairs Try.underlying53 Try.underlying58 (by kernel_rfl) rfl rfl (by kernel_rfl) (by kernel_rfl) hf with ⟨hcs, _⟩ | ⟨x, l, c, m, n, V0, V1, D0, D1, P0, P1, hcs, _, hl, hm, hmm, _, hx⟩
  · simp [Value.cells] at hcs
    obtain ⟨rfl, rfl, rfl⟩ := hcs
    exact ⟨[], Or.inl ⟨rfl, none, 0, rfl⟩⟩
  · simp [Value.cells] at hcs
    obtain ⟨rfl, rfl, rfl⟩ := hcs
    simp only [if_true] at hmm
    subst hmm
    have hint : ∀ i, i < len → ∃ z : Int × Int, W.cell? (x.add (i * 2)) = some (.int .i64 z.1) ∧ W.cell? (x.add (i * 2 + 1)) = some (.int .i64 z.2) := by
      intro i hi
      obtain ⟨h0, h1, h2, h3⟩ := hx i (by omega)
      obtain ⟨n0, e0, _⟩ := DataW.trod_int Try.underlying3 h2
      obtain ⟨n1, e1, _⟩ := DataW.trod_int Try.underlying3 h3
      simp only [List.cons.injEq, and_true] at e0 e1
      exact ⟨(n0, n1), by rw [h0, e0], by rw [h1, e1]⟩
    obtain ⟨f, hf⟩ := Go.Deep.choose_lt hint
    refine ⟨(List.range len).map f, ?_⟩
    rcases Nat.eq_zero_or_pos len with h0 | h0
    · subst h0; exact Or.inl ⟨rfl, _, _, rfl⟩
    · obtain ⟨b, off, spot⟩ := x
      have c0 := (hf 0 h0).1
      rw [Nat.zero_mul] at c0
      have hs : spot = none := by
        cases spot with
        | none => rfl
        | some s =>
          exfalso
          simp only [Addr.add, if_true, World.cell?] at c0
          split at c0 <;> simp at c0
      subst hs
      have ha : ∀ j, (⟨b, off, none⟩ : Addr).add j = ⟨b, off + j, none⟩ := fun j => by unfold Addr.add; split <;> simp_all
      refine Or.inr ⟨b, off, m, by simp, by simpa using hl, by simp; omega, World.block_lt_of_cell? W _ c0, fun i hi => ?_⟩
      have hi' : i < len := by simpa using hi
      have hp : Pts.pt ((List.range len).map f) i = f i := by unfold Pts.pt; simp [hi']
      rw [hp]
      obtain ⟨e0, e1⟩ := hf i hi'
      rw [ha] at e0 e1
      exact ⟨e0, e1⟩
end Go.Proofs.Ytjkgkoedkphnjaa
