/- A vector of numbers' texts that comes in, opened. -/
import Derived.Test.YtkpalfgnfhphjaaDoorOpn
namespace Go.Proofs.YtkpalfgnfhphjaaDoor
open Go.RowKit Go.ChangeShapes Go.WideShapes
section
variable {H : Type} {enc : TypeId × Value → H} {W : World}
theorem TR.rat {cs : List Value} (h : TR enc W 37 cs) : ∃ s : ByteArray, cs = [.string s] ∧ s.size ≤ 9223372036854775807 := by
  obtain ⟨n, x, h⟩ := h
  obtain ⟨s, e, _, w⟩ := DataW.trod_string Tryd.underlying37 h
  exact ⟨s, e, by unfold maxLen at w; omega⟩
theorem crat : Tryd.prog.cellsOf 37 = 1 := by kernel_rfl
theorem TR.vec {cs : List Value} (h : TR enc W 23 cs) : ∃ (v : Value) (l : List ByteArray), cs = [v] ∧ SVal W v l ∧ ∀ s ∈ l, s.size ≤ 9223372036854775807 := by
  obtain ⟨v, l, e, hr, hq⟩ := h.slice (f := fun s => [Value.string s]) (Q := fun s => s.size ≤ 9223372036854775807) Tryd.underlying23 crat (by decide) (fun _ => rfl) (fun cs h => by obtain ⟨s, e, w⟩ := h.rat; exact ⟨s, e, w⟩)
  rw [flat_one] at hr
  exact ⟨v, l, e, hr, hq⟩
set_option maxRecDepth 10000 in
theorem open_vec {base : Nat} {v : Value} {d : DataW H} {p : List MemPlace} (hok : Value.okWide Tryd.prog W .any base 23 v) (h : DataW.Trod enc Tryd.prog W 0 (fun _ => true) true 23 v d p) :
    ∃ l : List ByteArray, SVal W v l ∧ ∀ s ∈ l, s.size ≤ 9223372036854775807 := by
  obtain ⟨a, len, cap, rfl⟩ := okWide_slice Tryd.underlying23 hok
  obtain ⟨fuel, hf⟩ := h
  obtain ⟨v', l, e, hr, hq⟩ := TR.vec (enc := enc) (W := W) (cs := [.slice a len cap]) ⟨fuel, _, by simpa [Value.cells] using hf⟩
  simp only [List.cons.injEq, and_true] at e
  subst e
  exact ⟨l, hr, hq⟩
set_option maxRecDepth 10000 in
theorem open_strs {base : Nat} {v : Value} {d : DataW H} {p : List MemPlace} (hok : Value.okWide Tryd.prog W .any base 26 v) (h : DataW.Trod enc Tryd.prog W 0 (fun _ => true) true 26 v d p) :
    ∃ l : List ByteArray, SVal W v l := by
  obtain ⟨a, len, cap, rfl⟩ := okWide_slice Tryd.underlying26 hok
  obtain ⟨fuel, hf⟩ := h
  obtain ⟨v', l, e, hr, _⟩ := TR.strs (enc := enc) (W := W) (cs := [.slice a len cap]) ⟨fuel, _, by simpa [Value.cells] using hf⟩
  simp only [List.cons.injEq, and_true] at e
  subst e
  exact ⟨l, hr⟩
end
end Go.Proofs.YtkpalfgnfhphjaaDoor
