/- Meters that come in, opened. -/
import Derived.Test.YthcddboeejbncaaPzOpn
import Derived.Test.YthcddboeejbncaaPzMet1
namespace Go.Proofs.Ythcddboeejbncaa
open Go.RowKit Go.ChangeShapes Go.WideShapes

section
variable {H : Type} {enc : TypeId × Value → H} {W : World}
theorem TR.strT {t : TypeId} {cs : List Value} (ht : Try.prog.underlying t = some .string) (h : TR enc W t cs) : ∃ s : ByteArray, cs = [.string s] ∧ s.size ≤ 9223372036854775807 := by
  obtain ⟨n, x, h⟩ := h
  obtain ⟨s, e, _, w⟩ := DataW.trod_string ht h
  exact ⟨s, e, by unfold maxLen at w; omega⟩
theorem list4m {α : Type} {l : List α} (h : l.length = 4) : ∃ a b c d, l = [a, b, c, d] := by
  match l, h with
  | [a, b, c, d], _ => exact ⟨a, b, c, d, rfl⟩
instance : Inhabited MIt := ⟨⟨0, .empty, .empty, 0⟩⟩
theorem TR.mit {cs : List Value} (h : TR enc W 33 cs) : ∃ x : MIt, cs = x.cells ∧ x.Wf := by
  obtain ⟨hl, hf⟩ := h.agg Try.underlying33
  obtain ⟨c0, c1, c2, c3, rfl⟩ := list4m (hl.trans (by kernel_rfl))
  obtain ⟨s0, e0, w0⟩ := (show TR enc W 3 [c0] from by simpa [cint] using hf 0 _ rfl).int
  obtain ⟨s1, e1, w1⟩ := (show TR enc W 9 [c1] from by simpa [cstr] using hf 1 _ rfl).str
  obtain ⟨s2, e2, w2⟩ := (show TR enc W 31 [c2] from by simpa [show Try.prog.cellsOf 31 = 1 from by kernel_rfl] using hf 2 _ rfl).strT Try.underlying31
  obtain ⟨s3, e3, w3⟩ := (show TR enc W 3 [c3] from by simpa [cint] using hf 3 _ rfl).int
  simp only [List.cons.injEq, and_true] at e0 e1 e2 e3
  subst e0 e1 e2 e3
  exact ⟨⟨s0, s1, s2, s3⟩, rfl, w2⟩
set_option maxRecDepth 10000 in
theorem open_mit {base : Nat} {v : Value} {d : DataW H} {p : List MemPlace} (hok : Value.okWide Try.prog W .any base 33 v) (h : DataW.Trod enc Try.prog W 0 (fun _ => true) true 33 v d p) :
    ∃ x : MIt, v = .agg #[.int .i64 x.kind, .string x.name, .string x.value, .int .i64 x.weight] ∧ x.Wf := by
  obtain ⟨cs, rfl, hT⟩ := open_struct Try.underlying33 hok h
  obtain ⟨x, e, hr⟩ := hT.mit
  exact ⟨x, by rw [← Array.toArray_toList (xs := cs), e]; rfl, hr⟩
set_option maxRecDepth 10000 in
theorem open_mits {base : Nat} {v : Value} {d : DataW H} {p : List MemPlace} (hok : Value.okWide Try.prog W .any base 30 v) (h : DataW.Trod enc Try.prog W 0 (fun _ => true) true 30 v d p) :
    ∃ l : List MIt, Reads W v l.length (flat MIt.cells l) ∧ (∀ x ∈ l, x.Wf) := by
  obtain ⟨a, len, cap, rfl⟩ := okWide_slice Try.underlying30 hok
  obtain ⟨fuel, hf⟩ := h
  obtain ⟨v', l, e, hr, hq⟩ := TR.slice (enc := enc) (W := W) (α := MIt) (Q := MIt.Wf) (cs := [.slice a len cap]) Try.underlying30 (sz := 4) (by kernel_rfl) (by decide) (fun _ => rfl) (fun cs h => h.mit) ⟨fuel, _, by simpa [Value.cells] using hf⟩
  simp only [List.cons.injEq, and_true] at e
  subst e
  exact ⟨l, hr, hq⟩
end
end Go.Proofs.Ythcddboeejbncaa
