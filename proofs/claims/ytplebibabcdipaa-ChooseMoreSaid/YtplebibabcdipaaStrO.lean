/- A []string that comes in, opened. -/
import Derived.Test.YtplebibabcdipaaOpn
namespace Go.Proofs.Ytplebibabcdipaa
open Go.RowKit Go.ChangeShapes Go.WideShapes
section
variable {H : Type} {enc : TypeId × Value → H} {W : World}
set_option maxRecDepth 10000 in
theorem open_strs {base : Nat} {v : Value} {d : DataW H} {p : List MemPlace} (hok : Value.okWide Try.prog W .any base 22 v) (h : DataW.Trod enc Try.prog W 0 (fun _ => true) true 22 v d p) :
    ∃ l : List ByteArray, SVal W v l := by
  obtain ⟨a, len, cap, rfl⟩ := okWide_slice Try.underlying22 hok
  obtain ⟨fuel, hf⟩ := h
  obtain ⟨v', l, e, hr, _⟩ := TR.strs (enc := enc) (W := W) (cs := [.slice a len cap]) ⟨fuel, _, by simpa [Value.cells] using hf⟩
  simp only [List.cons.injEq, and_true] at e
  subst e
  exact ⟨l, hr⟩
end
end Go.Proofs.Ytplebibabcdipaa
