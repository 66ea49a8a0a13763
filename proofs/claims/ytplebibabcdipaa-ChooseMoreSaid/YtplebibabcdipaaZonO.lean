/- Relays and places that come in, opened. -/
import Derived.Test.YtplebibabcdipaaOpn
import Derived.Test.YtplebibabcdipaaZonC
namespace Go.Proofs.Ytplebibabcdipaa
open Go.RowKit Go.ChangeShapes Go.WideShapes

theorem list2 {α : Type} {l : List α} (h : l.length = 2) : ∃ a b, l = [a, b] := by
  match l, h with
  | [a, b], _ => exact ⟨a, b, rfl⟩
section
variable {H : Type} {enc : TypeId × Value → H} {W : World}
theorem TR.zst {cs : List Value} (h : TR enc W 39 cs) : ∃ x : ZSt, cs = x.cells ∧ True := by
  obtain ⟨hl, hf⟩ := h.agg Try.underlying39
  obtain ⟨c0, c1, rfl⟩ := list2 (hl.trans (by kernel_rfl))
  obtain ⟨s0, e0, w0⟩ := (show TR enc W 3 [c0] from by simpa [cint] using hf 0 _ rfl).int
  obtain ⟨s1, e1, w1⟩ := (show TR enc W 3 [c1] from by simpa [cint] using hf 1 _ rfl).int
  simp only [List.cons.injEq, and_true] at e0 e1
  subst e0 e1
  exact ⟨⟨s0, s1⟩, rfl, trivial⟩
instance : Inhabited ZSt := ⟨⟨0, 0⟩⟩
theorem TR.zrel {cs : List Value} (h : TR enc W 44 cs) : ∃ x : ZRA, cs = x.cells ∧ Reads W (.slice x.za x.zs.length x.zc) x.zs.length (flat ZSt.cells x.zs) := by
  obtain ⟨hl, hf⟩ := h.agg Try.underlying44
  obtain ⟨c0, c1, c2, rfl⟩ := list3 (hl.trans (by kernel_rfl))
  obtain ⟨s0, e0, w0⟩ := (show TR enc W 9 [c0] from by simpa [cstr] using hf 0 _ rfl).str
  obtain ⟨s1, e1, w1⟩ := (show TR enc W 9 [c1] from by simpa [cstr] using hf 1 _ rfl).str
  obtain ⟨v2, l2, e2, r2, _⟩ := (show TR enc W 40 [c2] from by simpa [show Try.prog.cellsOf 40 = 1 from by kernel_rfl] using hf 2 _ rfl).slice (α := ZSt) (Q := fun _ => True) Try.underlying40 (sz := 2) (by kernel_rfl) (by decide) (fun _ => rfl) (fun cs h => h.zst)
  simp only [List.cons.injEq, and_true] at e0 e1 e2
  subst e0 e1 e2
  obtain ⟨a, c, rfl⟩ := r2.slice
  exact ⟨⟨s0, s1, a, c, l2⟩, rfl, r2⟩
set_option maxRecDepth 10000 in
theorem open_zrel {base : Nat} {v : Value} {d : DataW H} {p : List MemPlace} (hok : Value.okWide Try.prog W .any base 44 v) (h : DataW.Trod enc Try.prog W 0 (fun _ => true) true 44 v d p) :
    ∃ (nd br : ByteArray) (za : Option Addr) (zc : Nat) (zs : List ZSt), v = .agg #[.string nd, .string br, .slice za zs.length zc] ∧ Reads W (.slice za zs.length zc) zs.length (flat ZSt.cells zs) := by
  obtain ⟨cs, rfl, hT⟩ := open_struct Try.underlying44 hok h
  obtain ⟨x, e, hr⟩ := hT.zrel
  exact ⟨x.node, x.branch, x.za, x.zc, x.zs, by rw [← Array.toArray_toList (xs := cs), e]; rfl, hr⟩
set_option maxRecDepth 10000 in
theorem open_plc {base : Nat} {v : Value} {d : DataW H} {p : List MemPlace} (hok : Value.okWide Try.prog W .any base 31 v) (h : DataW.Trod enc Try.prog W 0 (fun _ => true) true 31 v d p) :
    ∃ (br : ByteArray) (pt : Int), v = .agg #[.string br, .int .i64 pt] := by
  obtain ⟨cs, rfl, hT⟩ := open_struct Try.underlying31 hok h
  obtain ⟨hl, hf⟩ := hT.agg Try.underlying31
  obtain ⟨c0, c1, e⟩ := list2 (hl.trans (by kernel_rfl))
  rw [e] at hf
  obtain ⟨s0, e0, w0⟩ := (show TR enc W 9 [c0] from by simpa [cstr] using hf 0 _ rfl).str
  obtain ⟨s1, e1, w1⟩ := (show TR enc W 3 [c1] from by simpa [cint] using hf 1 _ rfl).int
  simp only [List.cons.injEq, and_true] at e0 e1
  subst e0 e1
  exact ⟨s0, s1, by rw [← Array.toArray_toList (xs := cs), e]⟩
set_option maxRecDepth 10000 in
theorem open_rels {base : Nat} {v : Value} {d : DataW H} {p : List MemPlace} (hok : Value.okWide Try.prog W .any base 48 v) (h : DataW.Trod enc Try.prog W 0 (fun _ => true) true 48 v d p) :
    ∃ l : List ZRA, RelsR W v l := by
  obtain ⟨a, len, cap, rfl⟩ := okWide_slice Try.underlying48 hok
  obtain ⟨fuel, hf⟩ := h
  obtain ⟨v', l, e, hr, hq⟩ := TR.slice (enc := enc) (W := W) (α := ZRA) (Q := fun x => Reads W (.slice x.za x.zs.length x.zc) x.zs.length (flat ZSt.cells x.zs)) (cs := [.slice a len cap]) Try.underlying48 (sz := 3) (by kernel_rfl) (by decide) (fun _ => rfl) (fun cs h => h.zrel) ⟨fuel, _, by simpa [Value.cells] using hf⟩
  simp only [List.cons.injEq, and_true] at e
  subst e
  exact ⟨l, hr, hq⟩
end
end Go.Proofs.Ytplebibabcdipaa
