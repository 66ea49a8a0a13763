/- Relays with characteristics that come in, opened; cut. -/
import Derived.Test.YtplebibabcdipaaOpn
import Derived.Test.YtplebibabcdipaaZonO
import Derived.Test.YtplebibabcdipaaClr2
namespace Go.Proofs.Ytplebibabcdipaa
open Go.RowKit Go.ChangeShapes Go.WideShapes

theorem CRels.take {w : World} {a : Option Addr} {N c k : Nat} {l : List CRA} (h : CRels w (.slice a N c) l) (hN : l.length = N) (hk : k ≤ N) : CRels w (.slice a k c) (l.take k) := by
  refine ⟨?_, fun r hr => h.2 r (List.mem_of_mem_take hr)⟩
  have hlen : (l.take k).length = k := by rw [List.length_take]; omega
  rw [hlen]
  rcases h.1 with ⟨h0, _, a', c', e⟩ | ⟨g, off, cap, e, h1, h2, h3, h4⟩
  · simp only [Value.slice.injEq] at e
    have : k = 0 := by omega
    subst this
    exact Or.inl ⟨rfl, by simp [flat], a, c, rfl⟩
  · simp only [Value.slice.injEq] at e
    obtain ⟨rfl, e2, rfl⟩ := e
    refine Or.inr ⟨g, off, c, rfl, by omega, by omega, h3, fun j u hj => h4 j u ?_⟩
    have hl : j < (flat CRA.cells (l.take k)).length := (List.getElem?_eq_some_iff.1 hj).1
    have e3 : flat CRA.cells l = flat CRA.cells (l.take k) ++ flat CRA.cells (l.drop k) := by
      conv => lhs; rw [← List.take_append_drop k l]
      unfold flat; rw [List.flatMap_append]
    rw [e3, List.getElem?_append_left hl]; exact hj
theorem CRels.cap {w : World} {a : Option Addr} {N c : Nat} {l : List CRA} (h : CRels w (.slice a N c) l) (hN : l.length = N) (h0 : 0 < N) : N ≤ c := by
  obtain ⟨g, off, cap, e, h1, _⟩ := h.1.addr (by omega)
  cases e; rw [← hN]; exact h1
/-- The two readings of a list of points are one. -/
theorem PVal.of_reads {w : World} {v : Value} {l : Pts} (h : Reads w v l.length (flat (fun p : Int × Int => [.int .i64 p.1, .int .i64 p.2]) l)) : PVal w v l := by
  rcases h with ⟨h, _, a, c, rfl⟩ | ⟨b, off, cap, rfl, h1, h2, h3, h4⟩
  · exact Or.inl ⟨List.eq_nil_of_length_eq_zero h, a, c, rfl⟩
  · refine Or.inr ⟨b, off, cap, rfl, h1, h2, h3, fun i hi => ?_⟩
    have hx : l[i]? = some (l.pt i) := by unfold Pts.pt; simp [hi]
    have e := fun j u hj hu => Reads.elem (sz := 2) (fun _ => rfl) h4 hx (j := j) (u := u) hj hu
    exact ⟨e 0 _ (by decide) rfl, by rw [Nat.add_assoc]; exact e 1 _ (by decide) rfl⟩
section
variable {H : Type} {enc : TypeId × Value → H} {W : World}
theorem TR.pt {cs : List Value} (h : TR enc W 99 cs) : ∃ x : Int × Int, cs = [.int .i64 x.1, .int .i64 x.2] ∧ True := by
  obtain ⟨hl, hf⟩ := h.agg Try.underlying99
  obtain ⟨c0, c1, rfl⟩ := list2 (hl.trans (by kernel_rfl))
  obtain ⟨s0, e0, w0⟩ := (show TR enc W 3 [c0] from by simpa [cint] using hf 0 _ rfl).int
  obtain ⟨s1, e1, w1⟩ := (show TR enc W 3 [c1] from by simpa [cint] using hf 1 _ rfl).int
  simp only [List.cons.injEq, and_true] at e0 e1
  subst e0 e1
  exact ⟨(s0, s1), rfl, trivial⟩
theorem TR.crel {cs : List Value} (h : TR enc W 56 cs) : ∃ x : CRA, cs = x.cells ∧ PVal W (.slice x.ca x.cl x.cc) x.pts := by
  obtain ⟨hl, hf⟩ := h.agg Try.underlying56
  obtain ⟨c0, c1, c2, c3, c4, c5, rfl⟩ := list6 (hl.trans (by kernel_rfl))
  obtain ⟨s0, e0, w0⟩ := (show TR enc W 9 [c0] from by simpa [cstr] using hf 0 _ rfl).str
  obtain ⟨s1, e1, w1⟩ := (show TR enc W 9 [c1] from by simpa [cstr] using hf 1 _ rfl).str
  obtain ⟨s2, e2, w2⟩ := (show TR enc W 9 [c2] from by simpa [cstr] using hf 2 _ rfl).str
  obtain ⟨v3, l3, e3, r3, _⟩ := (show TR enc W 54 [c3] from by simpa [show Try.prog.cellsOf 54 = 1 from by kernel_rfl] using hf 3 _ rfl).slice (α := Int × Int) (f := fun p => [.int .i64 p.1, .int .i64 p.2]) (Q := fun _ => True) Try.underlying54 (sz := 2) (by kernel_rfl) (by decide) (fun _ => rfl) (fun cs h => h.pt)
  obtain ⟨s4, e4, w4⟩ := (show TR enc W 3 [c4] from by simpa [cint] using hf 4 _ rfl).int
  obtain ⟨s5, e5, w5⟩ := (show TR enc W 3 [c5] from by simpa [cint] using hf 5 _ rfl).int
  simp only [List.cons.injEq, and_true] at e0 e1 e2 e3 e4 e5
  subst e0 e1 e2 e3 e4 e5
  obtain ⟨a, c, rfl⟩ := r3.slice
  exact ⟨⟨s0, s1, s2, a, l3.length, c, l3, s4, s5⟩, rfl, PVal.of_reads r3⟩
set_option maxRecDepth 10000 in
theorem open_crel {base : Nat} {v : Value} {d : DataW H} {p : List MemPlace} (hok : Value.okWide Try.prog W .any base 56 v) (h : DataW.Trod enc Try.prog W 0 (fun _ => true) true 56 v d p) :
    ∃ x : CRA, v = .agg x.cells.toArray ∧ PVal W (.slice x.ca x.cl x.cc) x.pts := by
  obtain ⟨cs, rfl, hT⟩ := open_struct Try.underlying56 hok h
  obtain ⟨x, e, hr⟩ := hT.crel
  exact ⟨x, by rw [← Array.toArray_toList (xs := cs), e], hr⟩
set_option maxRecDepth 10000 in
theorem open_crels {base : Nat} {v : Value} {d : DataW H} {p : List MemPlace} (hok : Value.okWide Try.prog W .any base 63 v) (h : DataW.Trod enc Try.prog W 0 (fun _ => true) true 63 v d p) :
    ∃ l : List CRA, CRels W v l := by
  obtain ⟨a, len, cap, rfl⟩ := okWide_slice Try.underlying63 hok
  obtain ⟨fuel, hf⟩ := h
  obtain ⟨v', l, e, hr, hq⟩ := TR.slice (enc := enc) (W := W) (α := CRA) (Q := fun x => PVal W (.slice x.ca x.cl x.cc) x.pts) (cs := [.slice a len cap]) Try.underlying63 (sz := 6) (by kernel_rfl) (by decide) (fun _ => rfl) (fun cs h => h.crel) ⟨fuel, _, by simpa [Value.cells] using hf⟩
  simp only [List.cons.injEq, and_true] at e
  subst e
  exact ⟨l, hr, hq⟩
end
end Go.Proofs.Ytplebibabcdipaa
