/- Events that come in, opened. -/
import Derived.Test.YtjakhgilkogcnaaDoorJr3
import Derived.ProofKit
import Derived.ChangeSlices
import Derived.Lib.SmallJoins
import Derived.Deep.Slices
namespace Go.Proofs.YtjakhgilkogcnaaDoor
open Go.RowKit Go.ChangeShapes Go.WideShapes

section
variable {H : Type} {enc : TypeId × Value → H} {W : World}

/-- The cells cs read at the type t. -/
def TR (enc : TypeId × Value → H) (W : World) (t : TypeId) (cs : List Value) : Prop := ∃ n x, DataW.trod enc Tryd.prog W 0 (fun _ => true) true n t cs = some x
theorem TR.int {cs : List Value} (h : TR enc W 3 cs) : ∃ n : Int, cs = [.int .i64 n] ∧ (Lit.int .i64 n).wf = true := by
  obtain ⟨n, x, h⟩ := h
  obtain ⟨m, e, _, w⟩ := DataW.trod_int Tryd.underlying3 h
  exact ⟨m, e, w⟩
theorem TR.str {cs : List Value} (h : TR enc W 9 cs) : ∃ s : ByteArray, cs = [.string s] ∧ s.size ≤ 9223372036854775807 := by
  obtain ⟨n, x, h⟩ := h
  obtain ⟨s, e, _, w⟩ := DataW.trod_string Tryd.underlying9 h
  exact ⟨s, e, by unfold maxLen at w; omega⟩
theorem TR.agg {fs : Array Field} {t : TypeId} {cs : List Value} (ht : Tryd.prog.underlying t = some (.struct fs)) (h : TR enc W t cs) :
    cs.length = Tryd.prog.cellsOf t ∧ ∀ (i : Nat) (f : Field), fs[i]? = some f → TR enc W f.type ((cs.drop f.offset).take (Tryd.prog.cellsOf f.type)) := by
  obtain ⟨n, x, h⟩ := h
  obtain ⟨xs, m, rfl, _, hl, hx, hf⟩ := DataW.trod_struct ht h
  refine ⟨hl, fun i f hi => ⟨m, xs.getD i (.nil, []), ?_⟩⟩
  rw [hf i f hi]
  have : i < xs.length := by rw [hx]; exact (Array.getElem?_eq_some_iff.1 hi).1
  simp [this]
theorem add_none (b off j : Nat) : (⟨b, off, none⟩ : Addr).add j = ⟨b, off + j, none⟩ := by unfold Addr.add; split <;> simp_all
theorem spot_none {w : World} {b off : Nat} {s : Option Nat} {v : Value} (h : w.cell? ((⟨b, off, s⟩ : Addr).add 0) = some v) : s = none := by
  cases s with
  | none => rfl
  | some s =>
    exfalso
    simp only [Addr.add, if_true, World.cell?] at h
    split at h <;> simp at h
theorem range_get {α : Type} {n : Nat} {f : Nat → α} {i : Nat} {a : α} (h : ((List.range n).map f)[i]? = some a) : i < n ∧ a = f i := by
  have hi := (List.getElem?_eq_some_iff.1 h).1
  simp at hi
  simp [hi] at h
  exact ⟨hi, h.symm⟩
/-- A slice whose elements are read by `ho`. -/
theorem TR.slice {α : Type} [Inhabited α] {f : α → List Value} {sz : Nat} {Q : α → Prop} {t e : TypeId} (ht : Tryd.prog.underlying t = some (.slice e)) (hc : Tryd.prog.cellsOf e = sz) (hz : 0 < sz) (hf : ∀ x, (f x).length = sz)
    (ho : ∀ cs, TR enc W e cs → ∃ a, cs = f a ∧ Q a) {cs : List Value} (h : TR enc W t cs) : ∃ (v : Value) (l : List α), cs = [v] ∧ Reads W v l.length (flat f l) ∧ ∀ a ∈ l, Q a := by
  obtain ⟨n, x, h⟩ := h
  rcases Go.Deep.open_slice ht h with ⟨rfl, _⟩ | ⟨a, len, cap, m, n, D, Pl, rfl, _, hl, hm, hmm, _, hx⟩
  · exact ⟨.slice none 0 0, [], rfl, Or.inl ⟨rfl, rfl, none, 0, rfl⟩, fun a ha => by cases ha⟩
  · simp only [if_true] at hmm
    rw [hc] at hx
    obtain ⟨A, hA⟩ := Go.Deep.choose_lt (n := len) (p := fun i (z : α) => W.cells? 0 (a.add (i * sz)) sz = some (f z) ∧ Q z) (fun i hi => by
      obtain ⟨cs', h1, h2⟩ := hx i (by omega)
      obtain ⟨z, rfl, hq⟩ := ho cs' ⟨_, _, h2⟩
      exact ⟨z, h1, hq⟩)
    refine ⟨_, (List.range len).map A, rfl, ?_, fun z hz => ?_⟩
    · rw [List.length_map, List.length_range]
      rcases Nat.eq_zero_or_pos len with h0 | h0
      · subst h0; exact Or.inl ⟨rfl, rfl, some a, cap, rfl⟩
      · obtain ⟨b, off, spot⟩ := a
        obtain ⟨_, hlen, hcell⟩ := World.cells?_some (hA 0 h0).1
        have c0 := hcell 0 hz
        obtain ⟨u0, hu0⟩ : ∃ u, (f (A 0))[0]? = some u := ⟨_, List.getElem?_eq_getElem (by rw [hf]; exact hz)⟩
        rw [hu0] at c0
        have hs : spot = none := spot_none (b := b) (off := off) (by simpa [Addr.add] using c0)
        subst hs
        refine Or.inr ⟨b, off, cap, rfl, hl, by unfold maxLen at hm; omega, World.block_lt_of_cell? W _ (by simpa [Addr.add] using c0), fun j u hj => ?_⟩
        have hjl : j < len * sz := by
          have := (List.getElem?_eq_some_iff.1 hj).1
          rw [flat_len hf, List.length_map, List.length_range] at this
          exact this
        have hq : j / sz < len := (Nat.div_lt_iff_lt_mul hz).2 hjl
        have hr : j % sz < sz := Nat.mod_lt _ hz
        have ej : j = j / sz * sz + j % sz := by rw [Nat.mul_comm]; exact (Nat.div_add_mod j sz).symm
        have hg := flat_get hf ((List.range len).map A) (j / sz) (j % sz) (A (j / sz)) (by simp [hq]) hr
        rw [← ej, hj] at hg
        obtain ⟨_, _, hcell'⟩ := World.cells?_some (hA (j / sz) hq).1
        have := hcell' (j % sz) hr
        rw [← hg, add_none, add_none] at this
        have e2 : off + j = off + j / sz * sz + j % sz := by omega
        rw [e2]
        exact this
    · obtain ⟨i, hi⟩ := List.getElem?_of_mem hz
      obtain ⟨hi', rfl⟩ := range_get hi
      exact (hA i hi').2

theorem list4 {α : Type} {l : List α} (h : l.length = 4) : ∃ a b c d, l = [a, b, c, d] := by
  match l, h with
  | [a, b, c, d], _ => exact ⟨a, b, c, d, rfl⟩
theorem cint : Tryd.prog.cellsOf 3 = 1 := by kernel_rfl
theorem cstr : Tryd.prog.cellsOf 9 = 1 := by kernel_rfl
theorem TR.ev {cs : List Value} (h : TR enc W 31 cs) : ∃ x : Ev, cs = x.cells ∧ x.Wf := by
  obtain ⟨hl, hf⟩ := h.agg Tryd.underlying31
  obtain ⟨c0, c1, c2, c3, rfl⟩ := list4 (hl.trans (by kernel_rfl))
  obtain ⟨s0, e0, w0⟩ := (show TR enc W 3 [c0] from by simpa [cint] using hf 0 _ rfl).int
  obtain ⟨s1, e1, w1⟩ := (show TR enc W 9 [c1] from by simpa [cstr] using hf 1 _ rfl).str
  obtain ⟨s2, e2, w2⟩ := (show TR enc W 9 [c2] from by simpa [cstr] using hf 2 _ rfl).str
  obtain ⟨s3, e3, w3⟩ := (show TR enc W 3 [c3] from by simpa [cint] using hf 3 _ rfl).int
  simp only [List.cons.injEq, and_true] at e0 e1 e2 e3
  subst e0 e1 e2 e3
  exact ⟨⟨s0, s1, s2, s3⟩, rfl, w1, w2⟩
set_option maxRecDepth 10000 in
theorem open_evs {base : Nat} {v : Value} {d : DataW H} {p : List MemPlace} (hok : Value.okWide Tryd.prog W .any base 22 v) (h : DataW.Trod enc Tryd.prog W 0 (fun _ => true) true 22 v d p) :
    ∃ l : List Ev, EVal W v l ∧ Hid (∀ x ∈ l, x.Wf) := by
  obtain ⟨a, len, cap, rfl⟩ := okWide_slice Tryd.underlying22 hok
  obtain ⟨fuel, hf⟩ := h
  obtain ⟨v', l, e, hr, hq⟩ := TR.slice (enc := enc) (W := W) (α := Ev) (f := Ev.cells) (Q := Ev.Wf) (cs := [.slice a len cap]) Tryd.underlying22 (sz := 4) (by kernel_rfl) (by decide) (fun _ => rfl) (fun cs h => h.ev) ⟨fuel, _, by simpa [Value.cells] using hf⟩
  simp only [List.cons.injEq, and_true] at e
  subst e
  exact ⟨l, hr, hq⟩
end
end Go.Proofs.YtjakhgilkogcnaaDoor
