/- Parameters opened: slices of structs, structs of cells; a network that comes in. -/
import Derived.Test.YthcddboeejbncaaPzNetR
import Derived.ProofKit
import Derived.ChangeSlices
import Derived.Lib.SmallJoins
import Derived.Deep.Slices
namespace Go.Proofs.Ythcddboeejbncaa
open Go.RowKit Go.ChangeShapes Go.WideShapes

section
variable {H : Type} {enc : TypeId × Value → H} {W : World}

/-- The cells cs read at the type t. -/
def TR (enc : TypeId × Value → H) (W : World) (t : TypeId) (cs : List Value) : Prop := ∃ n x, DataW.trod enc Try.prog W 0 (fun _ => true) true n t cs = some x
theorem TR.int {cs : List Value} (h : TR enc W 3 cs) : ∃ n : Int, cs = [.int .i64 n] ∧ (Lit.int .i64 n).wf = true := by
  obtain ⟨n, x, h⟩ := h
  obtain ⟨m, e, _, w⟩ := DataW.trod_int Try.underlying3 h
  exact ⟨m, e, w⟩
theorem TR.str {cs : List Value} (h : TR enc W 9 cs) : ∃ s : ByteArray, cs = [.string s] ∧ s.size ≤ 9223372036854775807 := by
  obtain ⟨n, x, h⟩ := h
  obtain ⟨s, e, _, w⟩ := DataW.trod_string Try.underlying9 h
  exact ⟨s, e, by unfold maxLen at w; omega⟩
theorem TR.bool {cs : List Value} (h : TR enc W 4 cs) : ∃ b : Bool, cs = [.bool b] := by
  obtain ⟨n, x, h⟩ := h
  obtain ⟨b, e, _⟩ := DataW.trod_bool Try.underlying4 h
  exact ⟨b, e⟩
theorem TR.agg {fs : Array Field} {t : TypeId} {cs : List Value} (ht : Try.prog.underlying t = some (.struct fs)) (h : TR enc W t cs) :
    cs.length = Try.prog.cellsOf t ∧ ∀ (i : Nat) (f : Field), fs[i]? = some f → TR enc W f.type ((cs.drop f.offset).take (Try.prog.cellsOf f.type)) := by
  obtain ⟨n, x, h⟩ := h
  obtain ⟨xs, m, rfl, _, hl, hx, hf⟩ := DataW.trod_struct ht h
  refine ⟨hl, fun i f hi => ⟨m, xs.getD i (.nil, []), ?_⟩⟩
  rw [hf i f hi]
  have : i < xs.length := by rw [hx]; exact (Array.getElem?_eq_some_iff.1 hi).1
  simp [this]
theorem add_none (b off j : Nat) : (⟨b, off, none⟩ : Addr).add j = ⟨b, off + j, none⟩ := by unfold Addr.add; split <;> simp_all
theorem spot_none {w : World} {b off : Nat} {s : Option Nat} {v : Value} (h : w.cell? ((⟨b, off, s⟩ : Addr).add 0) = some v) : s = none := by
  cases s with
  | none => rfl
  | some s =>
    exfalso
    simp only [Addr.add, if_true, World.cell?] at h
    split at h <;> simp at h
theorem range_get {α : Type} {n : Nat} {f : Nat → α} {i : Nat} {a : α} (h : ((List.range n).map f)[i]? = some a) : i < n ∧ a = f i := by
  have hi := (List.getElem?_eq_some_iff.1 h).1
  simp at hi
  simp [hi] at h
  exact ⟨hi, h.symm⟩
/-- A slice whose elements are read by `ho`. -/
theorem TR.slice {α : Type} [Inhabited α] {f : α → List Value} {sz : Nat} {Q : α → Prop} {t e : TypeId} (ht : Try.prog.underlying t = some (.slice e)) (hc : Try.prog.cellsOf e = sz) (hz : 0 < sz) (hf : ∀ x, (f x).length = sz)
    (ho : ∀ cs, TR enc W e cs → ∃ a, cs = f a ∧ Q a) {cs : List Value} (h : TR enc W t cs) : ∃ (v : Value) (l : List α), cs = [v] ∧ Reads W v l.length (flat f l) ∧ ∀ a ∈ l, Q a := by
  obtain ⟨n, x, h⟩ := h
  rcases Go.Deep.open_slice ht h with ⟨rfl, _⟩ | ⟨a, len, cap, m, n, D, Pl, rfl, _, hl, hm, hmm, _, hx⟩
  · exact ⟨.slice none 0 0, [], rfl, Or.inl ⟨rfl, rfl, none, 0, rfl⟩, fun a ha => by cases ha⟩
  · simp only [if_true] at hmm
    rw [hc] at hx
    obtain ⟨A, hA⟩ := Go.Deep.choose_lt (n := len) (p := fun i (z : α) => W.cells? 0 (a.add (i * sz)) sz = some (f z) ∧ Q z) (fun i hi => by
      obtain ⟨cs', h1, h2⟩ := hx i (by omega)
      obtain ⟨z, rfl, hq⟩ := ho cs' ⟨_, _, h2⟩
      exact ⟨z, h1, hq⟩)
    refine ⟨_, (List.range len).map A, rfl, ?_, fun z hz => ?_⟩
    · rw [List.length_map, List.length_range]
      rcases Nat.eq_zero_or_pos len with h0 | h0
      · subst h0; exact Or.inl ⟨rfl, rfl, some a, cap, rfl⟩
      · obtain ⟨b, off, spot⟩ := a
        obtain ⟨_, hlen, hcell⟩ := World.cells?_some (hA 0 h0).1
        have c0 := hcell 0 hz
        obtain ⟨u0, hu0⟩ : ∃ u, (f (A 0))[0]? = some u := ⟨_, List.getElem?_eq_getElem (by rw [hf]; exact hz)⟩
        rw [hu0] at c0
        have hs : spot = none := spot_none (b := b) (off := off) (by simpa [Addr.add] using c0)
        subst hs
        refine Or.inr ⟨b, off, cap, rfl, hl, by unfold maxLen at hm; omega, World.block_lt_of_cell? W _ (by simpa [Addr.add] using c0), fun j u hj => ?_⟩
        have hjl : j < len * sz := by
          have := (List.getElem?_eq_some_iff.1 hj).1
          rw [flat_len hf, List.length_map, List.length_range] at this
          exact this
        have hq : j / sz < len := (Nat.div_lt_iff_lt_mul hz).2 hjl
        have hr : j % sz < sz := Nat.mod_lt _ hz
        have ej : j = j / sz * sz + j % sz := by rw [Nat.mul_comm]; exact (Nat.div_add_mod j sz).symm
        have hg := flat_get hf ((List.range len).map A) (j / sz) (j % sz) (A (j / sz)) (by simp [hq]) hr
        rw [← ej, hj] at hg
        obtain ⟨_, _, hcell'⟩ := World.cells?_some (hA (j / sz) hq).1
        have := hcell' (j % sz) hr
        rw [← hg, add_none, add_none] at this
        have e2 : off + j = off + j / sz * sz + j % sz := by omega
        rw [e2]
        exact this
    · obtain ⟨i, hi⟩ := List.getElem?_of_mem hz
      obtain ⟨hi', rfl⟩ := range_get hi
      exact (hA i hi').2

theorem list3 {α : Type} {l : List α} (h : l.length = 3) : ∃ a b c, l = [a, b, c] := by
  match l, h with
  | [a, b, c], _ => exact ⟨a, b, c, rfl⟩
theorem list5 {α : Type} {l : List α} (h : l.length = 5) : ∃ a b c d e, l = [a, b, c, d, e] := by
  match l, h with
  | [a, b, c, d, e], _ => exact ⟨a, b, c, d, e, rfl⟩
theorem list6 {α : Type} {l : List α} (h : l.length = 6) : ∃ a b c d e f, l = [a, b, c, d, e, f] := by
  match l, h with
  | [a, b, c, d, e, f], _ => exact ⟨a, b, c, d, e, f, rfl⟩
theorem list9 {α : Type} {l : List α} (h : l.length = 9) : ∃ a b c d e f g i j, l = [a, b, c, d, e, f, g, i, j] := by
  match l, h with
  | [a, b, c, d, e, f, g, i, j], _ => exact ⟨a, b, c, d, e, f, g, i, j, rfl⟩
theorem cint : Try.prog.cellsOf 3 = 1 := by kernel_rfl
theorem cstr : Try.prog.cellsOf 9 = 1 := by kernel_rfl
theorem cbool : Try.prog.cellsOf 4 = 1 := by kernel_rfl

theorem TR.sw {cs : List Value} (h : TR enc W 108 cs) : ∃ x : NSw, cs = x.cells ∧ x.name.size ≤ 9223372036854775807 := by
  obtain ⟨hl, hf⟩ := h.agg Try.underlying108
  obtain ⟨c0, c1, c2, c3, c4, rfl⟩ := list5 (hl.trans (by kernel_rfl))
  obtain ⟨s0, e0, w0⟩ := (show TR enc W 9 [c0] from by simpa [cstr] using hf 0 _ rfl).str
  obtain ⟨s1, e1, w1⟩ := (show TR enc W 9 [c1] from by simpa [cstr] using hf 1 _ rfl).str
  obtain ⟨s2, e2, w2⟩ := (show TR enc W 9 [c2] from by simpa [cstr] using hf 2 _ rfl).str
  obtain ⟨s3, e3⟩ := (show TR enc W 4 [c3] from by simpa [cbool] using hf 3 _ rfl).bool
  obtain ⟨s4, e4⟩ := (show TR enc W 4 [c4] from by simpa [cbool] using hf 4 _ rfl).bool
  simp only [List.cons.injEq, and_true] at e0 e1 e2 e3 e4
  subst e0 e1 e2 e3 e4
  exact ⟨⟨s0, s1, s2, s3, s4⟩, rfl, w0⟩
theorem TR.br {cs : List Value} (h : TR enc W 53 cs) : ∃ x : NBr, cs = x.cells ∧ x.name.size ≤ 9223372036854775807 := by
  obtain ⟨hl, hf⟩ := h.agg Try.underlying53
  obtain ⟨c0, c1, c2, c3, c4, c5, c6, c7, c8, rfl⟩ := list9 (hl.trans (by kernel_rfl))
  obtain ⟨s0, e0, w0⟩ := (show TR enc W 9 [c0] from by simpa [cstr] using hf 0 _ rfl).str
  obtain ⟨s1, e1, w1⟩ := (show TR enc W 9 [c1] from by simpa [cstr] using hf 1 _ rfl).str
  obtain ⟨s2, e2, w2⟩ := (show TR enc W 9 [c2] from by simpa [cstr] using hf 2 _ rfl).str
  obtain ⟨s3, e3, w3⟩ := (show TR enc W 3 [c3] from by simpa [cint] using hf 3 _ rfl).int
  obtain ⟨s4, e4, w4⟩ := (show TR enc W 3 [c4] from by simpa [cint] using hf 4 _ rfl).int
  obtain ⟨s5, e5, w5⟩ := (show TR enc W 3 [c5] from by simpa [cint] using hf 5 _ rfl).int
  obtain ⟨s6, e6, w6⟩ := (show TR enc W 3 [c6] from by simpa [cint] using hf 6 _ rfl).int
  obtain ⟨s7, e7, w7⟩ := (show TR enc W 3 [c7] from by simpa [cint] using hf 7 _ rfl).int
  obtain ⟨s8, e8, w8⟩ := (show TR enc W 3 [c8] from by simpa [cint] using hf 8 _ rfl).int
  simp only [List.cons.injEq, and_true] at e0 e1 e2 e3 e4 e5 e6 e7 e8
  subst e0 e1 e2 e3 e4 e5 e6 e7 e8
  exact ⟨⟨s0, s1, s2, s3, s4, s5, s6, s7, s8⟩, rfl, w0⟩
theorem TR.gen {cs : List Value} (h : TR enc W 128 cs) : ∃ x : NGen, cs = x.cells ∧ x.name.size ≤ 9223372036854775807 := by
  obtain ⟨hl, hf⟩ := h.agg Try.underlying128
  obtain ⟨c0, c1, c2, c3, c4, rfl⟩ := list5 (hl.trans (by kernel_rfl))
  obtain ⟨s0, e0, w0⟩ := (show TR enc W 9 [c0] from by simpa [cstr] using hf 0 _ rfl).str
  obtain ⟨s1, e1, w1⟩ := (show TR enc W 9 [c1] from by simpa [cstr] using hf 1 _ rfl).str
  obtain ⟨s2, e2, w2⟩ := (show TR enc W 3 [c2] from by simpa [cint] using hf 2 _ rfl).int
  obtain ⟨s3, e3, w3⟩ := (show TR enc W 3 [c3] from by simpa [cint] using hf 3 _ rfl).int
  obtain ⟨s4, e4, w4⟩ := (show TR enc W 3 [c4] from by simpa [cint] using hf 4 _ rfl).int
  simp only [List.cons.injEq, and_true] at e0 e1 e2 e3 e4
  subst e0 e1 e2 e3 e4
  exact ⟨⟨s0, s1, s2, s3, s4⟩, rfl, w0⟩
theorem TR.store {cs : List Value} (h : TR enc W 132 cs) : ∃ x : NStore, cs = x.cells ∧ x.name.size ≤ 9223372036854775807 := by
  obtain ⟨hl, hf⟩ := h.agg Try.underlying132
  obtain ⟨c0, c1, c2, c3, c4, rfl⟩ := list5 (hl.trans (by kernel_rfl))
  obtain ⟨s0, e0, w0⟩ := (show TR enc W 9 [c0] from by simpa [cstr] using hf 0 _ rfl).str
  obtain ⟨s1, e1, w1⟩ := (show TR enc W 9 [c1] from by simpa [cstr] using hf 1 _ rfl).str
  obtain ⟨s2, e2, w2⟩ := (show TR enc W 3 [c2] from by simpa [cint] using hf 2 _ rfl).int
  obtain ⟨s3, e3, w3⟩ := (show TR enc W 3 [c3] from by simpa [cint] using hf 3 _ rfl).int
  obtain ⟨s4, e4, w4⟩ := (show TR enc W 3 [c4] from by simpa [cint] using hf 4 _ rfl).int
  simp only [List.cons.injEq, and_true] at e0 e1 e2 e3 e4
  subst e0 e1 e2 e3 e4
  exact ⟨⟨s0, s1, s2, s3, s4⟩, rfl, w0⟩
theorem TR.load {cs : List Value} (h : TR enc W 130 cs) : ∃ x : NLoad, cs = x.cells ∧ x.name.size ≤ 9223372036854775807 := by
  obtain ⟨hl, hf⟩ := h.agg Try.underlying130
  obtain ⟨c0, c1, c2, rfl⟩ := list3 (hl.trans (by kernel_rfl))
  obtain ⟨s0, e0, w0⟩ := (show TR enc W 9 [c0] from by simpa [cstr] using hf 0 _ rfl).str
  obtain ⟨s1, e1, w1⟩ := (show TR enc W 9 [c1] from by simpa [cstr] using hf 1 _ rfl).str
  obtain ⟨s2, e2, w2⟩ := (show TR enc W 3 [c2] from by simpa [cint] using hf 2 _ rfl).int
  simp only [List.cons.injEq, and_true] at e0 e1 e2
  subst e0 e1 e2
  exact ⟨⟨s0, s1, s2⟩, rfl, w0⟩
instance : Inhabited NSw := ⟨⟨.empty, .empty, .empty, false, false⟩⟩
instance : Inhabited NBr := ⟨⟨.empty, .empty, .empty, 0, 0, 0, 0, 0, 0⟩⟩
instance : Inhabited NGen := ⟨⟨.empty, .empty, 0, 0, 0⟩⟩
instance : Inhabited NLoad := ⟨⟨.empty, .empty, 0⟩⟩
instance : Inhabited NStore := ⟨⟨.empty, .empty, 0, 0, 0⟩⟩
theorem flat_one {α : Type} (g : α → Value) (l : List α) : flat (fun x => [g x]) l = l.map g := by
  induction l with
  | nil => rfl
  | cons x xs ih => simpa [flat] using ih
theorem TR.strs {cs : List Value} (h : TR enc W 22 cs) : ∃ (v : Value) (l : List ByteArray), cs = [v] ∧ SVal W v l ∧ ∀ s ∈ l, s.size ≤ 9223372036854775807 := by
  obtain ⟨v, l, e, hr, hq⟩ := h.slice (f := fun s => [Value.string s]) (Q := fun s => s.size ≤ 9223372036854775807) Try.underlying22 cstr (by decide) (fun _ => rfl) (fun cs h => by obtain ⟨s, e, w⟩ := h.str; exact ⟨s, e, w⟩)
  rw [flat_one] at hr
  exact ⟨v, l, e, hr, hq⟩
/-- A network that comes in. -/
theorem TR.net {cs : List Value} (h : TR enc W 29 cs) : ∃ (x : NAddr) (n : Net), cs = [.slice x.na n.nodes.length x.nc, .slice x.sa n.sws.length x.sc, .slice x.ba n.brs.length x.bc, .slice x.ga n.gens.length x.gc, .slice x.la n.loads.length x.lc, .slice x.ta n.stores.length x.tc] ∧ NetR W x n ∧ n.Wf := by
  obtain ⟨hl, hf⟩ := h.agg Try.underlying29
  obtain ⟨c0, c1, c2, c3, c4, c5, rfl⟩ := list6 (hl.trans (by kernel_rfl))
  obtain ⟨v0, l0, e0, r0, q0⟩ := (show TR enc W 22 [c0] from by simpa [show Try.prog.cellsOf 22 = 1 from by kernel_rfl] using hf 0 _ rfl).strs
  obtain ⟨v1, l1, e1, r1, q1⟩ := (show TR enc W 23 [c1] from by simpa [show Try.prog.cellsOf 23 = 1 from by kernel_rfl] using hf 1 _ rfl).slice Try.underlying23 (sz := 5) (by kernel_rfl) (by decide) (fun _ => rfl) (fun cs h => h.sw)
  obtain ⟨v2, l2, e2, r2, q2⟩ := (show TR enc W 24 [c2] from by simpa [show Try.prog.cellsOf 24 = 1 from by kernel_rfl] using hf 2 _ rfl).slice Try.underlying24 (sz := 9) (by kernel_rfl) (by decide) (fun _ => rfl) (fun cs h => h.br)
  obtain ⟨v3, l3, e3, r3, q3⟩ := (show TR enc W 25 [c3] from by simpa [show Try.prog.cellsOf 25 = 1 from by kernel_rfl] using hf 3 _ rfl).slice Try.underlying25 (sz := 5) (by kernel_rfl) (by decide) (fun _ => rfl) (fun cs h => h.gen)
  obtain ⟨v4, l4, e4, r4, q4⟩ := (show TR enc W 26 [c4] from by simpa [show Try.prog.cellsOf 26 = 1 from by kernel_rfl] using hf 4 _ rfl).slice Try.underlying26 (sz := 3) (by kernel_rfl) (by decide) (fun _ => rfl) (fun cs h => h.load)
  obtain ⟨v5, l5, e5, r5, q5⟩ := (show TR enc W 27 [c5] from by simpa [show Try.prog.cellsOf 27 = 1 from by kernel_rfl] using hf 5 _ rfl).slice Try.underlying27 (sz := 5) (by kernel_rfl) (by decide) (fun _ => rfl) (fun cs h => h.store)
  simp only [List.cons.injEq, and_true] at e0 e1 e2 e3 e4 e5
  subst e0 e1 e2 e3 e4 e5
  obtain ⟨a0, k0, rfl⟩ := r0.slice
  obtain ⟨a1, k1, rfl⟩ := r1.slice
  obtain ⟨a2, k2, rfl⟩ := r2.slice
  obtain ⟨a3, k3, rfl⟩ := r3.slice
  obtain ⟨a4, k4, rfl⟩ := r4.slice
  obtain ⟨a5, k5, rfl⟩ := r5.slice
  exact ⟨⟨a0, k0, a1, k1, a2, k2, a3, k3, a4, k4, a5, k5⟩, ⟨l0, l1, l2, l3, l4, l5⟩, rfl, ⟨r0, r1, r2, r3, r4, r5⟩, ⟨q0, q1, q2, q3, q4, q5⟩⟩
set_option maxRecDepth 10000 in
/-- A struct that comes in, by value. -/
theorem open_struct {t : TypeId} {fs : Array Field} {base : Nat} {v : Value} {d : DataW H} {p : List MemPlace} (hs : Try.prog.underlying t = some (.struct fs))
    (hok : Value.okWide Try.prog W .any base t v) (h : DataW.Trod enc Try.prog W 0 (fun _ => true) true t v d p) : ∃ cs : Array Value, v = .agg cs ∧ TR enc W t cs.toList := by
  have h1 : ∃ cs, v = .agg cs := by
    unfold Value.okWide at hok
    rw [hs] at hok
    obtain ⟨cs, hv, _⟩ := hok
    exact ⟨cs, hv⟩
  obtain ⟨cs, hv⟩ := h1
  subst hv
  obtain ⟨fuel, hf⟩ := h
  exact ⟨cs, rfl, fuel, _, by simpa [Value.cells] using hf⟩
set_option maxRecDepth 10000 in
theorem open_net {base : Nat} {v : Value} {d : DataW H} {p : List MemPlace} (hok : Value.okWide Try.prog W .any base 29 v) (h : DataW.Trod enc Try.prog W 0 (fun _ => true) true 29 v d p) :
    ∃ (x : NAddr) (n : Net), v = x.val n ∧ NetR W x n ∧ n.Wf := by
  obtain ⟨cs, rfl, hT⟩ := open_struct Try.underlying29 hok h
  obtain ⟨x, n, e, hr, hw⟩ := hT.net
  exact ⟨x, n, by rw [← Array.toArray_toList (xs := cs), e], hr, hw⟩
end
end Go.Proofs.Ythcddboeejbncaa
