/- Lists of structs as flat cells; the devices of a network. What netmodel.Check computes, in plain Lean. A network in memory: what its six slices read as. -/
import Derived.Test.YthcddboeejbncaaPzStr6
namespace Go.Proofs.Ythcddboeejbncaa
open Go.RowKit

def flat {α : Type} (f : α → List Value) (l : List α) : List Value := l.flatMap f
theorem flat_get {α : Type} {f : α → List Value} {sz : Nat} (hf : ∀ x, (f x).length = sz) : ∀ (l : List α) (i j : Nat) (x : α), l[i]? = some x → j < sz → (flat f l)[i * sz + j]? = (f x)[j]? := by
  intro l
  induction l with
  | nil => intro i j x h _; simp at h
  | cons y ys ih =>
    intro i j x h hj
    have e : flat f (y :: ys) = f y ++ flat f ys := by unfold flat; simp
    rw [e]
    cases i with
    | zero =>
      simp at h; subst h
      rw [Nat.zero_mul, Nat.zero_add, List.getElem?_append_left (by rw [hf]; exact hj)]
    | succ i =>
      have h' : ys[i]? = some x := by simpa using h
      have e1 : (i + 1) * sz + j = sz + (i * sz + j) := by rw [Nat.add_mul]; omega
      rw [e1, List.getElem?_append_right (by rw [hf]; omega), hf, Nat.add_sub_cancel_left]
      exact ih i j x h' hj
theorem flat_len {α : Type} {f : α → List Value} {sz : Nat} (hf : ∀ x, (f x).length = sz) (l : List α) : (flat f l).length = l.length * sz := by
  induction l with
  | nil => simp [flat]
  | cons y ys ih =>
    have e : flat f (y :: ys) = f y ++ flat f ys := by unfold flat; simp
    rw [e, List.length_append, hf, ih, List.length_cons, Nat.add_mul]; omega

structure NSw where
  name : ByteArray
  a : ByteArray
  b : ByteArray
  brk : Bool
  opn : Bool
def NSw.cells (x : NSw) : List Value := [.string x.name, .string x.a, .string x.b, .bool x.brk, .bool x.opn]
structure NBr where
  name : ByteArray
  fr : ByteArray
  to : ByteArray
  x : Int
  tap : Int
  sh : Int
  lim : Int
  shrt : Int
  hold : Int
def NBr.cells (x : NBr) : List Value := [.string x.name, .string x.fr, .string x.to, .int .i64 x.x, .int .i64 x.tap, .int .i64 x.sh, .int .i64 x.lim, .int .i64 x.shrt, .int .i64 x.hold]
structure NGen where
  name : ByteArray
  node : ByteArray
  least : Int
  most : Int
  ramp : Int
def NGen.cells (x : NGen) : List Value := [.string x.name, .string x.node, .int .i64 x.least, .int .i64 x.most, .int .i64 x.ramp]
structure NLoad where
  name : ByteArray
  node : ByteArray
  dem : Int
def NLoad.cells (x : NLoad) : List Value := [.string x.name, .string x.node, .int .i64 x.dem]
structure NStore where
  name : ByteArray
  node : ByteArray
  chg : Int
  dis : Int
  cap : Int
def NStore.cells (x : NStore) : List Value := [.string x.name, .string x.node, .int .i64 x.chg, .int .i64 x.dis, .int .i64 x.cap]
/-- A cell of an element of a list of structs. -/
theorem Reads.elem {α : Type} {f : α → List Value} {sz : Nat} {w : World} {b off : Nat} {l : List α} (hf : ∀ x, (f x).length = sz)
    (h : ∀ j u, (flat f l)[j]? = some u → w.cell? ⟨b, off + j, none⟩ = some u) {i : Nat} {x : α} (hi : l[i]? = some x) {j : Nat} {u : Value} (hj : j < sz) (hu : (f x)[j]? = some u) : w.cell? ⟨b, off + (i * sz + j), none⟩ = some u :=
  h _ u (by rw [flat_get hf l i j x hi hj]; exact hu)
end Go.Proofs.Ythcddboeejbncaa
namespace Go.Proofs.Ythcddboeejbncaa
open Go.RowKit

structure Net where
  nodes : List ByteArray
  sws : List NSw
  brs : List NBr
  gens : List NGen
  loads : List NLoad
  stores : List NStore

/-- The names of the nodes, one after another. -/
def addAll : List ByteArray → List ByteArray → Int × List ByteArray
  | [], met => (0, met)
  | s :: ss, met => if (addR met s).1 ≠ 0 then addR met s else addAll ss (addR met s).2
/-- Devices one after another: their names, their nodes, and a test of each. -/
def devAll {α : Type} (nl : List ByteArray) (name : α → ByteArray) (ends : α → List ByteArray) (test : α → Int) : List α → List ByteArray → Int × List ByteArray
  | [], met => (0, met)
  | x :: xs, met =>
    if deviceE nl met (name x) (ends x) ≠ 0 then (deviceE nl met (name x) (ends x), (addR met (name x)).2)
    else if test x ≠ 0 then (test x, (addR met (name x)).2)
    else devAll nl name ends test xs (addR met (name x)).2
def sameB (x y : ByteArray) : Bool := x.toList == y.toList
def NSw.test (x : NSw) : Int := if sameB x.a x.b = true then 3 else 0
def NBr.test (x : NBr) : Int := if sameB x.fr x.to = true then 3 else brE x.x x.tap x.sh x.lim x.shrt x.hold
def NGen.test (x : NGen) : Int := if (withinB x.least 0 100000 && (withinB x.most x.least 100000 && withinB x.ramp 0 100000)) = true then 0 else 4
def NLoad.test (x : NLoad) : Int := if withinB x.dem 0 100000 = true then 0 else 4
def NStore.test (x : NStore) : Int := if (withinB x.chg 0 100000 && (withinB x.dis 0 100000 && withinB x.cap 0 100000)) = true then 0 else 4
/-- Generators, loads, storages. -/
def srcE (n : Net) (met : List ByteArray) : Int :=
  let g := devAll n.nodes NGen.name (fun x => [x.node]) NGen.test n.gens met
  if g.1 ≠ 0 then g.1 else
  let l := devAll n.nodes NLoad.name (fun x => [x.node]) NLoad.test n.loads g.2
  if l.1 ≠ 0 then l.1 else (devAll n.nodes NStore.name (fun x => [x.node]) NStore.test n.stores l.2).1
def netE (n : Net) : Int :=
  if sizesE n.nodes.length n.sws.length n.brs.length n.gens.length n.loads.length n.stores.length ≠ 0 then 2 else
  let a := addAll n.nodes []
  if a.1 ≠ 0 then a.1 else
  let s := devAll n.nodes NSw.name (fun x => [x.a, x.b]) NSw.test n.sws a.2
  if s.1 ≠ 0 then s.1 else
  let b := devAll n.nodes NBr.name (fun x => [x.fr, x.to]) NBr.test n.brs s.2
  if b.1 ≠ 0 then b.1 else srcE n b.2
theorem addR_len (met : List ByteArray) (s : ByteArray) : (addR met s).2.length ≤ met.length + 1 := by
  unfold addR; split
  · simp
  · split <;> simp
theorem addAll_drop {l met : List ByteArray} {k : Nat} (h : k < l.length) : addAll (l.drop k) met = if (addR met (l.getD k ByteArray.empty)).1 ≠ 0 then addR met (l.getD k ByteArray.empty) else addAll (l.drop (k + 1)) (addR met (l.getD k ByteArray.empty)).2 := by
  rw [List.drop_eq_getElem_cons h]
  conv => lhs; unfold addAll
  simp [h]
theorem devAll_drop {α : Type} {nl : List ByteArray} {name : α → ByteArray} {ends : α → List ByteArray} {test : α → Int} {l : List α} {met : List ByteArray} {k : Nat} {x : α} (h : l[k]? = some x) :
    devAll nl name ends test (l.drop k) met =
    if deviceE nl met (name x) (ends x) ≠ 0 then (deviceE nl met (name x) (ends x), (addR met (name x)).2)
    else if test x ≠ 0 then (test x, (addR met (name x)).2)
    else devAll nl name ends test (l.drop (k + 1)) (addR met (name x)).2 := by
  obtain ⟨hk, hx⟩ := List.getElem?_eq_some_iff.1 h
  rw [List.drop_eq_getElem_cons hk, hx]
  rfl
end Go.Proofs.Ythcddboeejbncaa
namespace Go.Proofs.Ythcddboeejbncaa
open Go.RowKit

/-- The addresses of a network's slices, their lengths and capacities. -/
structure NAddr where
  na : Option Addr
  nc : Nat
  sa : Option Addr
  sc : Nat
  ba : Option Addr
  bc : Nat
  ga : Option Addr
  gc : Nat
  la : Option Addr
  lc : Nat
  ta : Option Addr
  tc : Nat
abbrev NAddr.val (x : NAddr) (n : Net) : Value :=
  netV x.na n.nodes.length x.nc x.sa n.sws.length x.sc x.ba n.brs.length x.bc x.ga n.gens.length x.gc x.la n.loads.length x.lc x.ta n.stores.length x.tc
/-- What a network reads as in a world. -/
structure NetR (w : World) (x : NAddr) (n : Net) : Prop where
  nodes : Reads w (.slice x.na n.nodes.length x.nc) n.nodes.length (strs n.nodes)
  sws : Reads w (.slice x.sa n.sws.length x.sc) n.sws.length (flat NSw.cells n.sws)
  brs : Reads w (.slice x.ba n.brs.length x.bc) n.brs.length (flat NBr.cells n.brs)
  gens : Reads w (.slice x.ga n.gens.length x.gc) n.gens.length (flat NGen.cells n.gens)
  loads : Reads w (.slice x.la n.loads.length x.lc) n.loads.length (flat NLoad.cells n.loads)
  stores : Reads w (.slice x.ta n.stores.length x.tc) n.stores.length (flat NStore.cells n.stores)
theorem NetR.below {w w' : World} {x : NAddr} {n : Net} (h : NetR w x n) (k : Below w.heap.size w w') : NetR w' x n :=
  ⟨h.nodes.below k, h.sws.below k, h.brs.below k, h.gens.below k, h.loads.below k, h.stores.below k⟩
/-- All of a network lies below a block. -/
structure NAddr.Low (x : NAddr) (N : Net) (b : Nat) : Prop where
  n : strs N.nodes ≠ [] → ∀ y, x.na = some y → y.block < b
  s : flat NSw.cells N.sws ≠ [] → ∀ y, x.sa = some y → y.block < b
  r : flat NBr.cells N.brs ≠ [] → ∀ y, x.ba = some y → y.block < b
  g : flat NGen.cells N.gens ≠ [] → ∀ y, x.ga = some y → y.block < b
  l : flat NLoad.cells N.loads ≠ [] → ∀ y, x.la = some y → y.block < b
  t : flat NStore.cells N.stores ≠ [] → ∀ y, x.ta = some y → y.block < b
theorem Reads.is_low {w : World} {n c : Nat} {a : Option Addr} {cs : List Value} (h : Reads w (.slice a n c) n cs) : cs ≠ [] → ∀ y, a = some y → y.block < w.heap.size := by
  intro hne y hy
  rcases h with ⟨_, h, _⟩ | ⟨g, off, cap, h1, _, _, h4, _⟩
  · exact absurd h hne
  · simp only [Value.slice.injEq] at h1
    obtain ⟨e, _, _⟩ := h1
    rw [hy] at e
    cases e; exact h4
theorem NetR.isLow {w : World} {x : NAddr} {n : Net} (h : NetR w x n) : x.Low n w.heap.size :=
  ⟨h.nodes.is_low, h.sws.is_low, h.brs.is_low, h.gens.is_low, h.loads.is_low, h.stores.is_low⟩
theorem NAddr.Low.mono {x : NAddr} {n : Net} {b b' : Nat} (h : x.Low n b) (hb : b ≤ b') : x.Low n b' :=
  ⟨fun p y q => Nat.lt_of_lt_of_le (h.n p y q) hb, fun p y q => Nat.lt_of_lt_of_le (h.s p y q) hb, fun p y q => Nat.lt_of_lt_of_le (h.r p y q) hb, fun p y q => Nat.lt_of_lt_of_le (h.g p y q) hb, fun p y q => Nat.lt_of_lt_of_le (h.l p y q) hb, fun p y q => Nat.lt_of_lt_of_le (h.t p y q) hb⟩
theorem NetR.low {w w' : World} {x : NAddr} {n : Net} {b : Nat} (h : NetR w x n) (hx : x.Low n b) (k : Below b w w') : NetR w' x n :=
  ⟨h.nodes.low hx.n k, h.sws.low hx.s k, h.brs.low hx.r k, h.gens.low hx.g k, h.loads.low hx.l k, h.stores.low hx.t k⟩
/-- What every network that comes in has: strings that a machine can hold, and numbers of 64 bits. -/
structure Net.Wf (n : Net) : Prop where
  nodes : ∀ s ∈ n.nodes, s.size ≤ 9223372036854775807
  sws : ∀ x ∈ n.sws, x.name.size ≤ 9223372036854775807
  brs : ∀ x ∈ n.brs, x.name.size ≤ 9223372036854775807
  gens : ∀ x ∈ n.gens, x.name.size ≤ 9223372036854775807
  loads : ∀ x ∈ n.loads, x.name.size ≤ 9223372036854775807
  stores : ∀ x ∈ n.stores, x.name.size ≤ 9223372036854775807
/-- A block that is of another type than the names' row is left alone by what adds names. -/
theorem NS.own_ne {b j : Nat} {met : List ByteArray} {W : World} (h : NS b met W) {c : Array Value} {t : TypeId} (hj : Blk W j c t) (ht : t ≠ 9) : ∀ lv, Blk W b #[lv] 105 → lv.ownBlock ≠ some j := by
  obtain ⟨lv0, h1, h2, h3⟩ := h
  intro lv hl hj'
  have e : lv = lv0 := by
    unfold Blk at h1 hl
    rw [h1] at hl
    injection hl with hl; injection hl with hl; simpa using hl.symm
  subst e
  rcases h2.2 with ⟨rfl, _⟩ | ⟨g, cap, cur, rfl, _, hh, _⟩
  · cases hj'
  · have : g = j := Option.some.inj hj'
    subst this
    unfold Blk at hj
    rw [hh] at hj
    injection hj with hj; injection hj with _ hj _
    exact ht hj.symm
theorem NS.keep {b j : Nat} {met : List ByteArray} {W W' : World} (h : NS b met W) (k : Frame b W W') {c : Array Value} {t : TypeId} (hj : Blk W j c t) (ht : t ≠ 9) (hb : j ≠ b) : Blk W' j c t := by
  have := k j hj.lt hb (h.own_ne hj ht)
  unfold Blk at hj ⊢
  rw [this]; exact hj
end Go.Proofs.Ythcddboeejbncaa
