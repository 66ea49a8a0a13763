/- A network in memory: what its six slices read as. -/
import Derived.Test.YtplebibabcdipaaNetE
namespace Go.Proofs.Ytplebibabcdipaa
open Go.RowKit

/-- The addresses of a network's slices, their lengths and capacities. -/
structure NAddr where
  na : Option Addr
  nc : Nat
  sa : Option Addr
  sc : Nat
  ba : Option Addr
  bc : Nat
  ga : Option Addr
  gc : Nat
  la : Option Addr
  lc : Nat
  ta : Option Addr
  tc : Nat
abbrev NAddr.val (x : NAddr) (n : Net) : Value :=
  netV x.na n.nodes.length x.nc x.sa n.sws.length x.sc x.ba n.brs.length x.bc x.ga n.gens.length x.gc x.la n.loads.length x.lc x.ta n.stores.length x.tc
/-- What a network reads as in a world. -/
structure NetR (w : World) (x : NAddr) (n : Net) : Prop where
  nodes : Reads w (.slice x.na n.nodes.length x.nc) n.nodes.length (strs n.nodes)
  sws : Reads w (.slice x.sa n.sws.length x.sc) n.sws.length (flat NSw.cells n.sws)
  brs : Reads w (.slice x.ba n.brs.length x.bc) n.brs.length (flat NBr.cells n.brs)
  gens : Reads w (.slice x.ga n.gens.length x.gc) n.gens.length (flat NGen.cells n.gens)
  loads : Reads w (.slice x.la n.loads.length x.lc) n.loads.length (flat NLoad.cells n.loads)
  stores : Reads w (.slice x.ta n.stores.length x.tc) n.stores.length (flat NStore.cells n.stores)
theorem NetR.below {w w' : World} {x : NAddr} {n : Net} (h : NetR w x n) (k : Below w.heap.size w w') : NetR w' x n :=
  ⟨h.nodes.below k, h.sws.below k, h.brs.below k, h.gens.below k, h.loads.below k, h.stores.below k⟩
/-- All of a network lies below a block. -/
structure NAddr.Low (x : NAddr) (N : Net) (b : Nat) : Prop where
  n : strs N.nodes ≠ [] → ∀ y, x.na = some y → y.block < b
  s : flat NSw.cells N.sws ≠ [] → ∀ y, x.sa = some y → y.block < b
  r : flat NBr.cells N.brs ≠ [] → ∀ y, x.ba = some y → y.block < b
  g : flat NGen.cells N.gens ≠ [] → ∀ y, x.ga = some y → y.block < b
  l : flat NLoad.cells N.loads ≠ [] → ∀ y, x.la = some y → y.block < b
  t : flat NStore.cells N.stores ≠ [] → ∀ y, x.ta = some y → y.block < b
theorem Reads.is_low {w : World} {n c : Nat} {a : Option Addr} {cs : List Value} (h : Reads w (.slice a n c) n cs) : cs ≠ [] → ∀ y, a = some y → y.block < w.heap.size := by
  intro hne y hy
  rcases h with ⟨_, h, _⟩ | ⟨g, off, cap, h1, _, _, h4, _⟩
  · exact absurd h hne
  · simp only [Value.slice.injEq] at h1
    obtain ⟨e, _, _⟩ := h1
    rw [hy] at e
    cases e; exact h4
theorem NetR.isLow {w : World} {x : NAddr} {n : Net} (h : NetR w x n) : x.Low n w.heap.size :=
  ⟨h.nodes.is_low, h.sws.is_low, h.brs.is_low, h.gens.is_low, h.loads.is_low, h.stores.is_low⟩
theorem NAddr.Low.mono {x : NAddr} {n : Net} {b b' : Nat} (h : x.Low n b) (hb : b ≤ b') : x.Low n b' :=
  ⟨fun p y q => Nat.lt_of_lt_of_le (h.n p y q) hb, fun p y q => Nat.lt_of_lt_of_le (h.s p y q) hb, fun p y q => Nat.lt_of_lt_of_le (h.r p y q) hb, fun p y q => Nat.lt_of_lt_of_le (h.g p y q) hb, fun p y q => Nat.lt_of_lt_of_le (h.l p y q) hb, fun p y q => Nat.lt_of_lt_of_le (h.t p y q) hb⟩
theorem NetR.low {w w' : World} {x : NAddr} {n : Net} {b : Nat} (h : NetR w x n) (hx : x.Low n b) (k : Below b w w') : NetR w' x n :=
  ⟨h.nodes.low hx.n k, h.sws.low hx.s k, h.brs.low hx.r k, h.gens.low hx.g k, h.loads.low hx.l k, h.stores.low hx.t k⟩
/-- What every network that comes in has: strings that a machine can hold, and numbers of 64 bits. -/
structure Net.Wf (n : Net) : Prop where
  nodes : ∀ s ∈ n.nodes, s.size ≤ 9223372036854775807
  sws : ∀ x ∈ n.sws, x.name.size ≤ 9223372036854775807
  brs : ∀ x ∈ n.brs, x.name.size ≤ 9223372036854775807
  gens : ∀ x ∈ n.gens, x.name.size ≤ 9223372036854775807
  loads : ∀ x ∈ n.loads, x.name.size ≤ 9223372036854775807
  stores : ∀ x ∈ n.stores, x.name.size ≤ 9223372036854775807
/-- A block that is of another type than the names' row is left alone by what adds names. -/
theorem NS.own_ne {b j : Nat} {met : List ByteArray} {W : World} (h : NS b met W) {c : Array Value} {t : TypeId} (hj : Blk W j c t) (ht : t ≠ 9) : ∀ lv, Blk W b #[lv] 142 → lv.ownBlock ≠ some j := by
  obtain ⟨lv0, h1, h2, h3⟩ := h
  intro lv hl hj'
  have e : lv = lv0 := by
    unfold Blk at h1 hl
    rw [h1] at hl
    injection hl with hl; injection hl with hl; simpa using hl.symm
  subst e
  rcases h2.2 with ⟨rfl, _⟩ | ⟨g, cap, cur, rfl, _, hh, _⟩
  · cases hj'
  · have : g = j := Option.some.inj hj'
    subst this
    unfold Blk at hj
    rw [hh] at hj
    injection hj with hj; injection hj with _ hj _
    exact ht hj.symm
theorem NS.keep {b j : Nat} {met : List ByteArray} {W W' : World} (h : NS b met W) (k : Frame b W W') {c : Array Value} {t : TypeId} (hj : Blk W j c t) (ht : t ≠ 9) (hb : j ≠ b) : Blk W' j c t := by
  have := k j hj.lt hb (h.own_ne hj ht)
  unfold Blk at hj ⊢
  rw [this]; exact hj
end Go.Proofs.Ytplebibabcdipaa
