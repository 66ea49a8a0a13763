/- Small laws on worlds: a block known whole, and what a method that writes one block leaves alone. Slices that read as lists: whatever the elements. -/
import Derived.Test.YthcddboeejbncaaRows
import Derived.WalkKit
import Derived.WalkSpells
import Derived.WalkLawsBesides
import Derived.Deep.QuietTactic
import Derived.BigQuiet
import Derived.Deep.RegionHeld3
import Derived.RegionTactic
import Derived.BigRegion
import Derived.Deep.LoopGhost
import Derived.Lib.Hide
namespace Go.Proofs.Ythcddboeejbncaa
open Go.RowKit

/-- Block b holds the cells c of type t, none frozen. -/
def Blk (w : World) (b : Nat) (c : Array Value) (t : TypeId) : Prop := w.heap[b]? = some (.cells c t (0, 0))

theorem Blk.cell {w : World} {b : Nat} {c : Array Value} {t : TypeId} (h : Blk w b c t) (i : Nat) {v : Value} (hv : c[i]? = some v) : w.cell? ⟨b, i, none⟩ = some v := by
  unfold Blk at h; simp [World.cell?, h, hv]
theorem Blk.free {w : World} {b : Nat} {c : Array Value} {t : TypeId} (h : Blk w b c t) (i : Nat) : w.frozen? ⟨b, i, none⟩ = false := by
  unfold Blk at h; simp [World.frozen?, h]
theorem Blk.lt {w : World} {b : Nat} {c : Array Value} {t : TypeId} (h : Blk w b c t) : b < w.heap.size := by
  unfold Blk at h
  rcases Nat.lt_or_ge b w.heap.size with h' | h'
  · exact h'
  · simp [Array.getElem?_eq_none h'] at h
theorem Blk.set {w : World} {b : Nat} {c : Array Value} {t : TypeId} (h : Blk w b c t) (i : Nat) (v : Value) : Blk (w.setCell ⟨b, i, none⟩ v) b (c.setIfInBounds i v) t := by
  have hlt := h.lt
  unfold Blk at h ⊢
  have h' : w.heap[b] = .cells c t := by simpa [Array.getElem?_eq_getElem hlt] using h
  show (w.heap.modify b _)[b]? = _
  rw [Array.getElem?_eq_getElem (by simpa using hlt), Array.getElem_modify_self, h']
  rfl
theorem Blk.setOther {w : World} {b : Nat} {c : Array Value} {t : TypeId} (h : Blk w b c t) (a : Addr) (ha : b ≠ a.block) (v : Value) : Blk (w.setCell a v) b c t := by
  unfold Blk at h ⊢
  rw [Below.heap_setCell _ _ _ _ ha]; exact h
theorem Blk.drewN {w : World} {b : Nat} {c : Array Value} {t : TypeId} (h : Blk w b c t) (n : Nat) : Blk (w.drewN n) b c t := h
theorem Blk.drew {w : World} {b : Nat} {c : Array Value} {t : TypeId} (h : Blk w b c t) : Blk w.drew b c t := h
theorem Blk.alloc {w : World} {b : Nat} {c : Array Value} {t : TypeId} (h : Blk w b c t) (o : Obj) : Blk (w.alloc o) b c t := by
  have := h.lt; unfold Blk at h ⊢; rw [Below.heap_alloc _ _ _ this]; exact h
theorem Blk.new (w : World) (c : Array Value) (t : TypeId) : Blk (w.alloc (.cells c t)) w.heap.size c t := heap_alloc_new w _
theorem Blk.congr {w : World} {b : Nat} {c c' : Array Value} {t : TypeId} (h : Blk w b c t) (e : c = c') : Blk w b c' t := e ▸ h

/-- The cells of a block as the append's law wants them. -/
theorem Blk.row {w : World} {b : Nat} {c : Array Value} {t : TypeId} (h : Blk w b c t) : ∀ j u, c.toList[j]? = some u → w.cell? ((⟨b, 0, none⟩ : Addr).add j) = some u := by
  intro j u hj
  rw [show (⟨b, 0, none⟩ : Addr).add j = ⟨b, j, none⟩ from by unfold Addr.add; split <;> simp_all]
  exact h.cell j (by simpa using hj)
/-- A block that has been laid behind another one. -/
theorem Blk.new2 (w : World) (o : Obj) (c : Array Value) (t : TypeId) : Blk ((w.alloc o).alloc (.cells c t)) (w.heap.size + 1) c t := by
  have := Blk.new (w.alloc o) c t
  rwa [World.size_alloc] at this

/-- w' is w but for block b and new blocks. -/
def But (b : Nat) (w w' : World) : Prop := w.grownBy w' (some b)
theorem But.refl (b : Nat) (w : World) : But b w w := ⟨rfl, rfl, rfl, Nat.le_refl _, fun _ _ _ => rfl⟩
theorem But.trans {b : Nat} {w w1 w2 : World} (h : But b w w1) (k : But b w1 w2) : But b w w2 :=
  ⟨k.os.trans h.os, k.tape.trans h.tape, k.output.trans h.output, Nat.le_trans h.size k.size, fun i hi hn => (k.block i (Nat.lt_of_lt_of_le hi h.size) hn).trans (h.block i hi hn)⟩
theorem But.drewN {b : Nat} {w w1 : World} (h : But b w w1) (n : Nat) : But b w (w1.drewN n) := h.trans ⟨rfl, rfl, rfl, Nat.le_refl _, fun _ _ _ => rfl⟩
theorem But.drew {b : Nat} {w w1 : World} (h : But b w w1) : But b w w1.drew := h.trans ⟨rfl, rfl, rfl, Nat.le_refl _, fun _ _ _ => rfl⟩
theorem But.set {b : Nat} {w w1 : World} (h : But b w w1) (i : Nat) (v : Value) : But b w (w1.setCell ⟨b, i, none⟩ v) :=
  h.trans ⟨rfl, rfl, rfl, by simp [World.setCell], fun k _ hn => Below.heap_setCell _ _ _ _ (fun e => hn (by rw [e]))⟩
theorem But.alloc {b : Nat} {w w1 : World} (h : But b w w1) (o : Obj) : But b w (w1.alloc o) :=
  h.trans ⟨rfl, rfl, rfl, by simp, fun k hk _ => Below.heap_alloc _ _ _ hk⟩
theorem But.setNew {b : Nat} {w w1 : World} (h : But b w w1) {a : Addr} (ha : w.heap.size ≤ a.block) (v : Value) : But b w (w1.setCell a v) :=
  ⟨h.os, h.tape, h.output, by simpa [World.setCell] using h.size, fun k hk hn => by rw [Below.heap_setCell _ _ _ _ (by omega)]; exact h.block k hk hn⟩
/-- A callee that writes a block that is new to the caller. -/
theorem But.inner {b c : Nat} {w w1 w2 : World} (h : But b w w1) (k : But c w1 w2) (hc : w.heap.size ≤ c) : But b w w2 :=
  ⟨k.os.trans h.os, k.tape.trans h.tape, k.output.trans h.output, Nat.le_trans h.size k.size, fun i hi hn => (k.block i (Nat.lt_of_lt_of_le hi h.size) (fun e => by cases e; omega)).trans (h.block i hi hn)⟩
theorem But.below {b B : Nat} {w w1 w2 : World} (h : Below B w w1) (k : But b w1 w2) (hB : B ≤ b) (hs : B ≤ w.heap.size) : Below B w w2 :=
  h.trans ⟨k.os, k.tape, k.output, k.size, fun i hi => k.block i (Nat.lt_of_lt_of_le hi (Nat.le_trans hs h.size)) (fun e => by cases e; omega)⟩
theorem But.blk {b b' : Nat} {w w1 : World} (k : But b w w1) {c : Array Value} {t : TypeId} (h : Blk w b' c t) (hn : b' ≠ b) : Blk w1 b' c t := by
  have := h.lt; unfold Blk at h ⊢; rw [k.block b' this (fun e => hn (by cases e; rfl))]; exact h
theorem But.of_below {b : Nat} {w w1 : World} (h : Below w.heap.size w w1) : But b w w1 := ⟨h.os, h.tape, h.output, h.size, fun k hk _ => h.block k hk⟩
theorem below_blk {B b : Nat} {w w1 : World} (k : Below B w w1) {c : Array Value} {t : TypeId} (h : Blk w b c t) (hb : b < B) : Blk w1 b c t := by
  unfold Blk at h ⊢; rw [k.block b hb]; exact h
theorem below_drewN {B : Nat} {a w : World} (h : Below B a w) (n : Nat) : Below B a (w.drewN n) := ⟨h.os, h.tape, h.output, h.size, h.block⟩
/-- Steps that lay new blocks, behind a world a. -/
theorem belowA {a w : World} (h : Below a.heap.size a w) (o : Obj) : Below a.heap.size a (w.alloc o) := h.alloc h.size o
theorem belowT {a w w' : World} (h : Below a.heap.size a w) (k : Below w.heap.size w w') : Below a.heap.size a w' := h.trans (k.mono h.size)
theorem norm_range (a m : Int) (h0 : 0 < m) (h1 : m ≤ 1000000) : 0 ≤ (wrap64 (a.tmod m + m)).tmod m ∧ (wrap64 (a.tmod m + m)).tmod m < m := by
  have e1 := Int.tmod_lt_of_pos a h0
  have e2 := Int.lt_tmod_of_pos a h0
  have e3 : wrap64 (a.tmod m + m) = a.tmod m + m := by unfold wrap64; omega
  rw [e3]
  exact ⟨Int.tmod_nonneg _ (by omega), Int.tmod_lt_of_pos _ h0⟩
end Go.Proofs.Ythcddboeejbncaa
namespace Go.Proofs.Ythcddboeejbncaa
open Go.RowKit

/-- v is a slice of n elements whose cells are cs. -/
def Reads (w : World) (v : Value) (n : Nat) (cs : List Value) : Prop :=
  (n = 0 ∧ cs = [] ∧ ∃ a cap, v = .slice a 0 cap) ∨
  ∃ b off cap, v = .slice (some ⟨b, off, none⟩) n cap ∧ n ≤ cap ∧ n ≤ 9223372036854775807 ∧ b < w.heap.size ∧ ∀ j u, cs[j]? = some u → w.cell? ⟨b, off + j, none⟩ = some u
theorem Reads.below {w w' : World} {v : Value} {n : Nat} {cs : List Value} (h : Reads w v n cs) (k : Below w.heap.size w w') : Reads w' v n cs := by
  rcases h with h | ⟨b, off, cap, h1, h2, h3, h4, h5⟩
  · exact Or.inl h
  · exact Or.inr ⟨b, off, cap, h1, h2, h3, Nat.lt_of_lt_of_le h4 k.size, fun j u hj => by rw [k.cell (by exact h4)]; exact h5 j u hj⟩
/-- A call that writes one block: a slice that lies elsewhere reads as before. -/
theorem Reads.but {b : Nat} {w w' : World} {v : Value} {n : Nat} {cs : List Value} (h : Reads w v n cs) (k : But b w w') (hb : ∀ a len cap, v = .slice (some a) len cap → a.block ≠ b) : Reads w' v n cs := by
  rcases h with h | ⟨g, off, cap, h1, h2, h3, h4, h5⟩
  · exact Or.inl h
  · refine Or.inr ⟨g, off, cap, h1, h2, h3, Nat.lt_of_lt_of_le h4 k.size, fun j u hj => ?_⟩
    have hg := hb _ _ _ h1
    rw [World.cell?_of_block (w := w) (k.block g h4 (fun e => hg (by cases e; rfl)))]; exact h5 j u hj
theorem Reads.slice {w : World} {v : Value} {n : Nat} {cs : List Value} (h : Reads w v n cs) : ∃ a cap, v = .slice a n cap := by
  rcases h with ⟨rfl, _, a, cap, h⟩ | ⟨b, off, cap, h1, _⟩
  · exact ⟨a, cap, h⟩
  · exact ⟨_, cap, h1⟩
theorem Reads.addr {w : World} {v : Value} {n : Nat} {cs : List Value} (h : Reads w v n cs) (hn : 0 < n) : ∃ b off cap, v = .slice (some ⟨b, off, none⟩) n cap ∧ n ≤ cap ∧ n ≤ 9223372036854775807 ∧ b < w.heap.size ∧ ∀ j u, cs[j]? = some u → w.cell? ⟨b, off + j, none⟩ = some u := by
  rcases h with ⟨rfl, _⟩ | h
  · omega
  · exact h
theorem Reads.of_owns {w : World} {base : Nat} {e : TypeId} {sz : Nat} {v : Value} {n : Nat} {cs : List Value} (h : w.ownsRow base e sz v n cs) (hz : n ≤ 9223372036854775807) : Reads w v n cs := by
  rcases h.2 with ⟨hv, hn⟩ | ⟨g, cap, cur, hv, hg, hh, hn, hcap, hsz, htake⟩
  · have hl := h.1
    subst hn
    exact Or.inl ⟨rfl, List.eq_nil_of_length_eq_zero (by omega), none, 0, hv⟩
  · refine Or.inr ⟨g, 0, cap, hv, hn, hz, (Array.getElem?_eq_some_iff.1 hh).1, fun j u hj => ?_⟩
    have e : v.ownBlock = some g := by rw [hv]; rfl
    have a0 := h.cells e _ _ hj
    rw [show (⟨g, 0, none⟩ : Addr).add j = ⟨g, j, none⟩ from by unfold Addr.add; split <;> simp_all] at a0
    rw [Nat.zero_add]; exact a0
/-- The row of a block, from a cell on, as the append's law wants it. -/
theorem cells_add {w : World} {b off : Nat} {cs : List Value} (h : ∀ j u, cs[j]? = some u → w.cell? ⟨b, off + j, none⟩ = some u) : ∀ j u, cs[j]? = some u → w.cell? ((⟨b, off, none⟩ : Addr).add j) = some u := by
  intro j u hj
  rw [show (⟨b, off, none⟩ : Addr).add j = ⟨b, off + j, none⟩ from by unfold Addr.add; split <;> simp_all]
  exact h j u hj
/-- A block that a literal has just made is a row of the call's own. -/
theorem owns_lit {w : World} {b base : Nat} {c : Array Value} {t : TypeId} (h : Blk w b c t) (hb : base ≤ b) (sz n : Nat) (hc : c.size = n * sz) (hn : n ≤ maxLen) : w.ownsRow base t sz (.slice (some ⟨b, 0, none⟩) n n) n c.toList :=
  ⟨by simpa using hc, Or.inr ⟨b, n, c, rfl, hb, h, Nat.le_refl _, hn, hc, by rw [List.take_of_length_le (by simp [hc])]⟩⟩

/-- Whole numbers. -/
def ints (l : List Int) : List Value := l.map (Value.int .i64)
abbrev IVal (w : World) (v : Value) (l : List Int) : Prop := Reads w v l.length (ints l)
theorem ints_get {l : List Int} {i : Nat} (h : i < l.length) : (ints l)[i]? = some (.int .i64 (l.getD i 0)) := by unfold ints; simp [h]
theorem ints_one (l : List Int) : ∀ u ∈ ints l, u.oneCell' = true := by
  intro u hu; unfold ints at hu; obtain ⟨n, _, rfl⟩ := List.mem_map.1 hu; rfl
end Go.Proofs.Ythcddboeejbncaa
