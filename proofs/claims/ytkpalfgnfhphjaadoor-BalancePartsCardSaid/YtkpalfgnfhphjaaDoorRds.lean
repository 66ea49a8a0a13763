/- Slices that read as lists: whatever the elements. -/
import Derived.Test.YtkpalfgnfhphjaaDoorWld
namespace Go.Proofs.YtkpalfgnfhphjaaDoor
open Go.RowKit

/-- v is a slice of n elements whose cells are cs. -/
def Reads (w : World) (v : Value) (n : Nat) (cs : List Value) : Prop :=
  (n = 0 ∧ cs = [] ∧ ∃ a cap, v = .slice a 0 cap) ∨
  ∃ b off cap, v = .slice (some ⟨b, off, none⟩) n cap ∧ n ≤ cap ∧ n ≤ 9223372036854775807 ∧ b < w.heap.size ∧ ∀ j u, cs[j]? = some u → w.cell? ⟨b, off + j, none⟩ = some u
theorem Reads.below {w w' : World} {v : Value} {n : Nat} {cs : List Value} (h : Reads w v n cs) (k : Below w.heap.size w w') : Reads w' v n cs := by
  rcases h with h | ⟨b, off, cap, h1, h2, h3, h4, h5⟩
  · exact Or.inl h
  · exact Or.inr ⟨b, off, cap, h1, h2, h3, Nat.lt_of_lt_of_le h4 k.size, fun j u hj => by rw [k.cell (by exact h4)]; exact h5 j u hj⟩
/-- A call that writes one block: a slice that lies elsewhere reads as before. -/
theorem Reads.but {b : Nat} {w w' : World} {v : Value} {n : Nat} {cs : List Value} (h : Reads w v n cs) (k : But b w w') (hb : ∀ a len cap, v = .slice (some a) len cap → a.block ≠ b) : Reads w' v n cs := by
  rcases h with h | ⟨g, off, cap, h1, h2, h3, h4, h5⟩
  · exact Or.inl h
  · refine Or.inr ⟨g, off, cap, h1, h2, h3, Nat.lt_of_lt_of_le h4 k.size, fun j u hj => ?_⟩
    have hg := hb _ _ _ h1
    rw [World.cell?_of_block (w := w) (k.block g h4 (fun e => hg (by cases e; rfl)))]; exact h5 j u hj
theorem Reads.slice {w : World} {v : Value} {n : Nat} {cs : List Value} (h : Reads w v n cs) : ∃ a cap, v = .slice a n cap := by
  rcases h with ⟨rfl, _, a, cap, h⟩ | ⟨b, off, cap, h1, _⟩
  · exact ⟨a, cap, h⟩
  · exact ⟨_, cap, h1⟩
theorem Reads.addr {w : World} {v : Value} {n : Nat} {cs : List Value} (h : Reads w v n cs) (hn : 0 < n) : ∃ b off cap, v = .slice (some ⟨b, off, none⟩) n cap ∧ n ≤ cap ∧ n ≤ 9223372036854775807 ∧ b < w.heap.size ∧ ∀ j u, cs[j]? = some u → w.cell? ⟨b, off + j, none⟩ = some u := by
  rcases h with ⟨rfl, _⟩ | h
  · omega
  · exact h
theorem Reads.of_owns {w : World} {base : Nat} {e : TypeId} {sz : Nat} {v : Value} {n : Nat} {cs : List Value} (h : w.ownsRow base e sz v n cs) (hz : n ≤ 9223372036854775807) : Reads w v n cs := by
  rcases h.2 with ⟨hv, hn⟩ | ⟨g, cap, cur, hv, hg, hh, hn, hcap, hsz, htake⟩
  · have hl := h.1
    subst hn
    exact Or.inl ⟨rfl, List.eq_nil_of_length_eq_zero (by omega), none, 0, hv⟩
  · refine Or.inr ⟨g, 0, cap, hv, hn, hz, (Array.getElem?_eq_some_iff.1 hh).1, fun j u hj => ?_⟩
    have e : v.ownBlock = some g := by rw [hv]; rfl
    have a0 := h.cells e _ _ hj
    rw [show (⟨g, 0, none⟩ : Addr).add j = ⟨g, j, none⟩ from by unfold Addr.add; split <;> simp_all] at a0
    rw [Nat.zero_add]; exact a0
/-- The row of a block, from a cell on, as the append's law wants it. -/
theorem cells_add {w : World} {b off : Nat} {cs : List Value} (h : ∀ j u, cs[j]? = some u → w.cell? ⟨b, off + j, none⟩ = some u) : ∀ j u, cs[j]? = some u → w.cell? ((⟨b, off, none⟩ : Addr).add j) = some u := by
  intro j u hj
  rw [show (⟨b, off, none⟩ : Addr).add j = ⟨b, off + j, none⟩ from by unfold Addr.add; split <;> simp_all]
  exact h j u hj
/-- A block that a literal has just made is a row of the call's own. -/
theorem owns_lit {w : World} {b base : Nat} {c : Array Value} {t : TypeId} (h : Blk w b c t) (hb : base ≤ b) (sz n : Nat) (hc : c.size = n * sz) (hn : n ≤ maxLen) : w.ownsRow base t sz (.slice (some ⟨b, 0, none⟩) n n) n c.toList :=
  ⟨by simpa using hc, Or.inr ⟨b, n, c, rfl, hb, h, Nat.le_refl _, hn, hc, by rw [List.take_of_length_le (by simp [hc])]⟩⟩

/-- Whole numbers. -/
def ints (l : List Int) : List Value := l.map (Value.int .i64)
abbrev IVal (w : World) (v : Value) (l : List Int) : Prop := Reads w v l.length (ints l)
theorem ints_get {l : List Int} {i : Nat} (h : i < l.length) : (ints l)[i]? = some (.int .i64 (l.getD i 0)) := by unfold ints; simp [h]
theorem ints_one (l : List Int) : ∀ u ∈ ints l, u.oneCell' = true := by
  intro u hu; unfold ints at hu; obtain ⟨n, _, rfl⟩ := List.mem_map.1 hu; rfl
end Go.Proofs.YtkpalfgnfhphjaaDoor
