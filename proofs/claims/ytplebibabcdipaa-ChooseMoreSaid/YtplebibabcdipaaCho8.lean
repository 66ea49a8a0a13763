/- A queue of numbers: a slice whose start moves on within its row. -/
import Derived.Test.YtplebibabcdipaaCho7
import Derived.Maps.AppendAt
namespace Go.Proofs.Ytplebibabcdipaa
open Go.RowKit

/-- The queue: its cells lie in a row of the call's own, from block base on, at any offset. -/
def QRow (base : Nat) (W : World) (v : Value) (l : List Int) : Prop :=
  ∃ a c, v = .slice a l.length c ∧ c ≤ maxLen ∧ ((a = none ∧ c = 0 ∧ l = []) ∨
    ∃ g off cur, a = some ⟨g, off, none⟩ ∧ base ≤ g ∧ Blk W g cur 3 ∧ l.length ≤ c ∧ off + c ≤ cur.size ∧ ∀ j u, (ints l)[j]? = some u → cur[off + j]? = some u)
theorem QRow.nil (base : Nat) (W : World) : QRow base W (.slice none 0 0) [] := ⟨none, 0, rfl, by unfold maxLen; omega, Or.inl ⟨rfl, rfl, rfl⟩⟩
theorem QRow.frame {base : Nat} {W W' : World} {v : Value} {l : List Int} (h : QRow base W v l) (hb : ∀ g, base ≤ g → g < W.heap.size → W'.heap[g]? = W.heap[g]?) : QRow base W' v l := by
  obtain ⟨a, c, h1, h2, h3⟩ := h
  refine ⟨a, c, h1, h2, h3.imp id ?_⟩
  rintro ⟨g, off, cur, e1, e2, e3, e4⟩
  refine ⟨g, off, cur, e1, e2, ?_, e4⟩
  have := hb g e2 e3.lt
  unfold Blk at e3 ⊢
  rw [this]; exact e3
theorem QRow.alloc {base : Nat} {W : World} {v : Value} {l : List Int} (h : QRow base W v l) (o : Obj) : QRow base (W.alloc o) v l := h.frame fun _ _ hg => heap_alloc_old W o hg
theorem QRow.drewN {base : Nat} {W : World} {v : Value} {l : List Int} (h : QRow base W v l) (n : Nat) : QRow base (W.drewN n) v l := h
theorem QRow.set {base : Nat} {W : World} {v : Value} {l : List Int} (h : QRow base W v l) {a : Addr} (ha : a.block < base) (u : Value) : QRow base (W.setCell a u) v l :=
  h.frame fun g hg _ => Below.heap_setCell _ _ _ _ (by omega)
theorem QRow.below {base : Nat} {W W' : World} {v : Value} {l : List Int} (h : QRow base W v l) (k : Below W.heap.size W W') : QRow base W' v l := h.frame fun g _ hg => k.block g hg
theorem QRow.head {base : Nat} {W : World} {v : Value} {x : Int} {l : List Int} (h : QRow base W v (x :: l)) :
    ∃ g off c, v = .slice (some ⟨g, off, none⟩) (l.length + 1) c ∧ l.length + 1 ≤ c ∧ c ≤ maxLen ∧ W.cell? ⟨g, off, none⟩ = some (.int .i64 x) ∧ (c = 1 → QRow base W (.slice (some ⟨g, off, none⟩) l.length (c - 1)) l) ∧ (c ≠ 1 → QRow base W (.slice (some ⟨g, off + 1, none⟩) l.length (c - 1)) l) := by
  obtain ⟨a, c, rfl, h2, h3⟩ := h
  rcases h3 with ⟨_, _, h⟩ | ⟨g, off, cur, rfl, e2, e3, e4, e5, e6⟩
  · cases h
  · simp only [List.length_cons] at e4 ⊢
    have h0 := e6 0 (.int .i64 x) rfl
    refine ⟨g, off, c, rfl, e4, h2, e3.cell off (by simpa using h0), fun hc => ?_, fun hc => ?_⟩
    · refine ⟨_, _, rfl, by omega, Or.inr ⟨g, off, cur, rfl, e2, e3, by omega, by omega, fun j u hj => ?_⟩⟩
      have : l = [] := List.eq_nil_of_length_eq_zero (by omega)
      subst this; cases hj
    · refine ⟨_, _, rfl, by omega, Or.inr ⟨g, off + 1, cur, rfl, e2, e3, by omega, by omega, fun j u hj => ?_⟩⟩
      have := e6 (j + 1) u (by simpa [ints] using hj)
      rw [show off + 1 + j = off + (j + 1) by omega]; exact this
theorem QRow.push {base : Nat} {W : World} {v : Value} {l : List Int} (h : QRow base W v l) (hb : base ≤ W.heap.size) (x : Int) (lb : Nat) (hx : W.cell? ⟨lb, 0, none⟩ = some (.int .i64 x)) (hl : l.length ≤ 2000) :
    ∃ v' W', (Builtin.append_ #[49, 49] 49 #[v, .slice (some ⟨lb, 0, none⟩) 1 1]).run Try.prog W = .ok v' W' ∧ QRow base W' v' (l ++ [x]) ∧ Below base W W' ∧ W.heap.size ≤ W'.heap.size := by
  obtain ⟨i0, hi0, hz0, hz1, hz2⟩ := info_parts infoIntL
  obtain ⟨a, c, rfl, h2, h3⟩ := h
  have hnews : ∀ j u, [Value.int .i64 x][j]? = some u → W.cell? ((⟨lb, 0, none⟩ : Addr).add j) = some u := by
    intro j u hj
    cases j with
    | zero => simp at hj; subst hj; simpa [Addr.add] using hx
    | succ j => simp at hj
  have hsm : l.length + 1 ≤ maxLen := by unfold maxLen; omega
  have hcm := fun old => grownCap_le_maxLen W (l.length + 1) old 3 hsm
  have grow : ∀ old, QRow base (W.drew.alloc (.cells ((ints l).toArray ++ #[.int .i64 x] ++ Builtin.zeroCells (Value.int .i64 0).cells (grownCap W (l.length + 1) old 3 - (l.length + 1))) 3)) (.slice (some ⟨W.heap.size, 0, none⟩) (l.length + 1) (grownCap W (l.length + 1) old 3)) (l ++ [x]) := by
    intro old
    have hge := grownCap_ge W (l.length + 1) old 3
    refine ⟨_, _, by simp, hcm old, Or.inr ⟨W.heap.size, 0, _, rfl, hb, heap_alloc_new W.drew _, by simp; exact hge, ?_, fun j u hj => ?_⟩⟩
    · simp only [Array.size_append, List.size_toArray, size_zeroCells, ints, List.length_map]
      simp [Value.cells]
      omega
    · rw [Nat.zero_add]
      have hlt := (List.getElem?_eq_some_iff.1 hj).1
      have e : ints (l ++ [x]) = ints l ++ [.int .i64 x] := by unfold ints; simp
      rw [e] at hj hlt
      rw [Array.getElem?_append_left (by simpa using hlt)]
      simpa using hj
  have hbl : ∀ o, Below base W (W.drew.alloc o) := fun o => ⟨rfl, rfl, rfl, by rw [World.size_alloc]; exact Nat.le_succ _, fun k hk => heap_alloc_old W.drew o (by show k < W.heap.size; omega)⟩
  rcases h3 with ⟨rfl, rfl, rfl⟩ | ⟨g, off, cur, rfl, e2, e3, e4, e5, e6⟩
  · have hr := run_append_nil (P := Try.prog) W 49 49 3 i0 (.int .i64 0) Try.underlying49 hi0 hz0 ⟨lb, 0, none⟩ 1 1 [.int .i64 x] (by rw [hz1]; rfl) hnews (by omega) (by omega) (by rw [hz2]; omega)
    have hg := grow 0
    simp only [List.length_nil, Nat.zero_add, List.nil_append] at hg ⊢
    refine ⟨_, _, hr, ?_, hbl _, by rw [World.size_alloc]; exact Nat.le_succ _⟩
    simpa [ints] using hg
  · by_cases hroom : l.length + 1 ≤ c
    · have hst := run_storeCells_at Try.prog g (off + l.length) 3 [.int .i64 x] 0 cur W e3 (by simp; omega) (by intro u hu; simp at hu; subst hu; rfl)
      have hf := run_firstCells_some (P := Try.prog) W i0.size 1 ⟨lb, 0, none⟩ 1 1 [.int .i64 x] (by rw [hz1]; rfl) hnews
      refine ⟨.slice (some ⟨g, off, none⟩) (l.length + 1) c, W.setRow g (cur.toList.take (off + l.length) ++ [Value.int .i64 x] ++ cur.toList.drop (off + l.length + 1)).toArray, ?_, ?_, ?_, ?_⟩
      · rw [hz1] at hf
        simp only [Nat.add_zero, List.length_singleton] at hst
        simp [Builtin.append_, run_underlying Try.underlying49, sizeOf, typeInfo, hi0, hz1, Builtin.lenOf, hroom, hf, Addr.add_lit, hst]
      · refine ⟨_, _, by simp, h2, Or.inr ⟨g, off, _, rfl, e2, setRow_heap W g cur _ 3 _ e3, by simpa using hroom, ?_, fun j u hj => ?_⟩⟩
        · simp only [List.size_toArray, List.length_append, List.length_take, List.length_drop, Array.length_toList, List.length_singleton]
          omega
        · have hlt := (List.getElem?_eq_some_iff.1 hj).1
          have e : ints (l ++ [x]) = ints l ++ [.int .i64 x] := by unfold ints; simp
          have hil : (ints l).length = l.length := by unfold ints; simp
          rw [e] at hj hlt
          simp only [List.length_append, List.length_singleton, hil] at hlt
          have htl : (cur.toList.take (off + l.length)).length = off + l.length := by
            have : cur.toList.length = cur.size := Array.length_toList
            rw [List.length_take]; omega
          simp only [List.getElem?_toArray]
          by_cases hj2 : j < l.length
          · rw [List.append_assoc, List.getElem?_append_left (by omega), List.getElem?_take_of_lt (by omega), Array.getElem?_toList]
            exact e6 j u (by rw [List.getElem?_append_left (by omega)] at hj; exact hj)
          · have : j = l.length := by omega
            subst this
            rw [List.getElem?_append_right (by omega), hil] at hj
            rw [List.append_assoc, List.getElem?_append_right (by omega), htl]
            simpa using hj
      · exact ⟨rfl, rfl, rfl, by simp, fun k hk => setRow_other W g k _ (by omega)⟩
      · simp
    · have holds : ∀ j u, (ints l)[j]? = some u → W.cell? ((⟨g, off, none⟩ : Addr).add j) = some u := cells_add fun j u hj => e3.cell (off + j) (e6 j u hj)
      have hr := run_append_grow (P := Try.prog) W 49 49 3 i0 (.int .i64 0) Try.underlying49 hi0 hz0 ⟨g, off, none⟩ l.length c (ints l) (by rw [hz1]; unfold ints; simp) holds ⟨lb, 0, none⟩ 1 1 [.int .i64 x] (by rw [hz1]; rfl) hnews (by omega) (by omega) (growslice_fits (by omega) (by rw [hz2]; omega))
      exact ⟨_, _, hr, grow c, hbl _, by rw [World.size_alloc]; exact Nat.le_succ _⟩
end Go.Proofs.Ytplebibabcdipaa
