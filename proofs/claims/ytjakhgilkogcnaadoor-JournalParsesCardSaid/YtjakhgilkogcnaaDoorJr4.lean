/- journal: a sorted row in memory. -/
import Derived.Test.YtjakhgilkogcnaaDoorJr3
namespace Go.Proofs.YtjakhgilkogcnaaDoor
open Go.RowKit Go.Sort

theorem flatK_list (l : List Ev) : (flatK Ev.cells 4 l.toArray).toList = flat Ev.cells l := by
  have hfl := flat_len (f := Ev.cells) (sz := 4) (fun _ => rfl) l
  apply List.ext_getElem?
  intro t
  by_cases ht : t < l.length * 4
  · have hi : t / 4 < l.length := by omega
    obtain ⟨x, hx⟩ : ∃ x, l[t / 4]? = some x := ⟨_, List.getElem?_eq_getElem hi⟩
    have hg := flat_get (f := Ev.cells) (sz := 4) (fun _ => rfl) l (t / 4) (t % 4) x hx (by omega)
    rw [show t / 4 * 4 + t % 4 = t by omega] at hg
    rw [hg, Array.getElem?_toList]
    have hk := get_flatK Ev.cells 4 l.toArray t (by simpa using ht)
    have hs : t < (flatK Ev.cells 4 l.toArray).size := by simpa using ht
    rw [getElem!_pos _ t hs] at hk
    rw [Array.getElem?_eq_getElem hs, hk]
    have hxx : l.toArray[t / 4]! = x := by
      have := (List.getElem?_eq_some_iff.1 hx)
      simp [this.1, this.2]
    rw [hxx]
    have h4 : t % 4 < (Ev.cells x).length := Nat.mod_lt _ (by decide)
    rw [List.getElem?_eq_getElem h4, getElem!_pos (Ev.cells x) (t % 4) h4]
  · rw [List.getElem?_eq_none (by simp; omega), List.getElem?_eq_none (by rw [hfl]; omega)]
theorem ev_holds {W : World} {base g cap : Nat} {l : List Ev} (h : W.ownsRow base 31 4 (.slice (some ⟨g, 0, none⟩) l.length cap) l.length (flat Ev.cells l)) : HoldsK Ev.cells 4 W g 0 l.toArray ∧ g < W.heap.size := by
  obtain ⟨hx, hv | ⟨g', cap', cur, hv, hb, hh, hnc, hcm, hcs, htk⟩⟩ := h
  · cases hv.1
  · cases hv
    have hB : Blk W g cur 31 := hh
    refine ⟨fun j hj => ?_, hB.lt⟩
    have hj' : j < l.length * 4 := by simpa using hj
    rw [Nat.zero_add]
    refine ⟨hB.cell j ?_, hB.free j⟩
    have h1 : (flat Ev.cells l)[j]? = some ((flatK Ev.cells 4 l.toArray)[j]!) := by
      rw [← flatK_list, Array.getElem?_toList, getElem!_pos _ j hj, Array.getElem?_eq_getElem hj]
    rw [← htk, List.getElem?_take, if_pos hj', Array.getElem?_toList] at h1
    exact h1
theorem sort_row {W : World} {base g cap : Nat} {l l' : List Ev} (h : W.ownsRow base 31 4 (.slice (some ⟨g, 0, none⟩) l.length cap) l.length (flat Ev.cells l)) (hl : l'.length = l.length) (m : Nat) (os : Array Obj) :
    (sortWorldK Ev.cells 4 W g 0 m l'.toArray os).ownsRow base 31 4 (.slice (some ⟨g, 0, none⟩) l.length cap) l.length (flat Ev.cells l') ∧ Below base W (sortWorldK Ev.cells 4 W g 0 m l'.toArray os) := by
  obtain ⟨hx, hv | ⟨g', cap', cur, hv, hb, hh, hnc, hcm, hcs, htk⟩⟩ := h
  · cases hv.1
  · cases hv
    have hgl : g < W.heap.size := Blk.lt (t := 31) hh
    have hfl := flat_len (f := Ev.cells) (sz := 4) (fun _ => rfl) l'
    have hF : (flatK Ev.cells 4 l'.toArray).size = l.length * 4 := by simp [hl]
    have heq : ∀ k, k ≠ g → k < W.heap.size → (sortWorldK Ev.cells 4 W g 0 m l'.toArray os).heap[k]? = W.heap[k]? := fun k hk hlt => by
      show ((W.heap.modify g _) ++ os)[k]? = _
      rw [Array.getElem?_append_left (by simpa using hlt), Array.getElem?_modify, if_neg (fun e => hk e.symm)]
    refine ⟨⟨by rw [hfl, hl], Or.inr ⟨g, cap, putCells id 0 (flatK Ev.cells 4 l'.toArray) cur, rfl, hb, ?_, hnc, hcm, ?_, ?_⟩⟩, ⟨rfl, rfl, rfl, ?_, fun k hk => heq k (by omega) (by omega)⟩⟩
    · show ((W.heap.modify g _) ++ os)[g]? = _
      rw [Array.getElem?_append_left (by simpa using hgl), Array.getElem?_modify, if_pos rfl, hh]
      rfl
    · unfold putCells; rw [Array.size_mapIdx]; exact hcs
    · rw [← flatK_list]
      apply List.ext_getElem?
      intro j
      rw [List.getElem?_take]
      by_cases hj : j < l.length * 4
      · rw [if_pos hj, Array.getElem?_toList, Array.getElem?_toList]
        unfold putCells
        have hc : j < cur.size := by rw [hcs]; omega
        rw [Array.getElem?_mapIdx, Array.getElem?_eq_getElem hc]
        simp only [Option.map_some, Nat.zero_le, true_and, Nat.zero_add, Nat.sub_zero, id]
        rw [if_pos (by rw [hF]; exact hj), getElem!_pos _ j (by rw [hF]; exact hj), Array.getElem?_eq_getElem (by rw [hF]; exact hj)]
      · rw [if_neg hj, List.getElem?_eq_none (by simp [hl]; omega)]
    · show W.heap.size ≤ ((W.heap.modify g _) ++ os).size
      rw [Array.size_append, Array.size_modify]; omega
end Go.Proofs.YtjakhgilkogcnaaDoor
