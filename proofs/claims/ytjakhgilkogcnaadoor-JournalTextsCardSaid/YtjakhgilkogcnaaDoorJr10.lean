/- journal: lists of lists of events in memory. -/
import Derived.Test.YtjakhgilkogcnaaDoorJr8
import Derived.OneCell
namespace Go.Proofs.YtjakhgilkogcnaaDoor
open Go.RowKit

theorem row_gro {W W' : World} {base : Nat} {e : TypeId} {sz n : Nat} {v : Value} {xs : List Value} {r : Option Nat} (h : W.ownsRow base e sz v n xs) (k : W.grownBy W' r) (hne : ∀ g, v.ownBlock = some g → r ≠ some g) : W'.ownsRow base e sz v n xs := by
  obtain ⟨h1, h2⟩ := h
  refine ⟨h1, h2.imp id ?_⟩
  rintro ⟨g, cap, cur, rfl, e2, e3, e4⟩
  refine ⟨g, cap, cur, rfl, e2, ?_, e4⟩
  rw [k.block g (by have := (Array.getElem?_eq_some_iff.1 e3).1; exact this) (fun e => hne g rfl e.symm)]
  exact e3
theorem row_type {W : World} {base base' : Nat} {e e' : TypeId} {sz sz' n n' : Nat} {v v' : Value} {xs xs' : List Value} (h : W.ownsRow base e sz v n xs) (h' : W.ownsRow base' e' sz' v' n' xs') (hne : e ≠ e') : ∀ g, v.ownBlock = some g → v'.ownBlock ≠ some g := by
  obtain ⟨_, h2⟩ := h
  obtain ⟨_, h2'⟩ := h'
  intro g hg hg'
  rcases h2 with ⟨rfl, _⟩ | ⟨g1, c1, cur1, rfl, _, e3, _⟩
  · cases hg
  · rcases h2' with ⟨rfl, _⟩ | ⟨g2, c2, cur2, rfl, _, e3', _⟩
    · cases hg'
    · cases hg; cases hg'
      rw [e3] at e3'
      injection e3' with e4
      injection e4 with _ e5 _
      exact hne e5
theorem row_blk {W W' : World} {base sz n : Nat} {e t : TypeId} {v : Value} {xs : List Value} (h : W.ownsRow base e sz v n xs) (hne : t ≠ e) (k : W.grownBy W' v.ownBlock) {b : Nat} {cs : Array Value} (hB : Blk W b cs t) : Blk W' b cs t := by
  have hlt := hB.lt
  unfold Blk at hB ⊢
  rw [k.block b hlt (fun e' => ?_)]
  · exact hB
  · obtain ⟨_, hv | ⟨g, cap, cur, rfl, _, e3, _⟩⟩ := h
    · rw [hv.1] at e'; cases e'
    · cases e'
      rw [hB] at e3
      injection e3 with e4
      injection e4 with _ e5 _
      exact hne e5
theorem row_le {W : World} {base base' sz n : Nat} {e : TypeId} {v : Value} {xs : List Value} (h : W.ownsRow base e sz v n xs) (hb : base' ≤ base) : W.ownsRow base' e sz v n xs :=
  ⟨h.1, h.2.imp id (fun ⟨g, cap, cur, e1, e2, e3⟩ => ⟨g, cap, cur, e1, Nat.le_trans hb e2, e3⟩)⟩
theorem row_lt {W : World} {base : Nat} {e : TypeId} {sz n : Nat} {v : Value} {xs : List Value} (h : W.ownsRow base e sz v n xs) : ∀ j, v.ownBlock = some j → j < W.heap.size := by
  intro j hj
  obtain ⟨_, hv | ⟨g, cap, cur, rfl, _, e3, _⟩⟩ := h
  · rw [hv.1] at hj; cases hj
  · cases hj; exact (Array.getElem?_eq_some_iff.1 e3).1
/-- A store into a row. -/
theorem row_set {W : World} {base : Nat} {e : TypeId} {n g c i : Nat} {xs : List Value} (h : W.ownsRow base e 1 (.slice (some ⟨g, 0, none⟩) n c) n xs) (_ : i < n) (u : Value) : (W.setCell ⟨g, i, none⟩ u).ownsRow base e 1 (.slice (some ⟨g, 0, none⟩) n c) n (xs.set i u) := by
  obtain ⟨h1, hv | ⟨g', cap, cur, hv, hb, hh, hnc, hcm, hcs, htk⟩⟩ := h
  · cases hv.1
  · cases hv
    have hB : Blk W g cur e := hh
    refine ⟨by rw [List.length_set]; exact h1, Or.inr ⟨g, c, cur.setIfInBounds i u, rfl, hb, hB.set i u, hnc, hcm, by simpa using hcs, ?_⟩⟩
    rw [Array.toList_setIfInBounds, ← htk, List.take_set]
theorem row_cell {W : World} {base : Nat} {e : TypeId} {n g c i : Nat} {xs : List Value} {u : Value} (h : W.ownsRow base e 1 (.slice (some ⟨g, 0, none⟩) n c) n xs) (hi : i < n) (hx : xs[i]? = some u) : W.cell? ⟨g, i, none⟩ = some u ∧ W.frozen? ⟨g, i, none⟩ = false := by
  obtain ⟨h1, hv | ⟨g', cap, cur, hv, hb, hh, hnc, hcm, hcs, htk⟩⟩ := h
  · cases hv.1
  · cases hv
    have hB : Blk W g cur e := hh
    refine ⟨hB.cell i ?_, hB.free i⟩
    rw [← htk, List.getElem?_take, if_pos (by omega), Array.getElem?_toList] at hx
    exact hx
/-- Lists of events in rows of the call's own: group i in a block from B i on, those before it below. -/
def OEE (W : World) (base X : Nat) (v : Value) (gs : List (List Ev)) : Prop :=
  ∃ (hs : List Value) (B : Nat → Nat), hs.length = gs.length ∧ W.ownsRow base 22 1 v gs.length hs ∧ (∀ u ∈ hs, u.oneCell' = true) ∧ (∀ i, base ≤ B i ∧ B i ≤ W.heap.size) ∧ (X ≤ W.heap.size ∧ ∀ (i : Nat) (h : Value) (g : Nat), hs[i]? = some h → h.ownBlock = some g → g < X) ∧
    (∀ (i : Nat) (h : Value) (l : List Ev), hs[i]? = some h → gs[i]? = some l → l.length ≤ 256 ∧ W.ownsRow (B i) 31 4 h l.length (flat Ev.cells l)) ∧
    ∀ (i j : Nat) (h : Value) (g : Nat), i < j → j < gs.length → hs[i]? = some h → h.ownBlock = some g → g < B j
theorem OEE.nil (W : World) (base : Nat) (hb : base ≤ W.heap.size) : OEE W base W.heap.size (.slice none 0 0) [] :=
  ⟨[], fun _ => W.heap.size, rfl, ⟨rfl, Or.inl ⟨rfl, rfl⟩⟩, (fun u hu => by cases hu), fun _ => ⟨hb, Nat.le_refl _⟩, ⟨Nat.le_refl _, fun i h g hh => by simp at hh⟩, (fun i h l hh => by simp at hh), fun i j h g _ hj => by cases hj⟩
theorem OEE.alloc {W : World} {base X : Nat} {v : Value} {gs : List (List Ev)} (h : OEE W base X v gs) (o : Obj) : OEE (W.alloc o) base X v gs := by
  obtain ⟨hs, B, h1, h2, h3, h4, h7, h5, h6⟩ := h
  exact ⟨hs, B, h1, row_alloc h2 o, h3, fun i => ⟨(h4 i).1, by have := (h4 i).2; rw [World.size_alloc]; omega⟩, ⟨by have := h7.1; rw [World.size_alloc]; omega, h7.2⟩, fun i u l hu hl => ⟨(h5 i u l hu hl).1, row_alloc (h5 i u l hu hl).2 o⟩, h6⟩
theorem infoSlE : (Tryd.prog.info? 22).map (fun i => (i.zero, i.size, i.bytes)) = some (some (.slice none 0 0), 1, 24) := by kernel_rfl
/-- 'append(out, nil)'. -/
theorem OEE.app {base X : Nat} {W : World} {v : Value} {gs : List (List Ev)} (h : OEE W base X v gs) (hb : base ≤ W.heap.size) (lb : Nat) (hx : W.cell? ⟨lb, 0, none⟩ = some (.slice none 0 0)) (hl : gs.length ≤ 2000) :
    ∃ g c W', (∀ ty, (Builtin.append_ #[24, 24] ty #[v, .slice (some ⟨lb, 0, none⟩) 1 1]).run Tryd.prog W = .ok (.slice (some ⟨g, 0, none⟩) (gs.length + 1) c) W') ∧ OEE W' base X (.slice (some ⟨g, 0, none⟩) (gs.length + 1) c) (gs ++ [[]]) ∧ Below base W W' ∧ (∀ (b : Nat) (cs : Array Value), Blk W b cs 31 → Blk W' b cs 31) ∧ W.heap.size ≤ W'.heap.size := by
  obtain ⟨i0, hi0, hz0, hz1, hz2⟩ := info_parts infoSlE
  obtain ⟨hs, B, h1, h2, h3, h4, h7, h5, h6⟩ := h
  have key := fun ty => run_append_own (P := Tryd.prog) W base 24 ty 22 i0 (.slice none 0 0) 1 24 Tryd.underlying24 hi0 hz0 hz1 hz2 rfl (by decide) v gs.length hs h2 ⟨lb, 0, none⟩ 1 1 [.slice none 0 0] rfl
    (fun j x hj => by
      cases j with
      | zero => simp at hj; subst hj; simpa [Addr.add] using hx
      | succ j => simp at hj) (fun x hx => by rw [List.mem_singleton] at hx; subst hx; rfl) (by unfold maxLen; omega) (by omega) hb
  obtain ⟨v', w', q1, q2, q3, _⟩ := key 0
  obtain ⟨g, c, rfl⟩ := row_succ q2
  have hkeep : ∀ {b : Nat} {h : Value} {l : List Ev}, W.ownsRow b 31 4 h l.length (flat Ev.cells l) → w'.ownsRow b 31 4 h l.length (flat Ev.cells l) := fun hr =>
    row_gro hr q3 (row_type hr h2 (by decide))
  refine ⟨g, c, w', fun ty => q1, ⟨hs ++ [.slice none 0 0], fun i => if i < gs.length then B i else w'.heap.size, by simp [h1], by rw [List.length_append]; exact q2, fun x hx => ?_, fun i => ?_, ⟨by have := q3.size; have := h7.1; omega, fun i u k hu hk => ?_⟩, fun i u l' hu hl' => ?_, fun i j u k hij hj hu hk => ?_⟩, Below.grown ⟨rfl, rfl, rfl, Nat.le_refl _, fun _ _ => rfl⟩ q3 hb (fun k e => row_own h2 k e), fun b cs hB => ?_, q3.size⟩
  · rcases List.mem_append.1 hx with hx | hx
    · exact h3 x hx
    · rw [List.mem_singleton] at hx; subst hx; rfl
  · have := q3.size
    have h4i := h4 i
    simp only
    split <;> omega
  · by_cases hi : i < gs.length
    · rw [List.getElem?_append_left (by omega)] at hu
      exact h7.2 i u k hu hk
    · rw [List.getElem?_append_right (by omega), h1] at hu
      have : i - gs.length = 0 := by
        have := (List.getElem?_eq_some_iff.1 hu).1
        simp at this; omega
      rw [this] at hu
      simp at hu
      subst hu
      cases hk
  · by_cases hi : i < gs.length
    · rw [List.getElem?_append_left (by omega)] at hu
      rw [List.getElem?_append_left hi] at hl'
      simp only [if_pos hi]
      exact ⟨(h5 i u l' hu hl').1, hkeep (h5 i u l' hu hl').2⟩
    · rw [List.getElem?_append_right (by omega)] at hu hl'
      rw [h1] at hu
      have : i - gs.length = 0 := by
        have := (List.getElem?_eq_some_iff.1 hl').1
        simp at this; omega
      rw [this] at hu hl'
      simp at hu hl'
      subst hu; subst hl'
      exact ⟨Nat.zero_le _, rfl, Or.inl ⟨rfl, rfl⟩⟩
  · by_cases hi : i < gs.length
    · rw [List.getElem?_append_left (by omega)] at hu
      obtain ⟨l', hl'⟩ : ∃ l', gs[i]? = some l' := ⟨_, List.getElem?_eq_getElem hi⟩
      have hlt := row_lt (h5 i u l' hu hl').2 k hk
      have := q3.size
      simp only
      split
      · rename_i hj'
        exact h6 i j u k hij hj' hu hk
      · omega
    · rw [List.getElem?_append_right (by omega), h1] at hu
      have : i - gs.length = 0 := by
        have := (List.getElem?_eq_some_iff.1 hu).1
        simp at this; omega
      rw [this] at hu
      simp at hu
      subst hu
      cases hk
  · exact row_blk h2 (by decide) q3 hB
/-- 'out[k] = append(out[k], x)', k the last index. -/
theorem OEE.put {base X g c : Nat} {W : World} {gs : List (List Ev)} {L : List Ev} (h : OEE W base X (.slice (some ⟨g, 0, none⟩) (gs.length + 1) c) (gs ++ [L])) (hb : base ≤ W.heap.size) (x : Ev) (hl : L.length < 256) :
    ∃ u u' W', (∃ a c, u = .slice a L.length c) ∧ (∃ a c, u' = .slice a (L.length + 1) c) ∧ W.cell? ⟨g, gs.length, none⟩ = some u ∧ W.frozen? ⟨g, gs.length, none⟩ = false ∧
      (∀ ty, (Builtin.append_ #[22, 22] ty #[u, .slice (some ⟨W.heap.size, 0, none⟩) 1 1]).run Tryd.prog (W.alloc (.cells x.cells.toArray 31)).drew = .ok u' W') ∧
      W'.cell? ⟨g, gs.length, none⟩ = some u ∧ W'.frozen? ⟨g, gs.length, none⟩ = false ∧ Below base W W' ∧ g < W.heap.size ∧
      OEE (W'.setCell ⟨g, gs.length, none⟩ u') base (W'.setCell ⟨g, gs.length, none⟩ u').heap.size (.slice (some ⟨g, 0, none⟩) (gs.length + 1) c) (gs ++ [L ++ [x]]) ∧ base ≤ g ∧ (∀ (b : Nat) (cs : Array Value), X ≤ b → Blk W b cs 31 → Blk W' b cs 31) ∧ (∀ (cs : Array Value), ¬ Blk W g cs 31) := by
  obtain ⟨i0, hi0, hz0, hz1, hz2⟩ := info_parts infoEv
  have hw1 : (W.alloc (.cells x.cells.toArray 31)).drew.heap.size = W.heap.size + 1 := by show (World.alloc _ _).heap.size = _; rw [World.size_alloc]
  have hsz0 : (gs ++ [L]).length = gs.length + 1 := by simp
  obtain ⟨hs, B, h1, h2, h3, h4, h7, h5, h6⟩ := h
  rw [hsz0] at h1 h2
  obtain ⟨u, hu⟩ : ∃ u, hs[gs.length]? = some u := ⟨_, List.getElem?_eq_getElem (by omega)⟩
  have hLg : (gs ++ [L])[gs.length]? = some L := by simp
  obtain ⟨_, hrow⟩ := h5 _ u L hu hLg
  have hrow1 : (W.alloc (.cells x.cells.toArray 31)).drew.ownsRow (B gs.length) 31 4 u L.length (flat Ev.cells L) := row_alloc hrow _
  have hxb : Blk (W.alloc (.cells x.cells.toArray 31)).drew W.heap.size x.cells.toArray 31 := (Blk.new W _ _).drew
  have h2' : (W.alloc (.cells x.cells.toArray 31)).drew.ownsRow base 22 1 (.slice (some ⟨g, 0, none⟩) (gs.length + 1) c) (gs.length + 1) hs := row_alloc h2 _
  have key := fun ty => run_append_own (P := Tryd.prog) (W.alloc (.cells x.cells.toArray 31)).drew (B gs.length) 22 ty 31 i0 _ 4 48 Tryd.underlying22 hi0 hz0 hz1 hz2 rfl (by decide) u L.length (flat Ev.cells L) hrow1 ⟨W.heap.size, 0, none⟩ 1 1 x.cells rfl
    (fun j y hj => hxb.row j y (by simpa using hj)) (fun y hy => ev_one [x] y (by simpa [flat] using hy)) (by unfold maxLen; omega) (by omega) (by rw [hw1]; have := (h4 gs.length).2; omega)
  obtain ⟨u', W', q1, q2, q3, _⟩ := key 0
  have hflx : flat Ev.cells (L ++ [x]) = flat Ev.cells L ++ x.cells := by simp [flat]
  rw [← hflx] at q2
  have hgu : ∀ k, u.ownBlock = some k → k ≠ g := fun k hk e => by subst e; exact row_type hrow h2 (by decide) k hk rfl
  have h2w : W'.ownsRow base 22 1 (.slice (some ⟨g, 0, none⟩) (gs.length + 1) c) (gs.length + 1) hs := row_gro h2' q3 (fun k hk e => by cases hk; exact hgu _ e rfl)
  have hcW := row_cell h2 (Nat.lt_succ_self _) hu
  have hcW' := row_cell h2w (Nat.lt_succ_self _) hu
  have hglt : g < W.heap.size := row_lt h2 g rfl
  have hgb : base ≤ g := row_own h2 g rfl
  have hub : ∀ k, u.ownBlock = some k → base ≤ k := fun k hk => Nat.le_trans (h4 gs.length).1 (row_own hrow k hk)
  have hbel : Below base W W' := Below.grown ((Below.refl _ W).alloc hb (.cells x.cells.toArray 31)).drew q3 (by rw [hw1]; omega) hub
  have hu1 : u'.oneCell' = true := by
    obtain ⟨_, _, rfl⟩ := row_slice q2; rfl
  refine ⟨u, u', W', row_slice hrow, row_slice q2, hcW.1, hcW.2, fun ty => q1, hcW'.1, hcW'.2, hbel, hglt, ⟨hs.set gs.length u', B, by simp [h1], ?_, fun y hy => ?_, fun i => ⟨(h4 i).1, ?_⟩, ⟨Nat.le_refl _, fun i z k hz hk => ?_⟩, fun i z l hz hl' => ?_, fun i j z k hij hj hz hk => ?_⟩, hgb, fun b cs hXb hB => ?_, fun cs hB => ?_⟩
  · rw [show (gs ++ [L ++ [x]]).length = gs.length + 1 by simp]
    exact row_set h2w (Nat.lt_succ_self _) u'
  · rcases List.mem_or_eq_of_mem_set hy with hy | rfl
    · exact h3 y hy
    · exact hu1
  · rw [World.size_setCell]
    have := (h4 i).2
    have := hbel.size
    omega
  · rw [World.size_setCell]
    by_cases hi : i = gs.length
    · subst hi
      rw [List.getElem?_set_self (by omega)] at hz
      cases hz
      exact row_lt q2 k hk
    · rw [List.getElem?_set_ne (fun e => hi e.symm)] at hz
      have := h7.2 i z k hz hk
      have := h7.1
      have := hbel.size
      omega
  · by_cases hi : i = gs.length
    · subst hi
      rw [List.getElem?_set_self (by omega)] at hz
      have : (gs ++ [L ++ [x]])[gs.length]? = some (L ++ [x]) := by simp
      rw [this] at hl'
      cases hz; cases hl'
      refine ⟨by simp; omega, ?_⟩
      rw [List.length_append]
      refine ownsRow_setCell_other q2 (fun e => ?_) u'
      exact row_type q2 h2w (by decide) g e rfl
    · rw [List.getElem?_set_ne (fun e => hi e.symm)] at hz
      have hil : i < gs.length := by
        have := (List.getElem?_eq_some_iff.1 hl').1
        simp at this; omega
      rw [List.getElem?_append_left hil] at hl'
      have hl2 : (gs ++ [L])[i]? = some l := by rw [List.getElem?_append_left hil]; exact hl'
      obtain ⟨a1, a2⟩ := h5 i z l hz hl2
      refine ⟨a1, ?_⟩
      have hne : ∀ k, z.ownBlock = some k → u.ownBlock ≠ some k := fun k hk e => by
        have := h6 i gs.length z k hil (by simp) hz hk
        have := row_own hrow k e
        omega
      have a4 : (W.alloc (.cells x.cells.toArray 31)).drew.ownsRow (B i) 31 4 z l.length (flat Ev.cells l) := row_alloc a2 _
      have a3 : W'.ownsRow (B i) 31 4 z l.length (flat Ev.cells l) := row_gro a4 q3 hne
      refine ownsRow_setCell_other a3 (fun e => ?_) u'
      exact row_type a3 h2w (by decide) g e rfl
  · rw [show (gs ++ [L ++ [x]]).length = gs.length + 1 by simp] at hj
    rw [List.getElem?_set_ne (by omega)] at hz
    exact h6 i j z k hij (by rw [hsz0]; exact hj) hz hk
  · have hB1 : Blk (W.alloc (.cells x.cells.toArray 31)).drew b cs 31 := (hB.alloc _).drew
    have hlt := hB1.lt
    unfold Blk at hB1 ⊢
    rw [q3.block b hlt (fun e => ?_)]
    · exact hB1
    · have := h7.2 _ u b hu e.symm
      omega
  · obtain ⟨_, hv | ⟨g1, cap, cur, hv, _, e3, _⟩⟩ := h2
    · cases hv.1
    · cases hv
      unfold Blk at hB
      rw [hB] at e3
      injection e3 with e4
      injection e4 with _ e5 _
      exact absurd e5 (by decide)
end Go.Proofs.YtjakhgilkogcnaaDoor
