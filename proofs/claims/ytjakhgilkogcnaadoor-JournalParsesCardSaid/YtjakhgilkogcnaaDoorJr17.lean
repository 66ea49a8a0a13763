/- journal: Merge. -/
import Derived.Test.YtjakhgilkogcnaaDoorJr16
import Derived.Deep.RegionHeld3
namespace Go.Proofs.YtjakhgilkogcnaaDoor
open Go.RowKit

def mergeE : List Ev → List Ev → List Ev
  | [], q => q
  | x :: p, [] => x :: p
  | x :: p, y :: q => if cmpE x y < 0 then x :: mergeE p (y :: q) else if cmpE x y = 0 then x :: mergeE p q else y :: mergeE (x :: p) q
termination_by p q => p.length + q.length
def cE : List Ev → List Ev → Int
  | [], _ => 1
  | _ :: _, [] => -1
  | x :: _, y :: _ => cmpE x y
theorem mergeE_nil (p : List Ev) : mergeE p [] = p := by
  cases p <;> simp [mergeE]
theorem merge_step (p q : List Ev) (h : ¬ (p = [] ∧ q = [])) :
    (cE p q < 0 → ∃ x p', p = x :: p' ∧ mergeE p q = x :: mergeE p' q) ∧
    (cE p q = 0 → ∃ x p' y q', p = x :: p' ∧ q = y :: q' ∧ mergeE p q = x :: mergeE p' q') ∧
    (0 < cE p q → ∃ y q', q = y :: q' ∧ mergeE p q = y :: mergeE p q') := by
  cases p with
  | nil =>
    cases q with
    | nil => exact absurd ⟨rfl, rfl⟩ h
    | cons y q => exact ⟨fun h => by simp [cE] at h, fun h => by simp [cE] at h, fun _ => ⟨y, q, rfl, by simp [mergeE]⟩⟩
  | cons x p =>
    cases q with
    | nil => exact ⟨fun _ => ⟨x, p, rfl, by rw [mergeE_nil, mergeE_nil]⟩, fun h => by simp [cE] at h, fun h => by simp [cE] at h⟩
    | cons y q =>
      rw [mergeE]
      show (cmpE x y < 0 → _) ∧ (cmpE x y = 0 → _) ∧ (0 < cmpE x y → _)
      refine ⟨fun h => ⟨x, p, rfl, by rw [if_pos h]⟩, fun h => ⟨x, p, y, q, rfl, rfl, by rw [if_neg (by omega), if_pos h]⟩, fun h => ⟨y, q, rfl, by rw [if_neg (by omega), if_neg (by omega)]⟩⟩
def mergedE (a b : List Ev) : List Ev × Int :=
  if (sortedE a).2 ≠ 0 then ([], (sortedE a).2) else if (sortedE b).2 ≠ 0 then ([], (sortedE b).2) else
  if 256 < (mergeE (sortedE a).1 (sortedE b).1).length then ([], 2) else (mergeE (sortedE a).1 (sortedE b).1, 0)
def lenOf : Value → Nat
  | .slice _ n _ => n
  | _ => 0
theorem app_one {base : Nat} {W : World} {v : Value} {P : List Ev} (x : Ev) (hr : OwnE W base v P) (hl : P.length ≤ 600) (hb : base ≤ W.heap.size) :
    ∃ a c W', (∀ ty, (Builtin.append_ #[22, 22] ty #[v, .slice (some ⟨W.heap.size, 0, none⟩) 1 1]).run Tryd.prog (W.alloc (.cells x.cells.toArray 31)) = .ok (.slice a (P.length + 1) c) W') ∧ OwnE W' base (.slice a (P.length + 1) c) (P ++ [x]) ∧ Below base W W' := by
  obtain ⟨i0, hi0, hz0, hz1, hz2⟩ := info_parts infoEv
  have hw1 : (W.alloc (.cells x.cells.toArray 31)).heap.size = W.heap.size + 1 := World.size_alloc _ _
  have hxb : Blk (W.alloc (.cells x.cells.toArray 31)) W.heap.size x.cells.toArray 31 := Blk.new W _ _
  have key := fun ty => run_append_own (P := Tryd.prog) (W.alloc (.cells x.cells.toArray 31)) base 22 ty 31 i0 _ 4 48 Tryd.underlying22 hi0 hz0 hz1 hz2 rfl (by decide) v P.length (flat Ev.cells P) (row_alloc hr _) ⟨W.heap.size, 0, none⟩ 1 1 x.cells rfl
    (fun j y hj => hxb.row j y (by simpa using hj)) (fun y hy => ev_one [x] y (by simpa [flat] using hy)) (by unfold maxLen; omega) (by omega) (by rw [hw1]; omega)
  obtain ⟨u', W', q1, q2, q3, _⟩ := key 0
  have hflx : flat Ev.cells (P ++ [x]) = flat Ev.cells P ++ x.cells := by simp [flat]
  rw [← hflx] at q2
  obtain ⟨a, c, rfl⟩ := row_slice q2
  exact ⟨a, c, W', fun ty => q1, (by show Go.World.ownsRow _ _ _ _ _ _ _; rw [List.length_append]; exact q2), Below.grown ((Below.refl base W).alloc hb _) q3 (by rw [hw1]; omega) (fun k hk => row_own hr k hk)⟩
theorem ev_head {W : World} {v : Value} {x : Ev} {l : List Ev} (h : Reads W v (x :: l).length (flat Ev.cells (x :: l))) :
    ∃ b off c, v = .slice (some ⟨b, off, none⟩) (l.length + 1) c ∧ l.length + 1 ≤ c ∧ b < W.heap.size ∧ l.length + 1 ≤ 9223372036854775807 ∧
      (∀ W', Below W.heap.size W W' → W'.cell? ⟨b, off, none⟩ = some (.int .i64 x.t) ∧ W'.cell? ⟨b, off + 1, none⟩ = some (.string x.k) ∧ W'.cell? ⟨b, off + 2, none⟩ = some (.string x.n) ∧ W'.cell? ⟨b, off + 3, none⟩ = some (.int .i64 x.v)) ∧
      (c = 1 → Reads W (.slice (some ⟨b, off, none⟩) l.length (c - 1)) l.length (flat Ev.cells l)) ∧ (c ≠ 1 → Reads W (.slice (some ⟨b, off + 4, none⟩) l.length (c - 1)) l.length (flat Ev.cells l)) := by
  obtain ⟨b, off, c, rfl, h1, h2, h3, h4⟩ := h.addr (by simp)
  simp only [List.length_cons] at h1 h2 ⊢
  refine ⟨b, off, c, rfl, h1, h3, h2, fun W' hW => ?_, fun hc => ?_, fun hc => ?_⟩
  · obtain ⟨c0, c1, c2, c3⟩ := ev_cells h4 (k := 0) (x := x) rfl
    simp only [Nat.zero_mul, Nat.add_zero] at c0 c1 c2 c3
    have e : ∀ o, W'.cell? ⟨b, o, none⟩ = W.cell? ⟨b, o, none⟩ := fun o => hW.cell (p := ⟨b, o, none⟩) h3
    exact ⟨(e _).trans c0, (e _).trans c1, (e _).trans c2, (e _).trans c3⟩
  · have : l = [] := List.eq_nil_of_length_eq_zero (by omega)
    subst this
    exact Or.inl ⟨rfl, rfl, _, _, rfl⟩
  · refine Or.inr ⟨b, off + 4, c - 1, rfl, by omega, by omega, h3, fun j u hj => ?_⟩
    have := h4 (4 + j) u (by
      rw [show flat Ev.cells (x :: l) = Ev.cells x ++ flat Ev.cells l by simp [flat], List.getElem?_append_right (by simp [Ev.cells])]
      simpa [Ev.cells] using hj)
    rw [show off + 4 + j = off + (4 + j) by omega]; exact this
end Go.Proofs.YtjakhgilkogcnaaDoor
