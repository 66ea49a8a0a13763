/- journal: SortFunc at []Event, Sorted. -/
import Derived.Test.YtjakhgilkogcnaaDoorJr4
import Derived.Test.YtjakhgilkogcnaaDoorJr5
import Derived.Test.YtjakhgilkogcnaaDoorShs
namespace Go.Proofs.YtjakhgilkogcnaaDoor
open Go.RowKit Go.Sort Go.Shelf

theorem sortFunc_c (base g cap : Nat) (l : List Ev) (w : World) (h : w.ownsRow base 31 4 (.slice (some ⟨g, 0, none⟩) l.length cap) l.length (flat Ev.cells l)) (hn : l.length ≤ 256) :
    Calls Tryd.prog 18 #[.slice (some ⟨g, 0, none⟩) l.length cap, .func (.func 19) #[] #[]] w fun e w' => e = .returned (.tuple #[]) ∧ w'.ownsRow base 31 4 (.slice (some ⟨g, 0, none⟩) l.length cap) l.length (flat Ev.cells (sortE l)) ∧ Below base w w' := by
  obtain ⟨hH, hg⟩ := ev_holds h
  have eg : ∀ args w, (callFunc 19 args).run Tryd.prog w = .ok (.enter 19 args) w := enters_of Tryd.func19 (by kernel_rfl) rfl
  have hc : CmpLays Tryd.prog 19 #[] Ev.cells 4 cmpE g 0 l.toArray.size w := fun m os dk _ x y => (compare_c x y _).mono fun e w' ⟨he, hg⟩ => ⟨he, hg⟩
  have hS := AnyQ.slices_SortFunc_total Tryd.sortL 4 Tryd.isAgg31 Tryd.sizeOf31 Ev.cells (fun _ => rfl) (fun x u hu => ev_one [x] u (by simpa [flat] using hu)) cmpE swoE 19 #[] g 0 cap l.toArray w eg hc hH hg (by simp; omega) totE
  change Calls Tryd.prog 18 _ _ _ at hS
  refine hS.mono fun e w' ⟨he, m, os, hw⟩ => ⟨he, ?_⟩
  rw [hw]
  exact sort_row h (by show (sortE l).length = _; unfold sortE; simp) m os
theorem sortFunc_none (p : Option Addr) (cap : Nat) (w : World) :
    Calls Tryd.prog 18 #[.slice p 0 cap, .func (.func 19) #[] #[]] w fun e w' => e = .returned (.tuple #[]) ∧ w' = w := by
  have hS := AnyF.slices_SortFunc_none (P := Tryd.prog) (ρ := Tryd.sortL_ren) { Tryd.sortL with } p cap (.func (.func 19) #[] #[]) w
  change Calls Tryd.prog 18 _ _ _ at hS
  exact hS
end Go.Proofs.YtjakhgilkogcnaaDoor
