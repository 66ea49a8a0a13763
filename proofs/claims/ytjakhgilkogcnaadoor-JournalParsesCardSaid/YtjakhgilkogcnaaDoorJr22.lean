/- journal: what Parse asks of the library. -/
import Derived.Test.YtjakhgilkogcnaaDoorJr21
import Derived.Test.YtjakhgilkogcnaaDoorJr18
namespace Go.Proofs.YtjakhgilkogcnaaDoor
open Go.RowKit

theorem cloneS_c (s : ByteArray) (w : World) (hs : s.size ≤ 70000) : Calls Tryd.prog 26 #[.string s] w fun e w' => e = .returned (.string s) ∧ Below w.heap.size w w' := by
  have HC := Lib.hid (Tryd.stringslite_Clone s w (by omega))
  go_enter Tryd.func26, Tryd.ntmps26
  go_wp2_with fail
  refine HC.out.mono ?_; rintro e w2 ⟨rfl, hb⟩
  have HB := Lib.hid hb
  clear hb
  go_wp2_with fail
  go_ret
  exact ⟨rfl, HB.out⟩
/-- The events of the lines ahead of the last one, as far as they are read: with the line at fault and the error. -/
def linesE : List ByteArray → Nat → List Ev → List Ev × Int × Int
  | [], _, out => (out, 0, 0)
  | s :: ss, k, out => if (lineE s).2 ≠ 0 then ([], k + 1, (lineE s).2) else linesE ss (k + 1) (out ++ [(lineE s).1])
def parseE (s : ByteArray) : List Ev × Int × Int :=
  if 65536 < s.size then ([], 0, 2) else
  if (pcs s ⟨#[10]⟩).getLastD ByteArray.empty ≠ ByteArray.empty then ([], (pcs s ⟨#[10]⟩).length, 5) else
  if 256 < (pcs s ⟨#[10]⟩).length - 1 then ([], 0, 2) else linesE (pcs s ⟨#[10]⟩).dropLast 0 []
theorem linesE_drop {ss : List ByteArray} {k : Nat} {s : ByteArray} (h : ss[k]? = some s) (out : List Ev) : linesE (ss.drop k) k out = if (lineE s).2 ≠ 0 then ([], (k : Int) + 1, (lineE s).2) else linesE (ss.drop (k + 1)) (k + 1) (out ++ [(lineE s).1]) := by
  obtain ⟨hk, hx⟩ := List.getElem?_eq_some_iff.1 h
  rw [List.drop_eq_getElem_cons hk, hx]; rfl
end Go.Proofs.YtjakhgilkogcnaaDoor
