/-
  No cell of these rows narrows 'for every input' (looked for: loops, veiled, ifaces, maps, wideKeys, modest, calm, conditions, laid).
  DERIVED. THE GIVEN ROWS OF THIS SEAT. 11 by the template 'for every input the law returns true; each argument reads behind the call as it read before'; 0 by the template 'total and deterministic' (their statements: YtjkgkoedkphnjaaTotals.lean).
  GIVEN WITH THE SEED: the statements are not yours to turn. If you find one false, say at which input.
  Laid BY PROGRAM, IN A SANDBOX (cutbox-rows.mjs): the forced cells as the released guide's own fill.sh prints them over the translation 69923f2a71ed515a… (all of the seat's roots in one cut). By AI agents, Wed Nov 11 2026. No macro, syntax, notation, axiom, sorry.
-/
import Derived.Test.YtjkgkoedkphnjaaChecked
import GoSem.Claim
import GoSem.ClaimJoined
import GoSem.ClaimMapViews
import Derived.JoinedTies
import Derived.KernelRfl
namespace Go.Proofs.Ytjkgkoedkphnjaa
/- THE CELL 'sum', in the pinned program and in every row, IS THE sha256 OF THE DUMP (.gsa) THAT YtjkgkoedkphnjaaProg.lean LOADS. Nothing in Lean hashes anything: it is a label: what it is worth is what the hold of that sum in a sandbox is worth. -/
noncomputable def Try.pinned : Pinned := { name := "ytjkgkoedkphnjaa", sum := "69923f2a71ed515a75a429a468edbb8e8e71a6ce68729dea93d946f67f62709d", checked := Try.checked }
namespace Rows
def none {H : Type} : Left H := { results := [], args := [] }

/-- 'gridhallkeep2.BreakerOpens': WHATEVER THE INPUT: true; the input reads as it did. -/
def breakerOpensSpec : ChangeSpec := { name := "breakerOpens", fn := fun _ => fun
  | [d1, d2, d3, d4] => { results := [.lit (.bool true)], args := [d1, d2, d3, d4] }
  | _ => none }
def breakerOpensRow : OpenClaim := { program := "ytjkgkoedkphnjaa", sum := "69923f2a71ed515a75a429a468edbb8e8e71a6ce68729dea93d946f67f62709d", func := "gridhall/gridhallkeep2.BreakerOpens", spec := "breakerOpens", apart := false }
def BreakerOpensSaid : Prop := breakerOpensRow.holds Try.pinned (OpenSpec.ofChange breakerOpensSpec)

/-- ITS FALSE NEIGHBOUR: 'it returns false'. Refute it at one input. -/
def breakerOpensWrong : ChangeSpec := { name := "breakerOpens", fn := fun _ => fun
  | [d1, d2, d3, d4] => { results := [.lit (.bool false)], args := [d1, d2, d3, d4] }
  | _ => none }
def BreakerOpensWrongFalsely : Prop := breakerOpensRow.holds Try.pinned (OpenSpec.ofChange breakerOpensWrong)

/-- 'gridhallkeep2.BreakerEnergy': WHATEVER THE INPUT: true; the input reads as it did. -/
def breakerEnergySpec : ChangeSpec := { name := "breakerEnergy", fn := fun _ => fun
  | [d] => { results := [.lit (.bool true)], args := [d] }
  | _ => none }
def breakerEnergyRow : OpenClaim := { program := "ytjkgkoedkphnjaa", sum := "69923f2a71ed515a75a429a468edbb8e8e71a6ce68729dea93d946f67f62709d", func := "gridhall/gridhallkeep2.BreakerEnergy", spec := "breakerEnergy", apart := false }
def BreakerEnergySaid : Prop := breakerEnergyRow.holds Try.pinned (OpenSpec.ofChange breakerEnergySpec)

/-- ITS FALSE NEIGHBOUR: 'it returns false'. Refute it at one input. -/
def breakerEnergyWrong : ChangeSpec := { name := "breakerEnergy", fn := fun _ => fun
  | [d] => { results := [.lit (.bool false)], args := [d] }
  | _ => none }
def BreakerEnergyWrongFalsely : Prop := breakerEnergyRow.holds Try.pinned (OpenSpec.ofChange breakerEnergyWrong)

/-- 'gridhallkeep2.BreakerJams': WHATEVER THE INPUT: true; the input reads as it did. -/
def breakerJamsSpec : ChangeSpec := { name := "breakerJams", fn := fun _ => fun
  | [d1, d2, d3] => { results := [.lit (.bool true)], args := [d1, d2, d3] }
  | _ => none }
def breakerJamsRow : OpenClaim := { program := "ytjkgkoedkphnjaa", sum := "69923f2a71ed515a75a429a468edbb8e8e71a6ce68729dea93d946f67f62709d", func := "gridhall/gridhallkeep2.BreakerJams", spec := "breakerJams", apart := false }
def BreakerJamsSaid : Prop := breakerJamsRow.holds Try.pinned (OpenSpec.ofChange breakerJamsSpec)

/-- ITS FALSE NEIGHBOUR: 'it returns false'. Refute it at one input. -/
def breakerJamsWrong : ChangeSpec := { name := "breakerJams", fn := fun _ => fun
  | [d1, d2, d3] => { results := [.lit (.bool false)], args := [d1, d2, d3] }
  | _ => none }
def BreakerJamsWrongFalsely : Prop := breakerJamsRow.holds Try.pinned (OpenSpec.ofChange breakerJamsWrong)

/-- 'gridhallkeep2.RecloseReclaims': WHATEVER THE INPUT: true; the input reads as it did. -/
def recloseReclaimsSpec : ChangeSpec := { name := "recloseReclaims", fn := fun _ => fun
  | [d1, d2] => { results := [.lit (.bool true)], args := [d1, d2] }
  | _ => none }
def recloseReclaimsRow : OpenClaim := { program := "ytjkgkoedkphnjaa", sum := "69923f2a71ed515a75a429a468edbb8e8e71a6ce68729dea93d946f67f62709d", func := "gridhall/gridhallkeep2.RecloseReclaims", spec := "recloseReclaims", unfollowed := true, recurses := true, apart := false }
def RecloseReclaimsSaid : Prop := recloseReclaimsRow.holds Try.pinned (OpenSpec.ofChange recloseReclaimsSpec)

/-- ITS FALSE NEIGHBOUR: 'it returns false'. Refute it at one input. -/
def recloseReclaimsWrong : ChangeSpec := { name := "recloseReclaims", fn := fun _ => fun
  | [d1, d2] => { results := [.lit (.bool false)], args := [d1, d2] }
  | _ => none }
def RecloseReclaimsWrongFalsely : Prop := recloseReclaimsRow.holds Try.pinned (OpenSpec.ofChange recloseReclaimsWrong)

/-- 'gridhallkeep2.RecloseSteps': WHATEVER THE INPUT: true; the input reads as it did. -/
def recloseStepsSpec : ChangeSpec := { name := "recloseSteps", fn := fun _ => fun
  | [d1, d2] => { results := [.lit (.bool true)], args := [d1, d2] }
  | _ => none }
def recloseStepsRow : OpenClaim := { program := "ytjkgkoedkphnjaa", sum := "69923f2a71ed515a75a429a468edbb8e8e71a6ce68729dea93d946f67f62709d", func := "gridhall/gridhallkeep2.RecloseSteps", spec := "recloseSteps", unfollowed := true, recurses := true, apart := false }
def RecloseStepsSaid : Prop := recloseStepsRow.holds Try.pinned (OpenSpec.ofChange recloseStepsSpec)

/-- ITS FALSE NEIGHBOUR: 'it returns false'. Refute it at one input. -/
def recloseStepsWrong : ChangeSpec := { name := "recloseSteps", fn := fun _ => fun
  | [d1, d2] => { results := [.lit (.bool false)], args := [d1, d2] }
  | _ => none }
def RecloseStepsWrongFalsely : Prop := recloseStepsRow.holds Try.pinned (OpenSpec.ofChange recloseStepsWrong)

/-- 'gridhallkeep2.RecloseLocks': WHATEVER THE INPUT: true; the input reads as it did. -/
def recloseLocksSpec : ChangeSpec := { name := "recloseLocks", fn := fun _ => fun
  | [d] => { results := [.lit (.bool true)], args := [d] }
  | _ => none }
def recloseLocksRow : OpenClaim := { program := "ytjkgkoedkphnjaa", sum := "69923f2a71ed515a75a429a468edbb8e8e71a6ce68729dea93d946f67f62709d", func := "gridhall/gridhallkeep2.RecloseLocks", spec := "recloseLocks", unfollowed := true, recurses := true, apart := false }
def RecloseLocksSaid : Prop := recloseLocksRow.holds Try.pinned (OpenSpec.ofChange recloseLocksSpec)

/-- ITS FALSE NEIGHBOUR: 'it returns false'. Refute it at one input. -/
def recloseLocksWrong : ChangeSpec := { name := "recloseLocks", fn := fun _ => fun
  | [d] => { results := [.lit (.bool false)], args := [d] }
  | _ => none }
def RecloseLocksWrongFalsely : Prop := recloseLocksRow.holds Try.pinned (OpenSpec.ofChange recloseLocksWrong)

/-- 'gridhallkeep2.CurveFalls': WHATEVER THE INPUT: true; the input reads as it did. -/
def curveFallsSpec : ChangeSpec := { name := "curveFalls", fn := fun _ => fun
  | [d1, d2, d3, d4] => { results := [.lit (.bool true)], args := [d1, d2, d3, d4] }
  | _ => none }
def curveFallsRow : OpenClaim := { program := "ytjkgkoedkphnjaa", sum := "69923f2a71ed515a75a429a468edbb8e8e71a6ce68729dea93d946f67f62709d", func := "gridhall/gridhallkeep2.CurveFalls", spec := "curveFalls", unfollowed := true, recurses := true, apart := false }
def CurveFallsSaid : Prop := curveFallsRow.holds Try.pinned (OpenSpec.ofChange curveFallsSpec)

/-- ITS FALSE NEIGHBOUR: 'it returns false'. Refute it at one input. -/
def curveFallsWrong : ChangeSpec := { name := "curveFalls", fn := fun _ => fun
  | [d1, d2, d3, d4] => { results := [.lit (.bool false)], args := [d1, d2, d3, d4] }
  | _ => none }
def CurveFallsWrongFalsely : Prop := curveFallsRow.holds Try.pinned (OpenSpec.ofChange curveFallsWrong)

/-- 'gridhallkeep2.CurvePoints': WHATEVER THE INPUT: true; the input reads as it did. -/
def curvePointsSpec : ChangeSpec := { name := "curvePoints", fn := fun _ => fun
  | [d1, d2, d3] => { results := [.lit (.bool true)], args := [d1, d2, d3] }
  | _ => none }
def curvePointsRow : OpenClaim := { program := "ytjkgkoedkphnjaa", sum := "69923f2a71ed515a75a429a468edbb8e8e71a6ce68729dea93d946f67f62709d", func := "gridhall/gridhallkeep2.CurvePoints", spec := "curvePoints", unfollowed := true, recurses := true, apart := false }
def CurvePointsSaid : Prop := curvePointsRow.holds Try.pinned (OpenSpec.ofChange curvePointsSpec)

/-- ITS FALSE NEIGHBOUR: 'it returns false'. Refute it at one input. -/
def curvePointsWrong : ChangeSpec := { name := "curvePoints", fn := fun _ => fun
  | [d1, d2, d3] => { results := [.lit (.bool false)], args := [d1, d2, d3] }
  | _ => none }
def CurvePointsWrongFalsely : Prop := curvePointsRow.holds Try.pinned (OpenSpec.ofChange curvePointsWrong)

/-- 'gridhallkeep2.CurveLeast': WHATEVER THE INPUT: true; the input reads as it did. -/
def curveLeastSpec : ChangeSpec := { name := "curveLeast", fn := fun _ => fun
  | [d1, d2, d3] => { results := [.lit (.bool true)], args := [d1, d2, d3] }
  | _ => none }
def curveLeastRow : OpenClaim := { program := "ytjkgkoedkphnjaa", sum := "69923f2a71ed515a75a429a468edbb8e8e71a6ce68729dea93d946f67f62709d", func := "gridhall/gridhallkeep2.CurveLeast", spec := "curveLeast", unfollowed := true, recurses := true, apart := false }
def CurveLeastSaid : Prop := curveLeastRow.holds Try.pinned (OpenSpec.ofChange curveLeastSpec)

/-- ITS FALSE NEIGHBOUR: 'it returns false'. Refute it at one input. -/
def curveLeastWrong : ChangeSpec := { name := "curveLeast", fn := fun _ => fun
  | [d1, d2, d3] => { results := [.lit (.bool false)], args := [d1, d2, d3] }
  | _ => none }
def CurveLeastWrongFalsely : Prop := curveLeastRow.holds Try.pinned (OpenSpec.ofChange curveLeastWrong)

/-- 'gridhallkeep2.CurveScales': WHATEVER THE INPUT: true; the input reads as it did. -/
def curveScalesSpec : ChangeSpec := { name := "curveScales", fn := fun _ => fun
  | [d1, d2, d3, d4, d5] => { results := [.lit (.bool true)], args := [d1, d2, d3, d4, d5] }
  | _ => none }
def curveScalesRow : OpenClaim := { program := "ytjkgkoedkphnjaa", sum := "69923f2a71ed515a75a429a468edbb8e8e71a6ce68729dea93d946f67f62709d", func := "gridhall/gridhallkeep2.CurveScales", spec := "curveScales", unfollowed := true, recurses := true, apart := false }
def CurveScalesSaid : Prop := curveScalesRow.holds Try.pinned (OpenSpec.ofChange curveScalesSpec)

/-- ITS FALSE NEIGHBOUR: 'it returns false'. Refute it at one input. -/
def curveScalesWrong : ChangeSpec := { name := "curveScales", fn := fun _ => fun
  | [d1, d2, d3, d4, d5] => { results := [.lit (.bool false)], args := [d1, d2, d3, d4, d5] }
  | _ => none }
def CurveScalesWrongFalsely : Prop := curveScalesRow.holds Try.pinned (OpenSpec.ofChange curveScalesWrong)

/-- 'gridhallkeep2.CurveConflicts': WHATEVER THE INPUT: true; the input reads as it did. -/
def curveConflictsSpec : ChangeSpec := { name := "curveConflicts", fn := fun _ => fun
  | [d1, d2, d3, d4, d5, d6, d7, d8] => { results := [.lit (.bool true)], args := [d1, d2, d3, d4, d5, d6, d7, d8] }
  | _ => none }
def curveConflictsRow : OpenClaim := { program := "ytjkgkoedkphnjaa", sum := "69923f2a71ed515a75a429a468edbb8e8e71a6ce68729dea93d946f67f62709d", func := "gridhall/gridhallkeep2.CurveConflicts", spec := "curveConflicts", unfollowed := true, recurses := true, apart := false }
def CurveConflictsSaid : Prop := curveConflictsRow.holds Try.pinned (OpenSpec.ofChange curveConflictsSpec)

/-- ITS FALSE NEIGHBOUR: 'it returns false'. Refute it at one input. -/
def curveConflictsWrong : ChangeSpec := { name := "curveConflicts", fn := fun _ => fun
  | [d1, d2, d3, d4, d5, d6, d7, d8] => { results := [.lit (.bool false)], args := [d1, d2, d3, d4, d5, d6, d7, d8] }
  | _ => none }
def CurveConflictsWrongFalsely : Prop := curveConflictsRow.holds Try.pinned (OpenSpec.ofChange curveConflictsWrong)

/- THE SECOND FORM. 'bulk': how many values and letters a reading holds, each counted each time it is reached (what is shared counts as often as it is met; a slice's spare places count too). A statement '..UptoSaid' is the law's where the arguments, and the package variables that the reading takes, are together of bulk at most 1048576: NARROWER than '..Said'. Prove '..Said' where nothing that the law and all that it calls make is longer than what came in: it says more and counts as full. Else prove '..UptoSaid'. A law counts once. -/
mutual
def uptoBulk {H : Type} : DataW H → Nat
  | .lit (.string bytes) => bytes.length + 1
  | .lit _ => 1
  | .nil => 1
  | .ptr d => uptoBulk d + 1
  | .slice elems spare => uptoBulkAll elems + uptoBulkAll spare + 1
  | .agg parts => uptoBulkAll parts + 1
  | .iface _ d => uptoBulk d + 1
  | .map entries => uptoBulkEntries entries + 1
  | .held _ => 1
def uptoBulkAll {H : Type} : List (DataW H) → Nat
  | [] => 0
  | d :: r => uptoBulk d + uptoBulkAll r
def uptoBulkEntries {H : Type} : List (Lit × DataW H) → Nat
  | [] => 0
  | x :: r => uptoBulkEntry x + uptoBulkEntries r
def uptoBulkEntry {H : Type} : Lit × DataW H → Nat
  | (.string bytes, d) => bytes.length + uptoBulk d + 1
  | (_, d) => uptoBulk d + 1
 end
def uptoSmall : (H : Type) → List (DataW H) → Bool := fun _ ds => decide (uptoBulkAll ds ≤ 1048576)
def OpenSpec.upto (s : _root_.Go.ChangeSpec) : _root_.Go.OpenSpec := { _root_.Go.OpenSpec.ofChange s with cond := some uptoSmall }

/-- 'gridhallkeep2.BreakerOpens', WHERE WHAT IT READS IS OF BULK AT MOST 1048576: true; the input reads as it did. -/
def breakerOpensUptoRow : OpenClaim := { program := "ytjkgkoedkphnjaa", sum := "69923f2a71ed515a75a429a468edbb8e8e71a6ce68729dea93d946f67f62709d", func := "gridhall/gridhallkeep2.BreakerOpens", spec := "breakerOpens", apart := false, narrowed := true }
def BreakerOpensUptoSaid : Prop := breakerOpensUptoRow.holds Try.pinned (OpenSpec.upto breakerOpensSpec)

/-- 'gridhallkeep2.BreakerEnergy', WHERE WHAT IT READS IS OF BULK AT MOST 1048576: true; the input reads as it did. -/
def breakerEnergyUptoRow : OpenClaim := { program := "ytjkgkoedkphnjaa", sum := "69923f2a71ed515a75a429a468edbb8e8e71a6ce68729dea93d946f67f62709d", func := "gridhall/gridhallkeep2.BreakerEnergy", spec := "breakerEnergy", apart := false, narrowed := true }
def BreakerEnergyUptoSaid : Prop := breakerEnergyUptoRow.holds Try.pinned (OpenSpec.upto breakerEnergySpec)

/-- 'gridhallkeep2.BreakerJams', WHERE WHAT IT READS IS OF BULK AT MOST 1048576: true; the input reads as it did. -/
def breakerJamsUptoRow : OpenClaim := { program := "ytjkgkoedkphnjaa", sum := "69923f2a71ed515a75a429a468edbb8e8e71a6ce68729dea93d946f67f62709d", func := "gridhall/gridhallkeep2.BreakerJams", spec := "breakerJams", apart := false, narrowed := true }
def BreakerJamsUptoSaid : Prop := breakerJamsUptoRow.holds Try.pinned (OpenSpec.upto breakerJamsSpec)

/-- 'gridhallkeep2.RecloseReclaims', WHERE WHAT IT READS IS OF BULK AT MOST 1048576: true; the input reads as it did. -/
def recloseReclaimsUptoRow : OpenClaim := { program := "ytjkgkoedkphnjaa", sum := "69923f2a71ed515a75a429a468edbb8e8e71a6ce68729dea93d946f67f62709d", func := "gridhall/gridhallkeep2.RecloseReclaims", spec := "recloseReclaims", unfollowed := true, recurses := true, apart := false, narrowed := true }
def RecloseReclaimsUptoSaid : Prop := recloseReclaimsUptoRow.holds Try.pinned (OpenSpec.upto recloseReclaimsSpec)

/-- 'gridhallkeep2.RecloseSteps', WHERE WHAT IT READS IS OF BULK AT MOST 1048576: true; the input reads as it did. -/
def recloseStepsUptoRow : OpenClaim := { program := "ytjkgkoedkphnjaa", sum := "69923f2a71ed515a75a429a468edbb8e8e71a6ce68729dea93d946f67f62709d", func := "gridhall/gridhallkeep2.RecloseSteps", spec := "recloseSteps", unfollowed := true, recurses := true, apart := false, narrowed := true }
def RecloseStepsUptoSaid : Prop := recloseStepsUptoRow.holds Try.pinned (OpenSpec.upto recloseStepsSpec)

/-- 'gridhallkeep2.RecloseLocks', WHERE WHAT IT READS IS OF BULK AT MOST 1048576: true; the input reads as it did. -/
def recloseLocksUptoRow : OpenClaim := { program := "ytjkgkoedkphnjaa", sum := "69923f2a71ed515a75a429a468edbb8e8e71a6ce68729dea93d946f67f62709d", func := "gridhall/gridhallkeep2.RecloseLocks", spec := "recloseLocks", unfollowed := true, recurses := true, apart := false, narrowed := true }
def RecloseLocksUptoSaid : Prop := recloseLocksUptoRow.holds Try.pinned (OpenSpec.upto recloseLocksSpec)

/-- 'gridhallkeep2.CurveFalls', WHERE WHAT IT READS IS OF BULK AT MOST 1048576: true; the input reads as it did. -/
def curveFallsUptoRow : OpenClaim := { program := "ytjkgkoedkphnjaa", sum := "69923f2a71ed515a75a429a468edbb8e8e71a6ce68729dea93d946f67f62709d", func := "gridhall/gridhallkeep2.CurveFalls", spec := "curveFalls", unfollowed := true, recurses := true, apart := false, narrowed := true }
def CurveFallsUptoSaid : Prop := curveFallsUptoRow.holds Try.pinned (OpenSpec.upto curveFallsSpec)

/-- 'gridhallkeep2.CurvePoints', WHERE WHAT IT READS IS OF BULK AT MOST 1048576: true; the input reads as it did. -/
def curvePointsUptoRow : OpenClaim := { program := "ytjkgkoedkphnjaa", sum := "69923f2a71ed515a75a429a468edbb8e8e71a6ce68729dea93d946f67f62709d", func := "gridhall/gridhallkeep2.CurvePoints", spec := "curvePoints", unfollowed := true, recurses := true, apart := false, narrowed := true }
def CurvePointsUptoSaid : Prop := curvePointsUptoRow.holds Try.pinned (OpenSpec.upto curvePointsSpec)

/-- 'gridhallkeep2.CurveLeast', WHERE WHAT IT READS IS OF BULK AT MOST 1048576: true; the input reads as it did. -/
def curveLeastUptoRow : OpenClaim := { program := "ytjkgkoedkphnjaa", sum := "69923f2a71ed515a75a429a468edbb8e8e71a6ce68729dea93d946f67f62709d", func := "gridhall/gridhallkeep2.CurveLeast", spec := "curveLeast", unfollowed := true, recurses := true, apart := false, narrowed := true }
def CurveLeastUptoSaid : Prop := curveLeastUptoRow.holds Try.pinned (OpenSpec.upto curveLeastSpec)

/-- 'gridhallkeep2.CurveScales', WHERE WHAT IT READS IS OF BULK AT MOST 1048576: true; the input reads as it did. -/
def curveScalesUptoRow : OpenClaim := { program := "ytjkgkoedkphnjaa", sum := "69923f2a71ed515a75a429a468edbb8e8e71a6ce68729dea93d946f67f62709d", func := "gridhall/gridhallkeep2.CurveScales", spec := "curveScales", unfollowed := true, recurses := true, apart := false, narrowed := true }
def CurveScalesUptoSaid : Prop := curveScalesUptoRow.holds Try.pinned (OpenSpec.upto curveScalesSpec)

/-- 'gridhallkeep2.CurveConflicts', WHERE WHAT IT READS IS OF BULK AT MOST 1048576: true; the input reads as it did. -/
def curveConflictsUptoRow : OpenClaim := { program := "ytjkgkoedkphnjaa", sum := "69923f2a71ed515a75a429a468edbb8e8e71a6ce68729dea93d946f67f62709d", func := "gridhall/gridhallkeep2.CurveConflicts", spec := "curveConflicts", unfollowed := true, recurses := true, apart := false, narrowed := true }
def CurveConflictsUptoSaid : Prop := curveConflictsUptoRow.holds Try.pinned (OpenSpec.upto curveConflictsSpec)

end Rows
end Go.Proofs.Ytjkgkoedkphnjaa
