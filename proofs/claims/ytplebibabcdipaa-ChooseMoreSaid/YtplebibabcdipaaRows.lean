/-
  No cell of these rows narrows 'for every input' (looked for: loops, veiled, ifaces, maps, wideKeys, modest, calm, conditions, laid).
  DERIVED. THE GIVEN ROWS OF THIS SEAT. 10 by the template 'for every input the law returns true; each argument reads behind the call as it read before'; 0 by the template 'total and deterministic' (their statements: YtplebibabcdipaaTotals.lean).
  GIVEN WITH THE SEED: the statements are not yours to turn. If you find one false, say at which input.
  Laid BY PROGRAM, IN A SANDBOX (cutbox-rows.mjs): the forced cells as the released guide's own fill.sh prints them over the translation 63b9109cd47e0cd6… (all of the seat's roots in one cut). By AI agents, Wed Nov 11 2026. No macro, syntax, notation, axiom, sorry.
-/
import Derived.Test.YtplebibabcdipaaChecked
import GoSem.Claim
import GoSem.ClaimJoined
import GoSem.ClaimMapViews
import Derived.JoinedTies
import Derived.KernelRfl
namespace Go.Proofs.Ytplebibabcdipaa
/- THE CELL 'sum', in the pinned program and in every row, IS THE sha256 OF THE DUMP (.gsa) THAT YtplebibabcdipaaProg.lean LOADS. Nothing in Lean hashes anything: it is a label: what it is worth is what the hold of that sum in a sandbox is worth. -/
noncomputable def Try.pinned : Pinned := { name := "ytplebibabcdipaa", sum := "63b9109cd47e0cd65291736b32cffd2967747f54a73d675f2b13e1edf88a4ed1", checked := Try.checked }
namespace Rows
def none {H : Type} : Left H := { results := [], args := [] }

/-- 'gridhallkeep2.ZoneAlong': WHATEVER THE INPUT: true; the input reads as it did. -/
def zoneAlongSpec : ChangeSpec := { name := "zoneAlong", fn := fun _ => fun
  | [d1, d2] => { results := [.lit (.bool true)], args := [d1, d2] }
  | _ => none }
def zoneAlongRow : OpenClaim := { program := "ytplebibabcdipaa", sum := "63b9109cd47e0cd65291736b32cffd2967747f54a73d675f2b13e1edf88a4ed1", func := "gridhall/gridhallkeep2.ZoneAlong", spec := "zoneAlong", unfollowed := true, recurses := true, apart := false }
def ZoneAlongSaid : Prop := zoneAlongRow.holds Try.pinned (OpenSpec.ofChange zoneAlongSpec)

/-- ITS FALSE NEIGHBOUR: 'it returns false'. Refute it at one input. -/
def zoneAlongWrong : ChangeSpec := { name := "zoneAlong", fn := fun _ => fun
  | [d1, d2] => { results := [.lit (.bool false)], args := [d1, d2] }
  | _ => none }
def ZoneAlongWrongFalsely : Prop := zoneAlongRow.holds Try.pinned (OpenSpec.ofChange zoneAlongWrong)

/-- 'gridhallkeep2.ZoneReaches': WHATEVER THE INPUT: true; the input reads as it did. -/
def zoneReachesSpec : ChangeSpec := { name := "zoneReaches", fn := fun _ => fun
  | [d1, d2, d3, d4] => { results := [.lit (.bool true)], args := [d1, d2, d3, d4] }
  | _ => none }
def zoneReachesRow : OpenClaim := { program := "ytplebibabcdipaa", sum := "63b9109cd47e0cd65291736b32cffd2967747f54a73d675f2b13e1edf88a4ed1", func := "gridhall/gridhallkeep2.ZoneReaches", spec := "zoneReaches", unfollowed := true, recurses := true, apart := false }
def ZoneReachesSaid : Prop := zoneReachesRow.holds Try.pinned (OpenSpec.ofChange zoneReachesSpec)

/-- ITS FALSE NEIGHBOUR: 'it returns false'. Refute it at one input. -/
def zoneReachesWrong : ChangeSpec := { name := "zoneReaches", fn := fun _ => fun
  | [d1, d2, d3, d4] => { results := [.lit (.bool false)], args := [d1, d2, d3, d4] }
  | _ => none }
def ZoneReachesWrongFalsely : Prop := zoneReachesRow.holds Try.pinned (OpenSpec.ofChange zoneReachesWrong)

/-- 'gridhallkeep2.ZoneFinds': WHATEVER THE INPUT: true; the input reads as it did. -/
def zoneFindsSpec : ChangeSpec := { name := "zoneFinds", fn := fun _ => fun
  | [d1, d2, d3] => { results := [.lit (.bool true)], args := [d1, d2, d3] }
  | _ => none }
def zoneFindsRow : OpenClaim := { program := "ytplebibabcdipaa", sum := "63b9109cd47e0cd65291736b32cffd2967747f54a73d675f2b13e1edf88a4ed1", func := "gridhall/gridhallkeep2.ZoneFinds", spec := "zoneFinds", unfollowed := true, recurses := true, apart := false }
def ZoneFindsSaid : Prop := zoneFindsRow.holds Try.pinned (OpenSpec.ofChange zoneFindsSpec)

/-- ITS FALSE NEIGHBOUR: 'it returns false'. Refute it at one input. -/
def zoneFindsWrong : ChangeSpec := { name := "zoneFinds", fn := fun _ => fun
  | [d1, d2, d3] => { results := [.lit (.bool false)], args := [d1, d2, d3] }
  | _ => none }
def ZoneFindsWrongFalsely : Prop := zoneFindsRow.holds Try.pinned (OpenSpec.ofChange zoneFindsWrong)

/-- 'gridhallkeep2.ZoneCovered': WHATEVER THE INPUT: true; the input reads as it did. -/
def zoneCoveredSpec : ChangeSpec := { name := "zoneCovered", fn := fun _ => fun
  | [d1, d2, d3] => { results := [.lit (.bool true)], args := [d1, d2, d3] }
  | _ => none }
def zoneCoveredRow : OpenClaim := { program := "ytplebibabcdipaa", sum := "63b9109cd47e0cd65291736b32cffd2967747f54a73d675f2b13e1edf88a4ed1", func := "gridhall/gridhallkeep2.ZoneCovered", spec := "zoneCovered", unfollowed := true, recurses := true, apart := false }
def ZoneCoveredSaid : Prop := zoneCoveredRow.holds Try.pinned (OpenSpec.ofChange zoneCoveredSpec)

/-- ITS FALSE NEIGHBOUR: 'it returns false'. Refute it at one input. -/
def zoneCoveredWrong : ChangeSpec := { name := "zoneCovered", fn := fun _ => fun
  | [d1, d2, d3] => { results := [.lit (.bool false)], args := [d1, d2, d3] }
  | _ => none }
def ZoneCoveredWrongFalsely : Prop := zoneCoveredRow.holds Try.pinned (OpenSpec.ofChange zoneCoveredWrong)

/-- 'gridhallkeep2.SettingsDials': WHATEVER THE INPUT: true; the input reads as it did. -/
def settingsDialsSpec : ChangeSpec := { name := "settingsDials", fn := fun _ => fun
  | [d1, d2, d3, d4, d5] => { results := [.lit (.bool true)], args := [d1, d2, d3, d4, d5] }
  | _ => none }
def settingsDialsRow : OpenClaim := { program := "ytplebibabcdipaa", sum := "63b9109cd47e0cd65291736b32cffd2967747f54a73d675f2b13e1edf88a4ed1", func := "gridhall/gridhallkeep2.SettingsDials", spec := "settingsDials", unfollowed := true, recurses := true, apart := false }
def SettingsDialsSaid : Prop := settingsDialsRow.holds Try.pinned (OpenSpec.ofChange settingsDialsSpec)

/-- ITS FALSE NEIGHBOUR: 'it returns false'. Refute it at one input. -/
def settingsDialsWrong : ChangeSpec := { name := "settingsDials", fn := fun _ => fun
  | [d1, d2, d3, d4, d5] => { results := [.lit (.bool false)], args := [d1, d2, d3, d4, d5] }
  | _ => none }
def SettingsDialsWrongFalsely : Prop := settingsDialsRow.holds Try.pinned (OpenSpec.ofChange settingsDialsWrong)

/-- 'gridhallkeep2.SettingsCoordinates': WHATEVER THE INPUT: true; the input reads as it did. -/
def settingsCoordinatesSpec : ChangeSpec := { name := "settingsCoordinates", fn := fun _ => fun
  | [d1, d2, d3, d4, d5] => { results := [.lit (.bool true)], args := [d1, d2, d3, d4, d5] }
  | _ => none }
def settingsCoordinatesRow : OpenClaim := { program := "ytplebibabcdipaa", sum := "63b9109cd47e0cd65291736b32cffd2967747f54a73d675f2b13e1edf88a4ed1", func := "gridhall/gridhallkeep2.SettingsCoordinates", spec := "settingsCoordinates", unfollowed := true, recurses := true, apart := false }
def SettingsCoordinatesSaid : Prop := settingsCoordinatesRow.holds Try.pinned (OpenSpec.ofChange settingsCoordinatesSpec)

/-- ITS FALSE NEIGHBOUR: 'it returns false'. Refute it at one input. -/
def settingsCoordinatesWrong : ChangeSpec := { name := "settingsCoordinates", fn := fun _ => fun
  | [d1, d2, d3, d4, d5] => { results := [.lit (.bool false)], args := [d1, d2, d3, d4, d5] }
  | _ => none }
def SettingsCoordinatesWrongFalsely : Prop := settingsCoordinatesRow.holds Try.pinned (OpenSpec.ofChange settingsCoordinatesWrong)

/-- 'gridhallkeep2.SettingsPairs': WHATEVER THE INPUT: true; the input reads as it did. -/
def settingsPairsSpec : ChangeSpec := { name := "settingsPairs", fn := fun _ => fun
  | [d1, d2] => { results := [.lit (.bool true)], args := [d1, d2] }
  | _ => none }
def settingsPairsRow : OpenClaim := { program := "ytplebibabcdipaa", sum := "63b9109cd47e0cd65291736b32cffd2967747f54a73d675f2b13e1edf88a4ed1", func := "gridhall/gridhallkeep2.SettingsPairs", spec := "settingsPairs", unfollowed := true, recurses := true, apart := false }
def SettingsPairsSaid : Prop := settingsPairsRow.holds Try.pinned (OpenSpec.ofChange settingsPairsSpec)

/-- ITS FALSE NEIGHBOUR: 'it returns false'. Refute it at one input. -/
def settingsPairsWrong : ChangeSpec := { name := "settingsPairs", fn := fun _ => fun
  | [d1, d2] => { results := [.lit (.bool false)], args := [d1, d2] }
  | _ => none }
def SettingsPairsWrongFalsely : Prop := settingsPairsRow.holds Try.pinned (OpenSpec.ofChange settingsPairsWrong)

/-- 'gridhallkeep2.ChooseProves': WHATEVER THE INPUT: true; the input reads as it did. -/
def chooseProvesSpec : ChangeSpec := { name := "chooseProves", fn := fun _ => fun
  | [d1, d2] => { results := [.lit (.bool true)], args := [d1, d2] }
  | _ => none }
def chooseProvesRow : OpenClaim := { program := "ytplebibabcdipaa", sum := "63b9109cd47e0cd65291736b32cffd2967747f54a73d675f2b13e1edf88a4ed1", func := "gridhall/gridhallkeep2.ChooseProves", spec := "chooseProves", inPlace := ["slices.overlaps[string]"], unfollowed := true, recurses := true, apart := false }
def ChooseProvesSaid : Prop := chooseProvesRow.holds Try.pinned (OpenSpec.ofChange chooseProvesSpec)

/-- ITS FALSE NEIGHBOUR: 'it returns false'. Refute it at one input. -/
def chooseProvesWrong : ChangeSpec := { name := "chooseProves", fn := fun _ => fun
  | [d1, d2] => { results := [.lit (.bool false)], args := [d1, d2] }
  | _ => none }
def ChooseProvesWrongFalsely : Prop := chooseProvesRow.holds Try.pinned (OpenSpec.ofChange chooseProvesWrong)

/-- 'gridhallkeep2.ChooseSmallest': WHATEVER THE INPUT: true; the input reads as it did. -/
def chooseSmallestSpec : ChangeSpec := { name := "chooseSmallest", fn := fun _ => fun
  | [d1, d2, d3] => { results := [.lit (.bool true)], args := [d1, d2, d3] }
  | _ => none }
def chooseSmallestRow : OpenClaim := { program := "ytplebibabcdipaa", sum := "63b9109cd47e0cd65291736b32cffd2967747f54a73d675f2b13e1edf88a4ed1", func := "gridhall/gridhallkeep2.ChooseSmallest", spec := "chooseSmallest", inPlace := ["slices.overlaps[string]"], unfollowed := true, recurses := true, apart := false }
def ChooseSmallestSaid : Prop := chooseSmallestRow.holds Try.pinned (OpenSpec.ofChange chooseSmallestSpec)

/-- ITS FALSE NEIGHBOUR: 'it returns false'. Refute it at one input. -/
def chooseSmallestWrong : ChangeSpec := { name := "chooseSmallest", fn := fun _ => fun
  | [d1, d2, d3] => { results := [.lit (.bool false)], args := [d1, d2, d3] }
  | _ => none }
def ChooseSmallestWrongFalsely : Prop := chooseSmallestRow.holds Try.pinned (OpenSpec.ofChange chooseSmallestWrong)

/-- 'gridhallkeep2.ChooseMore': WHATEVER THE INPUT: true; the input reads as it did. -/
def chooseMoreSpec : ChangeSpec := { name := "chooseMore", fn := fun _ => fun
  | [d1, d2, d3, d4] => { results := [.lit (.bool true)], args := [d1, d2, d3, d4] }
  | _ => none }
def chooseMoreRow : OpenClaim := { program := "ytplebibabcdipaa", sum := "63b9109cd47e0cd65291736b32cffd2967747f54a73d675f2b13e1edf88a4ed1", func := "gridhall/gridhallkeep2.ChooseMore", spec := "chooseMore", inPlace := ["slices.overlaps[string]"], unfollowed := true, recurses := true, apart := false }
def ChooseMoreSaid : Prop := chooseMoreRow.holds Try.pinned (OpenSpec.ofChange chooseMoreSpec)

/-- ITS FALSE NEIGHBOUR: 'it returns false'. Refute it at one input. -/
def chooseMoreWrong : ChangeSpec := { name := "chooseMore", fn := fun _ => fun
  | [d1, d2, d3, d4] => { results := [.lit (.bool false)], args := [d1, d2, d3, d4] }
  | _ => none }
def ChooseMoreWrongFalsely : Prop := chooseMoreRow.holds Try.pinned (OpenSpec.ofChange chooseMoreWrong)

/- THE SECOND FORM. 'bulk': how many values and letters a reading holds, each counted each time it is reached (what is shared counts as often as it is met; a slice's spare places count too). A statement '..UptoSaid' is the law's where the arguments, and the package variables that the reading takes, are together of bulk at most 1048576: NARROWER than '..Said'. Prove '..Said' where nothing that the law and all that it calls make is longer than what came in: it says more and counts as full. Else prove '..UptoSaid'. A law counts once. -/
mutual
def uptoBulk {H : Type} : DataW H → Nat
  | .lit (.string bytes) => bytes.length + 1
  | .lit _ => 1
  | .nil => 1
  | .ptr d => uptoBulk d + 1
  | .slice elems spare => uptoBulkAll elems + uptoBulkAll spare + 1
  | .agg parts => uptoBulkAll parts + 1
  | .iface _ d => uptoBulk d + 1
  | .map entries => uptoBulkEntries entries + 1
  | .held _ => 1
def uptoBulkAll {H : Type} : List (DataW H) → Nat
  | [] => 0
  | d :: r => uptoBulk d + uptoBulkAll r
def uptoBulkEntries {H : Type} : List (Lit × DataW H) → Nat
  | [] => 0
  | x :: r => uptoBulkEntry x + uptoBulkEntries r
def uptoBulkEntry {H : Type} : Lit × DataW H → Nat
  | (.string bytes, d) => bytes.length + uptoBulk d + 1
  | (_, d) => uptoBulk d + 1
 end
def uptoSmall : (H : Type) → List (DataW H) → Bool := fun _ ds => decide (uptoBulkAll ds ≤ 1048576)
def OpenSpec.upto (s : _root_.Go.ChangeSpec) : _root_.Go.OpenSpec := { _root_.Go.OpenSpec.ofChange s with cond := some uptoSmall }

/-- 'gridhallkeep2.ZoneAlong', WHERE WHAT IT READS IS OF BULK AT MOST 1048576: true; the input reads as it did. -/
def zoneAlongUptoRow : OpenClaim := { program := "ytplebibabcdipaa", sum := "63b9109cd47e0cd65291736b32cffd2967747f54a73d675f2b13e1edf88a4ed1", func := "gridhall/gridhallkeep2.ZoneAlong", spec := "zoneAlong", unfollowed := true, recurses := true, apart := false, narrowed := true }
def ZoneAlongUptoSaid : Prop := zoneAlongUptoRow.holds Try.pinned (OpenSpec.upto zoneAlongSpec)

/-- 'gridhallkeep2.ZoneReaches', WHERE WHAT IT READS IS OF BULK AT MOST 1048576: true; the input reads as it did. -/
def zoneReachesUptoRow : OpenClaim := { program := "ytplebibabcdipaa", sum := "63b9109cd47e0cd65291736b32cffd2967747f54a73d675f2b13e1edf88a4ed1", func := "gridhall/gridhallkeep2.ZoneReaches", spec := "zoneReaches", unfollowed := true, recurses := true, apart := false, narrowed := true }
def ZoneReachesUptoSaid : Prop := zoneReachesUptoRow.holds Try.pinned (OpenSpec.upto zoneReachesSpec)

/-- 'gridhallkeep2.ZoneFinds', WHERE WHAT IT READS IS OF BULK AT MOST 1048576: true; the input reads as it did. -/
def zoneFindsUptoRow : OpenClaim := { program := "ytplebibabcdipaa", sum := "63b9109cd47e0cd65291736b32cffd2967747f54a73d675f2b13e1edf88a4ed1", func := "gridhall/gridhallkeep2.ZoneFinds", spec := "zoneFinds", unfollowed := true, recurses := true, apart := false, narrowed := true }
def ZoneFindsUptoSaid : Prop := zoneFindsUptoRow.holds Try.pinned (OpenSpec.upto zoneFindsSpec)

/-- 'gridhallkeep2.ZoneCovered', WHERE WHAT IT READS IS OF BULK AT MOST 1048576: true; the input reads as it did. -/
def zoneCoveredUptoRow : OpenClaim := { program := "ytplebibabcdipaa", sum := "63b9109cd47e0cd65291736b32cffd2967747f54a73d675f2b13e1edf88a4ed1", func := "gridhall/gridhallkeep2.ZoneCovered", spec := "zoneCovered", unfollowed := true, recurses := true, apart := false, narrowed := true }
def ZoneCoveredUptoSaid : Prop := zoneCoveredUptoRow.holds Try.pinned (OpenSpec.upto zoneCoveredSpec)

/-- 'gridhallkeep2.SettingsDials', WHERE WHAT IT READS IS OF BULK AT MOST 1048576: true; the input reads as it did. -/
def settingsDialsUptoRow : OpenClaim := { program := "ytplebibabcdipaa", sum := "63b9109cd47e0cd65291736b32cffd2967747f54a73d675f2b13e1edf88a4ed1", func := "gridhall/gridhallkeep2.SettingsDials", spec := "settingsDials", unfollowed := true, recurses := true, apart := false, narrowed := true }
def SettingsDialsUptoSaid : Prop := settingsDialsUptoRow.holds Try.pinned (OpenSpec.upto settingsDialsSpec)

/-- 'gridhallkeep2.SettingsCoordinates', WHERE WHAT IT READS IS OF BULK AT MOST 1048576: true; the input reads as it did. -/
def settingsCoordinatesUptoRow : OpenClaim := { program := "ytplebibabcdipaa", sum := "63b9109cd47e0cd65291736b32cffd2967747f54a73d675f2b13e1edf88a4ed1", func := "gridhall/gridhallkeep2.SettingsCoordinates", spec := "settingsCoordinates", unfollowed := true, recurses := true, apart := false, narrowed := true }
def SettingsCoordinatesUptoSaid : Prop := settingsCoordinatesUptoRow.holds Try.pinned (OpenSpec.upto settingsCoordinatesSpec)

/-- 'gridhallkeep2.SettingsPairs', WHERE WHAT IT READS IS OF BULK AT MOST 1048576: true; the input reads as it did. -/
def settingsPairsUptoRow : OpenClaim := { program := "ytplebibabcdipaa", sum := "63b9109cd47e0cd65291736b32cffd2967747f54a73d675f2b13e1edf88a4ed1", func := "gridhall/gridhallkeep2.SettingsPairs", spec := "settingsPairs", unfollowed := true, recurses := true, apart := false, narrowed := true }
def SettingsPairsUptoSaid : Prop := settingsPairsUptoRow.holds Try.pinned (OpenSpec.upto settingsPairsSpec)

/-- 'gridhallkeep2.ChooseProves', WHERE WHAT IT READS IS OF BULK AT MOST 1048576: true; the input reads as it did. -/
def chooseProvesUptoRow : OpenClaim := { program := "ytplebibabcdipaa", sum := "63b9109cd47e0cd65291736b32cffd2967747f54a73d675f2b13e1edf88a4ed1", func := "gridhall/gridhallkeep2.ChooseProves", spec := "chooseProves", inPlace := ["slices.overlaps[string]"], unfollowed := true, recurses := true, apart := false, narrowed := true }
def ChooseProvesUptoSaid : Prop := chooseProvesUptoRow.holds Try.pinned (OpenSpec.upto chooseProvesSpec)

/-- 'gridhallkeep2.ChooseSmallest', WHERE WHAT IT READS IS OF BULK AT MOST 1048576: true; the input reads as it did. -/
def chooseSmallestUptoRow : OpenClaim := { program := "ytplebibabcdipaa", sum := "63b9109cd47e0cd65291736b32cffd2967747f54a73d675f2b13e1edf88a4ed1", func := "gridhall/gridhallkeep2.ChooseSmallest", spec := "chooseSmallest", inPlace := ["slices.overlaps[string]"], unfollowed := true, recurses := true, apart := false, narrowed := true }
def ChooseSmallestUptoSaid : Prop := chooseSmallestUptoRow.holds Try.pinned (OpenSpec.upto chooseSmallestSpec)

/-- 'gridhallkeep2.ChooseMore', WHERE WHAT IT READS IS OF BULK AT MOST 1048576: true; the input reads as it did. -/
def chooseMoreUptoRow : OpenClaim := { program := "ytplebibabcdipaa", sum := "63b9109cd47e0cd65291736b32cffd2967747f54a73d675f2b13e1edf88a4ed1", func := "gridhall/gridhallkeep2.ChooseMore", spec := "chooseMore", inPlace := ["slices.overlaps[string]"], unfollowed := true, recurses := true, apart := false, narrowed := true }
def ChooseMoreUptoSaid : Prop := chooseMoreUptoRow.holds Try.pinned (OpenSpec.upto chooseMoreSpec)

end Rows
end Go.Proofs.Ytplebibabcdipaa
