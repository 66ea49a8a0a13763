/-
  No cell of these rows narrows 'for every input' (looked for: loops, veiled, ifaces, maps, wideKeys, modest, calm, conditions, laid).
  DERIVED. THE GIVEN ROWS OF THIS SEAT. 6 by the template 'for every input the law returns true; each argument reads behind the call as it read before'; 0 by the template 'total and deterministic' (their statements: YthcddboeejbncaaTotals.lean).
  GIVEN WITH THE SEED: the statements are not yours to turn. If you find one false, say at which input.
  Laid BY PROGRAM, IN A SANDBOX (cutbox-rows.mjs): the forced cells as the released guide's own fill.sh prints them over the translation eb4ad70f81e78765… (all of the seat's roots in one cut). By AI agents, Wed Nov 11 2026. No macro, syntax, notation, axiom, sorry.
-/
import Derived.Test.YthcddboeejbncaaChecked
import GoSem.Claim
import GoSem.ClaimJoined
import GoSem.ClaimMapViews
import Derived.JoinedTies
import Derived.KernelRfl
namespace Go.Proofs.Ythcddboeejbncaa
/- THE CELL 'sum', in the pinned program and in every row, IS THE sha256 OF THE DUMP (.gsa) THAT YthcddboeejbncaaProg.lean LOADS. Nothing in Lean hashes anything: it is a label: what it is worth is what the hold of that sum in a sandbox is worth. -/
noncomputable def Try.pinned : Pinned := { name := "ythcddboeejbncaa", sum := "eb4ad70f81e787654f69864e7a754db14c3c53f5a3f739f57a49ba3b203a9d70", checked := Try.checked }
namespace Rows
def none {H : Type} : Left H := { results := [], args := [] }

/-- 'gridhallkeep2.ObserveMore': WHATEVER THE INPUT: true; the input reads as it did. -/
def observeMoreSpec : ChangeSpec := { name := "observeMore", fn := fun _ => fun
  | [d1, d2, d3] => { results := [.lit (.bool true)], args := [d1, d2, d3] }
  | _ => none }
def observeMoreRow : OpenClaim := { program := "ythcddboeejbncaa", sum := "eb4ad70f81e787654f69864e7a754db14c3c53f5a3f739f57a49ba3b203a9d70", func := "gridhall/gridhallkeep2.ObserveMore", spec := "observeMore", inPlace := ["internal/bytealg.IndexByteString", "internal/bytealg.IndexString"], unfollowed := true, recurses := true, named := ["internal/bytealg.MaxLen"], apart := false }
def ObserveMoreSaid : Prop := observeMoreRow.holds Try.pinned (OpenSpec.ofChange observeMoreSpec)

/-- ITS FALSE NEIGHBOUR: 'it returns false'. Refute it at one input. -/
def observeMoreWrong : ChangeSpec := { name := "observeMore", fn := fun _ => fun
  | [d1, d2, d3] => { results := [.lit (.bool false)], args := [d1, d2, d3] }
  | _ => none }
def ObserveMoreWrongFalsely : Prop := observeMoreRow.holds Try.pinned (OpenSpec.ofChange observeMoreWrong)

/-- 'gridhallkeep2.ObserveCritical': WHATEVER THE INPUT: true; the input reads as it did. -/
def observeCriticalSpec : ChangeSpec := { name := "observeCritical", fn := fun _ => fun
  | [d1, d2, d3] => { results := [.lit (.bool true)], args := [d1, d2, d3] }
  | _ => none }
def observeCriticalRow : OpenClaim := { program := "ythcddboeejbncaa", sum := "eb4ad70f81e787654f69864e7a754db14c3c53f5a3f739f57a49ba3b203a9d70", func := "gridhall/gridhallkeep2.ObserveCritical", spec := "observeCritical", inPlace := ["internal/bytealg.IndexByteString", "internal/bytealg.IndexString"], unfollowed := true, recurses := true, named := ["internal/bytealg.MaxLen"], apart := false }
def ObserveCriticalSaid : Prop := observeCriticalRow.holds Try.pinned (OpenSpec.ofChange observeCriticalSpec)

/-- ITS FALSE NEIGHBOUR: 'it returns false'. Refute it at one input. -/
def observeCriticalWrong : ChangeSpec := { name := "observeCritical", fn := fun _ => fun
  | [d1, d2, d3] => { results := [.lit (.bool false)], args := [d1, d2, d3] }
  | _ => none }
def ObserveCriticalWrongFalsely : Prop := observeCriticalRow.holds Try.pinned (OpenSpec.ofChange observeCriticalWrong)

/-- 'gridhallkeep2.ObserveAreas': WHATEVER THE INPUT: true; the input reads as it did. -/
def observeAreasSpec : ChangeSpec := { name := "observeAreas", fn := fun _ => fun
  | [d1, d2] => { results := [.lit (.bool true)], args := [d1, d2] }
  | _ => none }
def observeAreasRow : OpenClaim := { program := "ythcddboeejbncaa", sum := "eb4ad70f81e787654f69864e7a754db14c3c53f5a3f739f57a49ba3b203a9d70", func := "gridhall/gridhallkeep2.ObserveAreas", spec := "observeAreas", inPlace := ["internal/bytealg.IndexByteString", "internal/bytealg.IndexString"], unfollowed := true, recurses := true, named := ["internal/bytealg.MaxLen"], apart := false }
def ObserveAreasSaid : Prop := observeAreasRow.holds Try.pinned (OpenSpec.ofChange observeAreasSpec)

/-- ITS FALSE NEIGHBOUR: 'it returns false'. Refute it at one input. -/
def observeAreasWrong : ChangeSpec := { name := "observeAreas", fn := fun _ => fun
  | [d1, d2] => { results := [.lit (.bool false)], args := [d1, d2] }
  | _ => none }
def ObserveAreasWrongFalsely : Prop := observeAreasRow.holds Try.pinned (OpenSpec.ofChange observeAreasWrong)

/-- 'gridhallkeep2.RestoreAdds': WHATEVER THE INPUT: true; the input reads as it did. -/
def restoreAddsSpec : ChangeSpec := { name := "restoreAdds", fn := fun _ => fun
  | [d1, d2, d3] => { results := [.lit (.bool true)], args := [d1, d2, d3] }
  | _ => none }
def restoreAddsRow : OpenClaim := { program := "ythcddboeejbncaa", sum := "eb4ad70f81e787654f69864e7a754db14c3c53f5a3f739f57a49ba3b203a9d70", func := "gridhall/gridhallkeep2.RestoreAdds", spec := "restoreAdds", inPlace := ["internal/bytealg.IndexByteString", "internal/bytealg.IndexString"], unfollowed := true, recurses := true, named := ["internal/bytealg.MaxLen"], apart := false }
def RestoreAddsSaid : Prop := restoreAddsRow.holds Try.pinned (OpenSpec.ofChange restoreAddsSpec)

/-- ITS FALSE NEIGHBOUR: 'it returns false'. Refute it at one input. -/
def restoreAddsWrong : ChangeSpec := { name := "restoreAdds", fn := fun _ => fun
  | [d1, d2, d3] => { results := [.lit (.bool false)], args := [d1, d2, d3] }
  | _ => none }
def RestoreAddsWrongFalsely : Prop := restoreAddsRow.holds Try.pinned (OpenSpec.ofChange restoreAddsWrong)

/-- 'gridhallkeep2.RestoreNone': WHATEVER THE INPUT: true; the input reads as it did. -/
def restoreNoneSpec : ChangeSpec := { name := "restoreNone", fn := fun _ => fun
  | [d1, d2, d3] => { results := [.lit (.bool true)], args := [d1, d2, d3] }
  | _ => none }
def restoreNoneRow : OpenClaim := { program := "ythcddboeejbncaa", sum := "eb4ad70f81e787654f69864e7a754db14c3c53f5a3f739f57a49ba3b203a9d70", func := "gridhall/gridhallkeep2.RestoreNone", spec := "restoreNone", inPlace := ["internal/bytealg.IndexByteString", "internal/bytealg.IndexString"], unfollowed := true, recurses := true, named := ["internal/bytealg.MaxLen"], apart := false }
def RestoreNoneSaid : Prop := restoreNoneRow.holds Try.pinned (OpenSpec.ofChange restoreNoneSpec)

/-- ITS FALSE NEIGHBOUR: 'it returns false'. Refute it at one input. -/
def restoreNoneWrong : ChangeSpec := { name := "restoreNone", fn := fun _ => fun
  | [d1, d2, d3] => { results := [.lit (.bool false)], args := [d1, d2, d3] }
  | _ => none }
def RestoreNoneWrongFalsely : Prop := restoreNoneRow.holds Try.pinned (OpenSpec.ofChange restoreNoneWrong)

/-- 'gridhallkeep2.RestoreFirst': WHATEVER THE INPUT: true; the input reads as it did. -/
def restoreFirstSpec : ChangeSpec := { name := "restoreFirst", fn := fun _ => fun
  | [d1, d2, d3] => { results := [.lit (.bool true)], args := [d1, d2, d3] }
  | _ => none }
def restoreFirstRow : OpenClaim := { program := "ythcddboeejbncaa", sum := "eb4ad70f81e787654f69864e7a754db14c3c53f5a3f739f57a49ba3b203a9d70", func := "gridhall/gridhallkeep2.RestoreFirst", spec := "restoreFirst", inPlace := ["internal/bytealg.IndexByteString", "internal/bytealg.IndexString"], unfollowed := true, recurses := true, named := ["internal/bytealg.MaxLen"], apart := false }
def RestoreFirstSaid : Prop := restoreFirstRow.holds Try.pinned (OpenSpec.ofChange restoreFirstSpec)

/-- ITS FALSE NEIGHBOUR: 'it returns false'. Refute it at one input. -/
def restoreFirstWrong : ChangeSpec := { name := "restoreFirst", fn := fun _ => fun
  | [d1, d2, d3] => { results := [.lit (.bool false)], args := [d1, d2, d3] }
  | _ => none }
def RestoreFirstWrongFalsely : Prop := restoreFirstRow.holds Try.pinned (OpenSpec.ofChange restoreFirstWrong)

/- THE SECOND FORM. 'bulk': how many values and letters a reading holds, each counted each time it is reached (what is shared counts as often as it is met; a slice's spare places count too). A statement '..UptoSaid' is the law's where the arguments, and the package variables that the reading takes, are together of bulk at most 1048576: NARROWER than '..Said'. Prove '..Said' where nothing that the law and all that it calls make is longer than what came in: it says more and counts as full. Else prove '..UptoSaid'. A law counts once. -/
mutual
def uptoBulk {H : Type} : DataW H → Nat
  | .lit (.string bytes) => bytes.length + 1
  | .lit _ => 1
  | .nil => 1
  | .ptr d => uptoBulk d + 1
  | .slice elems spare => uptoBulkAll elems + uptoBulkAll spare + 1
  | .agg parts => uptoBulkAll parts + 1
  | .iface _ d => uptoBulk d + 1
  | .map entries => uptoBulkEntries entries + 1
  | .held _ => 1
def uptoBulkAll {H : Type} : List (DataW H) → Nat
  | [] => 0
  | d :: r => uptoBulk d + uptoBulkAll r
def uptoBulkEntries {H : Type} : List (Lit × DataW H) → Nat
  | [] => 0
  | x :: r => uptoBulkEntry x + uptoBulkEntries r
def uptoBulkEntry {H : Type} : Lit × DataW H → Nat
  | (.string bytes, d) => bytes.length + uptoBulk d + 1
  | (_, d) => uptoBulk d + 1
 end
def uptoSmall : (H : Type) → List (DataW H) → Bool := fun _ ds => decide (uptoBulkAll ds ≤ 1048576)
def OpenSpec.upto (s : _root_.Go.ChangeSpec) : _root_.Go.OpenSpec := { _root_.Go.OpenSpec.ofChange s with cond := some uptoSmall }

/-- 'gridhallkeep2.ObserveMore', WHERE WHAT IT READS IS OF BULK AT MOST 1048576: true; the input reads as it did. -/
def observeMoreUptoRow : OpenClaim := { program := "ythcddboeejbncaa", sum := "eb4ad70f81e787654f69864e7a754db14c3c53f5a3f739f57a49ba3b203a9d70", func := "gridhall/gridhallkeep2.ObserveMore", spec := "observeMore", inPlace := ["internal/bytealg.IndexByteString", "internal/bytealg.IndexString"], unfollowed := true, recurses := true, named := ["internal/bytealg.MaxLen"], apart := false, narrowed := true }
def ObserveMoreUptoSaid : Prop := observeMoreUptoRow.holds Try.pinned (OpenSpec.upto observeMoreSpec)

/-- 'gridhallkeep2.ObserveCritical', WHERE WHAT IT READS IS OF BULK AT MOST 1048576: true; the input reads as it did. -/
def observeCriticalUptoRow : OpenClaim := { program := "ythcddboeejbncaa", sum := "eb4ad70f81e787654f69864e7a754db14c3c53f5a3f739f57a49ba3b203a9d70", func := "gridhall/gridhallkeep2.ObserveCritical", spec := "observeCritical", inPlace := ["internal/bytealg.IndexByteString", "internal/bytealg.IndexString"], unfollowed := true, recurses := true, named := ["internal/bytealg.MaxLen"], apart := false, narrowed := true }
def ObserveCriticalUptoSaid : Prop := observeCriticalUptoRow.holds Try.pinned (OpenSpec.upto observeCriticalSpec)

/-- 'gridhallkeep2.ObserveAreas', WHERE WHAT IT READS IS OF BULK AT MOST 1048576: true; the input reads as it did. -/
def observeAreasUptoRow : OpenClaim := { program := "ythcddboeejbncaa", sum := "eb4ad70f81e787654f69864e7a754db14c3c53f5a3f739f57a49ba3b203a9d70", func := "gridhall/gridhallkeep2.ObserveAreas", spec := "observeAreas", inPlace := ["internal/bytealg.IndexByteString", "internal/bytealg.IndexString"], unfollowed := true, recurses := true, named := ["internal/bytealg.MaxLen"], apart := false, narrowed := true }
def ObserveAreasUptoSaid : Prop := observeAreasUptoRow.holds Try.pinned (OpenSpec.upto observeAreasSpec)

/-- 'gridhallkeep2.RestoreAdds', WHERE WHAT IT READS IS OF BULK AT MOST 1048576: true; the input reads as it did. -/
def restoreAddsUptoRow : OpenClaim := { program := "ythcddboeejbncaa", sum := "eb4ad70f81e787654f69864e7a754db14c3c53f5a3f739f57a49ba3b203a9d70", func := "gridhall/gridhallkeep2.RestoreAdds", spec := "restoreAdds", inPlace := ["internal/bytealg.IndexByteString", "internal/bytealg.IndexString"], unfollowed := true, recurses := true, named := ["internal/bytealg.MaxLen"], apart := false, narrowed := true }
def RestoreAddsUptoSaid : Prop := restoreAddsUptoRow.holds Try.pinned (OpenSpec.upto restoreAddsSpec)

/-- 'gridhallkeep2.RestoreNone', WHERE WHAT IT READS IS OF BULK AT MOST 1048576: true; the input reads as it did. -/
def restoreNoneUptoRow : OpenClaim := { program := "ythcddboeejbncaa", sum := "eb4ad70f81e787654f69864e7a754db14c3c53f5a3f739f57a49ba3b203a9d70", func := "gridhall/gridhallkeep2.RestoreNone", spec := "restoreNone", inPlace := ["internal/bytealg.IndexByteString", "internal/bytealg.IndexString"], unfollowed := true, recurses := true, named := ["internal/bytealg.MaxLen"], apart := false, narrowed := true }
def RestoreNoneUptoSaid : Prop := restoreNoneUptoRow.holds Try.pinned (OpenSpec.upto restoreNoneSpec)

/-- 'gridhallkeep2.RestoreFirst', WHERE WHAT IT READS IS OF BULK AT MOST 1048576: true; the input reads as it did. -/
def restoreFirstUptoRow : OpenClaim := { program := "ythcddboeejbncaa", sum := "eb4ad70f81e787654f69864e7a754db14c3c53f5a3f739f57a49ba3b203a9d70", func := "gridhall/gridhallkeep2.RestoreFirst", spec := "restoreFirst", inPlace := ["internal/bytealg.IndexByteString", "internal/bytealg.IndexString"], unfollowed := true, recurses := true, named := ["internal/bytealg.MaxLen"], apart := false, narrowed := true }
def RestoreFirstUptoSaid : Prop := restoreFirstUptoRow.holds Try.pinned (OpenSpec.upto restoreFirstSpec)

end Rows
end Go.Proofs.Ythcddboeejbncaa
