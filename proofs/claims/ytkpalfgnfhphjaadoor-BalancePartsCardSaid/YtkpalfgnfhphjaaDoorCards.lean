/-
  DERIVED. GIVEN WITH THE SEED: THE CARDS: each row of YtkpalfgnfhphjaaDoorRows.lean that lists a variable, with what it lists TIED to the program's text (the seventh form; the later family's looks); each row that meets fmt, with fmt's text TOLD by the authors' own Lean function (tested against real Go, not proved from fmt's source: count such statements apart). THE CARD IS WHAT COUNTS. Prove the row's statement (the work); the ties are given (YtkpalfgnfhphjaaDoorTie.lean); close each card by the builder's one call (the guide's Derived/Test/ToyasCard.lean, 'card_holds'). Laid BY PROGRAM, IN A SANDBOX (cutbox-door.mjs). By AI agents, Wed Nov 11 2026. No macro, syntax, notation, axiom, sorry.
-/
import Derived.Test.YtkpalfgnfhphjaaDoorRows
import GoSem.ClaimSeven
namespace Go.Proofs.YtkpalfgnfhphjaaDoor
namespace Rows

/-- THE TIED CARD OF 'gridhallkeep2.BalanceOperates'. -/
def balanceOperatesCard : Claim7 := { stood := { row := balanceOperatesRow, standIns := [], harness := (true, "741a9d5483246653dec455eb261f4acf9dcf7794c265416a47d3f618277080bb"), looks := false }, kinds := [], alts := [], laidByText := true, laidKinds := [.data, .pinned], laidTests := true, laidLooks := .later }
def BalanceOperatesCardSaid : Prop := Claim7.holds Tryd.pinned (.plain (OpenSpec.ofChange balanceOperatesSpec)) balanceOperatesCard

/-- THE TIED CARD OF 'gridhallkeep2.BalanceParts'. -/
def balancePartsCard : Claim7 := { stood := { row := balancePartsRow, standIns := [], harness := (true, "741a9d5483246653dec455eb261f4acf9dcf7794c265416a47d3f618277080bb"), looks := false }, kinds := [], alts := [], laidByText := true, laidKinds := [.data, .pinned], laidTests := true, laidLooks := .later }
def BalancePartsCardSaid : Prop := Claim7.holds Tryd.pinned (.plain (OpenSpec.ofChange balancePartsSpec)) balancePartsCard

/-- THE TIED CARD OF 'gridhallkeep2.BalanceSums'. -/
def balanceSumsCard : Claim7 := { stood := { row := balanceSumsRow, standIns := [], harness := (true, "741a9d5483246653dec455eb261f4acf9dcf7794c265416a47d3f618277080bb"), looks := false }, kinds := [], alts := [], laidByText := true, laidKinds := [.data, .pinned], laidTests := true, laidLooks := .later }
def BalanceSumsCardSaid : Prop := Claim7.holds Tryd.pinned (.plain (OpenSpec.ofChange balanceSumsSpec)) balanceSumsCard

/-- THE SECOND FORM's CARD OF 'gridhallkeep2.BalanceOperates'. -/
def balanceOperatesUptoCard : Claim7 := { stood := { row := balanceOperatesUptoRow, standIns := [], harness := (true, "741a9d5483246653dec455eb261f4acf9dcf7794c265416a47d3f618277080bb"), looks := false }, kinds := [], alts := [], laidByText := true, laidKinds := [.data, .pinned], laidTests := true, laidLooks := .later }
def BalanceOperatesUptoCardSaid : Prop := Claim7.holds Tryd.pinned (.plain (OpenSpec.upto balanceOperatesSpec)) balanceOperatesUptoCard

/-- THE SECOND FORM's CARD OF 'gridhallkeep2.BalanceParts'. -/
def balancePartsUptoCard : Claim7 := { stood := { row := balancePartsUptoRow, standIns := [], harness := (true, "741a9d5483246653dec455eb261f4acf9dcf7794c265416a47d3f618277080bb"), looks := false }, kinds := [], alts := [], laidByText := true, laidKinds := [.data, .pinned], laidTests := true, laidLooks := .later }
def BalancePartsUptoCardSaid : Prop := Claim7.holds Tryd.pinned (.plain (OpenSpec.upto balancePartsSpec)) balancePartsUptoCard

/-- THE SECOND FORM's CARD OF 'gridhallkeep2.BalanceSums'. -/
def balanceSumsUptoCard : Claim7 := { stood := { row := balanceSumsUptoRow, standIns := [], harness := (true, "741a9d5483246653dec455eb261f4acf9dcf7794c265416a47d3f618277080bb"), looks := false }, kinds := [], alts := [], laidByText := true, laidKinds := [.data, .pinned], laidTests := true, laidLooks := .later }
def BalanceSumsUptoCardSaid : Prop := Claim7.holds Tryd.pinned (.plain (OpenSpec.upto balanceSumsSpec)) balanceSumsUptoCard
end Rows
end Go.Proofs.YtkpalfgnfhphjaaDoor
