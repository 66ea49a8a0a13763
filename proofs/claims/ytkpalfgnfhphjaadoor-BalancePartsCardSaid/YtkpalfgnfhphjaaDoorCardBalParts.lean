/- The tied card of BalanceParts. -/
import Derived.Test.YtkpalfgnfhphjaaDoorRowBalParts
import Derived.Test.YtkpalfgnfhphjaaDoorTie
import Derived.Test.YtkpalfgnfhphjaaDoorCards
import Derived.SevenTiedAt
namespace Go.Proofs.YtkpalfgnfhphjaaDoor
open Go
/-- THE STATEMENT: the tied card. -/
theorem balanceParts_card_holds : Rows.BalancePartsCardSaid :=
  Claim7.holds_tied_plain_at .later [] [.data, .pinned] true (true, "741a9d5483246653dec455eb261f4acf9dcf7794c265416a47d3f618277080bb") false
    balanceParts_row_holds (fun _ h => by cases h) (by kernel_rfl) (fun _ h => by cases h) balanceParts_row_tie rfl ⟨rfl, rfl⟩ (by kernel_rfl) rfl
    (fun f fn hf hfn => by
      obtain rfl : f = 4 := Option.some.inj ((show Tryd.prog.funcNamed "gridhall/gridhallkeep2.BalanceParts" = some 4 by kernel_rfl).symm.trans hf) |>.symm
      obtain rfl : fn = Tryd.f4 := (Option.some.inj (Tryd.func4.symm.trans hfn)).symm
      exact ⟨by kernel_rfl, fun j t ht => by
        rw [Tryd.params4] at ht
        have h3 : t = 33 ∨ t = 26 ∨ t = 23 := by
          rcases j with _ | _ | _ | j
          · exact Or.inl (by simpa using ht.symm)
          · exact Or.inr (Or.inl (by simpa using ht.symm))
          · exact Or.inr (Or.inr (by simpa using ht.symm))
          · simp at ht
        rcases h3 with rfl | rfl | rfl
        · exact (show Tryd.prog.wantsStandIn 33 = false by kernel_rfl)
        · exact (show Tryd.prog.wantsStandIn 26 = false by kernel_rfl)
        · exact (show Tryd.prog.wantsStandIn 23 = false by kernel_rfl)⟩)
    (by kernel_rfl)
#print axioms balanceParts_card_holds
end Go.Proofs.YtkpalfgnfhphjaaDoor
