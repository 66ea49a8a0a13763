/- The tied card of BalanceSums. -/
import Derived.Test.YtkpalfgnfhphjaaDoorRowBalSums
import Derived.Test.YtkpalfgnfhphjaaDoorTie
import Derived.Test.YtkpalfgnfhphjaaDoorCards
import Derived.SevenTiedAt
namespace Go.Proofs.YtkpalfgnfhphjaaDoor
open Go
/-- THE STATEMENT: the tied card. -/
theorem balanceSums_card_holds : Rows.BalanceSumsCardSaid :=
  Claim7.holds_tied_plain_at .later [] [.data, .pinned] true (true, "741a9d5483246653dec455eb261f4acf9dcf7794c265416a47d3f618277080bb") false
    balanceSums_row_holds (fun _ h => by cases h) (by kernel_rfl) (fun _ h => by cases h) balanceSums_row_tie rfl ⟨rfl, rfl⟩ (by kernel_rfl) rfl
    (fun f fn hf hfn => by
      obtain rfl : f = 5 := Option.some.inj ((show Tryd.prog.funcNamed "gridhall/gridhallkeep2.BalanceSums" = some 5 by kernel_rfl).symm.trans hf) |>.symm
      obtain rfl : fn = Tryd.f5 := (Option.some.inj (Tryd.func5.symm.trans hfn)).symm
      exact ⟨by kernel_rfl, fun j t ht => by
        rw [Tryd.params5] at ht
        have h3 : t = 23 := by
          rcases j with _ | j
          · simpa using ht.symm
          · simp at ht
        subst h3
        exact (show Tryd.prog.wantsStandIn 23 = false by kernel_rfl)⟩)
    (by kernel_rfl)
#print axioms balanceSums_card_holds
end Go.Proofs.YtkpalfgnfhphjaaDoor
