/- The tied card of JournalGroups. -/
import Derived.Test.YtjakhgilkogcnaaDoorRowJrGroups
import Derived.Test.YtjakhgilkogcnaaDoorTie
import Derived.Test.YtjakhgilkogcnaaDoorCards
import Derived.SevenTiedAt
namespace Go.Proofs.YtjakhgilkogcnaaDoor
open Go
/-- THE STATEMENT: the tied card. -/
theorem journalGroups_card_holds : Rows.JournalGroupsCardSaid :=
  Claim7.holds_tied_plain_at .later [] [.data, .data, .data] true (true, "a62350358de9e1605f3fed424217f58babf53fe57edfd40c72ce62b378b44d76") true
    journalGroups_row_holds (fun _ h => by cases h) (by kernel_rfl) (fun _ h => by cases h) journalGroups_row_tie rfl ⟨rfl, rfl⟩ (by kernel_rfl) rfl
    (fun f fn hf hfn => by
      obtain rfl : f = 3 := Option.some.inj ((show Tryd.prog.funcNamed "gridhall/gridhallkeep2.JournalGroups" = some 3 by kernel_rfl).symm.trans hf) |>.symm
      obtain rfl : fn = Tryd.f3 := (Option.some.inj (Tryd.func3.symm.trans hfn)).symm
      exact ⟨by kernel_rfl, fun j t ht => by
        rw [Tryd.params3] at ht
        have h3 : t = 22 ∨ t = 3 := by
          rcases j with _ | _ | j
          · exact Or.inl (by simpa using ht.symm)
          · exact Or.inr (by simpa using ht.symm)
          · simp at ht
        rcases h3 with rfl | rfl
        · exact (show Tryd.prog.wantsStandIn 22 = false by kernel_rfl)
        · exact (show Tryd.prog.wantsStandIn 3 = false by kernel_rfl)⟩)
    (by kernel_rfl)
#print axioms journalGroups_card_holds
end Go.Proofs.YtjakhgilkogcnaaDoor
