/- The tied card of JournalMerges. -/
import Derived.Test.YtjakhgilkogcnaaDoorRowJrMerges
import Derived.Test.YtjakhgilkogcnaaDoorTie
import Derived.Test.YtjakhgilkogcnaaDoorCards
import Derived.SevenTiedAt
namespace Go.Proofs.YtjakhgilkogcnaaDoor
open Go
/-- THE STATEMENT: the tied card. -/
theorem journalMerges_card_holds : Rows.JournalMergesCardSaid :=
  Claim7.holds_tied_plain_at .later [] [.data, .data, .data] true (true, "a62350358de9e1605f3fed424217f58babf53fe57edfd40c72ce62b378b44d76") true
    journalMerges_row_holds (fun _ h => by cases h) (by kernel_rfl) (fun _ h => by cases h) journalMerges_row_tie rfl ⟨rfl, rfl⟩ (by kernel_rfl) rfl
    (fun f fn hf hfn => by
      obtain rfl : f = 5 := Option.some.inj ((show Tryd.prog.funcNamed "gridhall/gridhallkeep2.JournalMerges" = some 5 by kernel_rfl).symm.trans hf) |>.symm
      obtain rfl : fn = Tryd.f5 := (Option.some.inj (Tryd.func5.symm.trans hfn)).symm
      exact ⟨by kernel_rfl, fun j t ht => by
        rw [Tryd.params5] at ht
        have h3 : t = 22 ∨ t = 22 := by
          rcases j with _ | _ | j
          · exact Or.inl (by simpa using ht.symm)
          · exact Or.inr (by simpa using ht.symm)
          · simp at ht
        rcases h3 with rfl | rfl
        · exact (show Tryd.prog.wantsStandIn 22 = false by kernel_rfl)
        · exact (show Tryd.prog.wantsStandIn 22 = false by kernel_rfl)⟩)
    (by kernel_rfl)
#print axioms journalMerges_card_holds
end Go.Proofs.YtjakhgilkogcnaaDoor
