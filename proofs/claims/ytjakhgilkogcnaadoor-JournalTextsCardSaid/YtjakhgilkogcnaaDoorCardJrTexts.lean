/- The tied card of JournalTexts. -/
import Derived.Test.YtjakhgilkogcnaaDoorRowJrTexts
import Derived.Test.YtjakhgilkogcnaaDoorTie
import Derived.Test.YtjakhgilkogcnaaDoorCards
import Derived.SevenTiedAt
namespace Go.Proofs.YtjakhgilkogcnaaDoor
open Go
/-- THE STATEMENT: the tied card. -/
theorem journalTexts_card_holds : Rows.JournalTextsCardSaid :=
  Claim7.holds_tied_plain_at .later [] [.data, .data, .data, .data, .sentinel, .sentinel, .pinned] true (true, "a62350358de9e1605f3fed424217f58babf53fe57edfd40c72ce62b378b44d76") true
    journalTexts_row_holds (fun _ h => by cases h) (by kernel_rfl) (fun _ h => by cases h) journalTexts_row_tie rfl ⟨rfl, rfl⟩ (by kernel_rfl) rfl
    (fun f fn hf hfn => by
      obtain rfl : f = 6 := Option.some.inj ((show Tryd.prog.funcNamed "gridhall/gridhallkeep2.JournalTexts" = some 6 by kernel_rfl).symm.trans hf) |>.symm
      obtain rfl : fn = Tryd.f6 := (Option.some.inj (Tryd.func6.symm.trans hfn)).symm
      exact ⟨by kernel_rfl, fun j t ht => by
        rw [Tryd.params6] at ht
        have h3 : t = 22 := by
          rcases j with _ | j
          · simpa using ht.symm
          · simp at ht
        subst h3
        exact (show Tryd.prog.wantsStandIn 22 = false by kernel_rfl)⟩)
    (by kernel_rfl)
#print axioms journalTexts_card_holds
end Go.Proofs.YtjakhgilkogcnaaDoor
