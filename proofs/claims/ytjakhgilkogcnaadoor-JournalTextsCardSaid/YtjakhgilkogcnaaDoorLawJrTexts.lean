/- The law JournalTexts walked. -/
import Derived.Test.YtjakhgilkogcnaaDoorJr15
import Derived.Test.YtjakhgilkogcnaaDoorJr23
import Derived.Test.YtjakhgilkogcnaaDoorJr24
namespace Go.Proofs.YtjakhgilkogcnaaDoor
open Go.RowKit

set_option maxHeartbeats 4000000 in
theorem lawJrTexts_c (v : Value) (l : List Ev) (w : World) (hv : EVal w v l) (hw : Hid (∀ x ∈ l, x.Wf)) (ht : Pow w) (he : ErrV w) (hm : MaxV w) :
    Calls Tryd.prog 6 #[v] w fun e w' => e = .returned (.bool true) ∧ Below w.heap.size w w' := by
  have HW := Lib.hid (works_c w ht)
  have HP := Lib.hid (fun W (hW : Below w.heap.size w W) => print_c v l W (hv.below hW) hw (ht.below hW))
  have HC := Lib.hid (fun W (hW : Below w.heap.size w W) => check_c v l W (hv.below hW) hw)
  have HA := Lib.hid (fun (s : ByteArray) (hs : s.size ≤ 9223372036854775807) W (hW : Below w.heap.size w W) => parse_c s W (ht.below hW) (he.below hW) (hm.below hW) hs)
  have HS := Lib.hid (fun va W (hW : Below w.heap.size w W) (h : EVal W va l) => sameEv_c v va l l W (hv.below hW) h)
  by_cases hc : checkE l = 0
  · obtain ⟨hl, hall⟩ := checkE_ok hc
    have hln := textB_len hall
    have hpe : printE l = (⟨(textB l).toArray⟩, 0) := by unfold printE; rw [if_neg (fun h => h hc)]
    have hsz : (⟨(textB l).toArray⟩ : ByteArray).size ≤ 9223372036854775807 := by
      show (textB l).toArray.size ≤ _
      simp; omega
    have HA2 := Lib.hid (fun W hW => HA.out ⟨(textB l).toArray⟩ hsz W hW)
    rw [texts_law hc] at HA2
    rw [hpe] at HP
    generalize (⟨(textB l).toArray⟩ : ByteArray) = T at *
    have HS2 : Hid (∀ va W, Below w.heap.size w W → EVal W va l → Calls Tryd.prog 11 #[v, va] W fun e w' => e = .returned (.bool true) ∧ Below W.heap.size W w') := fun va W hW h => by
      have := HS.out va W hW h
      rwa [decide_eq_true rfl] at this
    have HP2 : Hid (∀ W, Below w.heap.size w W → Calls Tryd.prog 14 #[v] W fun e w' => e = .returned (.tuple #[.string T, .int .i64 0]) ∧ Below W.heap.size W w') := HP.out
    have HA3 : Hid (∀ W, Below w.heap.size w W → Calls Tryd.prog 16 #[.string T] W (ParP (l, 0, 0) W)) := HA2.out
    clear HA HA2 HS HP HC hpe hsz hln hc hall ht he hm hv
    go_enter Tryd.func6, Tryd.ntmps6
    go_wp2_with fail
    refine HW.out.mono ?_; rintro e w2 ⟨rfl, hb2⟩
    have B2 := Lib.hid hb2
    have HP3 := Lib.hid (HP2.out w2 hb2)
    clear hb2 HW HP2
    go_wp2_with fail
    refine HP3.out.mono ?_; rintro e w3 ⟨rfl, hb3⟩
    have B3 := Lib.hid (belowT B2.out hb3)
    have HA4 := Lib.hid (HA3.out w3 B3.out)
    clear hb3 B2 HP3 HA3
    go_wp2_with fail
    refine HA4.out.mono ?_; rintro e w4 ⟨a, c, rfl, hev, hb4⟩
    have B4 := Lib.hid (belowT B3.out hb4)
    have HS4 := Lib.hid (HS2.out _ w4 B4.out hev)
    clear hb4 B3 HA4 HS2 hev
    go_wp2_with fail
    refine HS4.out.mono ?_; rintro e w5 ⟨rfl, hb5⟩
    have B5 := Lib.hid (belowT B4.out hb5)
    clear hb5 HS4 B4
    go_wp2_with fail
    go_ret
    exact ⟨rfl, B5.out⟩
  · have hpe : printE l = (⟨#[]⟩, checkE l) := by unfold printE; rw [if_pos hc]
    rw [hpe] at HP
    obtain ⟨C, hC⟩ : ∃ C, checkE l = C := ⟨_, rfl⟩
    rw [hC] at HP HC hc
    have HP2 : Hid (∀ W, Below w.heap.size w W → Calls Tryd.prog 14 #[v] W fun e w' => e = .returned (.tuple #[.string ⟨#[]⟩, .int .i64 C]) ∧ Below W.heap.size W w') := HP.out
    have g1 : (C != 0) = true := by simpa using hc
    have g2 : (⟨#[]⟩ : ByteArray).toList.isEmpty = true := by decide +kernel
    clear HA HS HP hpe hc ht he hm hv hC
    go_enter Tryd.func6, Tryd.ntmps6
    go_wp2_with fail
    refine HW.out.mono ?_; rintro e w2 ⟨rfl, hb2⟩
    have B2 := Lib.hid hb2
    have HP3 := Lib.hid (HP2.out w2 hb2)
    clear hb2 HW HP2
    go_wp2_with fail
    refine HP3.out.mono ?_; rintro e w3 ⟨rfl, hb3⟩
    have B3 := Lib.hid (belowT B2.out hb3)
    have HC3 := Lib.hid (HC.out w3 B3.out)
    clear hb3 B2 HP3 HC
    go_wp2_with fail
    refine HC3.out.mono ?_; rintro e w4 ⟨rfl, hb4⟩
    have B4 := Lib.hid (belowT B3.out hb4)
    clear hb4 B3 HC3
    go_wp2_with fail
    go_ret
    exact ⟨by simp, B4.out⟩
end Go.Proofs.YtjakhgilkogcnaaDoor
