/- zoneWorks. -/
import Derived.Test.YtplebibabcdipaaFdr
namespace Go.Proofs.Ytplebibabcdipaa
open Go.RowKit

theorem feed_place : placeE feedN ⟨sM, 600⟩ = 0 := by decide +kernel
theorem feed_relay : relayE feedN feedZ = 0 := by decide +kernel
theorem feed_cov (za : Option Addr) (zc : Nat) : covE feedN [⟨sB, sL, za, zc, [⟨800, 0⟩, ⟨1500, 400⟩]⟩] ⟨sM, 600⟩ = 0 := by
  have h : relayE feedN (ZRA.rel ⟨sB, sL, za, zc, [⟨800, 0⟩, ⟨1500, 400⟩]⟩) = 0 := feed_relay
  unfold covE relsE
  rw [feed_place, h]
  simp [relsE]
set_option maxHeartbeats 8000000 in
set_option maxRecDepth 100000 in
theorem zoneWorks_c (w : World) : Calls Try.prog 13 #[] w fun e w' => e = .returned (.bool true) ∧ Below w.heap.size w w' := by
  have KZ : Hid (Blk ((w.alloc (.cells #[.int .i64 800, .int .i64 0, .int .i64 1500, .int .i64 400] 39)).alloc (.cells #[.string sB, .string sL, .slice (some ⟨w.heap.size, 0, none⟩) 2 2] 44)) w.heap.size #[.int .i64 800, .int .i64 0, .int .i64 1500, .int .i64 400] 39) := (Blk.new _ _ _).alloc _
  have KR : Hid (Blk ((w.alloc (.cells #[.int .i64 800, .int .i64 0, .int .i64 1500, .int .i64 400] 39)).alloc (.cells #[.string sB, .string sL, .slice (some ⟨w.heap.size, 0, none⟩) 2 2] 44)) (w.heap.size + 1) #[.string sB, .string sL, .slice (some ⟨w.heap.size, 0, none⟩) 2 2] 44) := Blk.new2 _ _ _ _
  have B2 : Hid (Below w.heap.size w ((w.alloc (.cells #[.int .i64 800, .int .i64 0, .int .i64 1500, .int .i64 400] 39)).alloc (.cells #[.string sB, .string sL, .slice (some ⟨w.heap.size, 0, none⟩) 2 2] 44))) := belowA (belowA (Below.refl _ _) _) _
  go_enter Try.func13, Try.ntmps13
  go_upto_region 2 with fail
  change Code.wp _ _ _ _ ((w.alloc (.cells #[.int .i64 800, .int .i64 0, .int .i64 1500, .int .i64 400] 39)).alloc (.cells #[.string sB, .string sL, .slice (some ⟨w.heap.size, 0, none⟩) 2 2] 44))
  generalize (w.alloc (.cells #[.int .i64 800, .int .i64 0, .int .i64 1500, .int .i64 400] 39)).alloc (.cells #[.string sB, .string sL, .slice (some ⟨w.heap.size, 0, none⟩) 2 2] 44) = W2 at *
  have HSB : Hid (∀ W, Below W2.heap.size W2 W → (W.cell? ⟨w.heap.size + 1, 0, none⟩ = some (.string sB) ∧ W.cell? ⟨w.heap.size + 1, 1, none⟩ = some (.string sL) ∧ W.cell? ⟨w.heap.size + 1, 2, none⟩ = some (.slice (some ⟨w.heap.size, 0, none⟩) 2 2))) := fun W hW => by
    have k := below_blk hW KR.out KR.out.lt
    exact ⟨k.cell 0 rfl, k.cell 1 rfl, k.cell 2 rfl⟩
  have HZS : Hid (∀ W, Below W2.heap.size W2 W → Reads W (.slice (some ⟨w.heap.size, 0, none⟩) 2 2) 2 (flat ZSt.cells [⟨800, 0⟩, ⟨1500, 400⟩])) := fun W hW => reads_blk (t := 39) (below_blk hW KZ.out KZ.out.lt) (by decide)
  have HDistance : Hid (∀ x0 W, Below W2.heap.size W2 W → NetR W x0 feedN → Calls Try.prog 16 #[x0.val feedN, .agg #[.string sB, .string sL, .slice (some ⟨w.heap.size, 0, none⟩) 2 2], .agg #[.string sM, .int .i64 250]] W fun e w' => e = .returned (.tuple #[.int .i64 1250000, .int .i64 0]) ∧ Below W.heap.size W w') := fun x0 W hW hr => by
    have := dist_c x0 feedN sB sL sM (some ⟨w.heap.size, 0, none⟩) 2 [⟨800, 0⟩, ⟨1500, 400⟩] 250 W hr feedN_wf (HZS.out W hW)
    rw [show distE feedN ⟨sB, sL, [⟨800, 0⟩, ⟨1500, 400⟩]⟩ ⟨sM, 250⟩ = (1250000, 0) from feed_dist] at this
    exact this
  have HFind : Hid (∀ x0 W, Below W2.heap.size W2 W → NetR W x0 feedN → Calls Try.prog 17 #[x0.val feedN, .agg #[.string sB, .string sL, .slice (some ⟨w.heap.size, 0, none⟩) 2 2], .agg #[.string sL, .int .i64 900]] W fun e w' => e = .returned (.tuple #[.int .i64 1, .int .i64 0]) ∧ Below W.heap.size W w') := fun x0 W hW hr => by
    have := find_c x0 feedN sB sL sL (some ⟨w.heap.size, 0, none⟩) 2 [⟨800, 0⟩, ⟨1500, 400⟩] 900 W hr feedN_wf (HZS.out W hW)
    rw [show findE feedN ⟨sB, sL, [⟨800, 0⟩, ⟨1500, 400⟩]⟩ ⟨sL, 900⟩ = (1, 0) from feed_find] at this
    exact this
  have HTime : Hid (∀ x0 W, Below W2.heap.size W2 W → NetR W x0 feedN → Calls Try.prog 18 #[x0.val feedN, .agg #[.string sB, .string sL, .slice (some ⟨w.heap.size, 0, none⟩) 2 2], .agg #[.string sL, .int .i64 900]] W fun e w' => e = .returned (.tuple #[.int .i64 400, .int .i64 0]) ∧ Below W.heap.size W w') := fun x0 W hW hr => by
    have := time_c x0 feedN sB sL sL (some ⟨w.heap.size, 0, none⟩) 2 [⟨800, 0⟩, ⟨1500, 400⟩] 900 W hr feedN_wf (HZS.out W hW)
    rw [show timeE feedN ⟨sB, sL, [⟨800, 0⟩, ⟨1500, 400⟩]⟩ ⟨sL, 900⟩ = (400, 0) from feed_time] at this
    exact this
  go_upto_region 2 with fail
  go_cut [2, 3] from 14 to 20 (fun s1 s2 wx => s1 = .int .i64 1250000 ∧ s2 = .int .i64 0 ∧ Hid (Below W2.heap.size W2 wx))
  case first =>
    have D0 : Hid (Below W2.heap.size W2 W2.drew) := ⟨(Below.refl W2.heap.size W2).os, (Below.refl W2.heap.size W2).tape, (Below.refl W2.heap.size W2).output, (Below.refl W2.heap.size W2).size, (Below.refl W2.heap.size W2).block⟩
    go_region_held3 (fun W => (W.cell? ⟨w.heap.size + 1, 0, none⟩ = some (.string sB) ∧ W.cell? ⟨w.heap.size + 1, 1, none⟩ = some (.string sL) ∧ W.cell? ⟨w.heap.size + 1, 2, none⟩ = some (.slice (some ⟨w.heap.size, 0, none⟩) 2 2)))
      (first
        | exact HSB.out _ D0.out
        | exact HSB.out _ D1.out
        | exact HSB.out _ D2.out)
      (first
        | (go_at_call 34; refine (feeder_c W2.drew).mono ?_; rintro e w1 ⟨x0, rfl, hnr, hb1⟩; have HNR := Lib.hid hnr; have D1 := Lib.hid (belowT D0.out hb1); clear hb1 hnr)
        | (go_at_call 16; refine (HDistance.out x0 w1 D1.out HNR.out).mono ?_; rintro e w2 ⟨rfl, hb2⟩; have D2 := Lib.hid (belowT D1.out hb2); clear hb2))
    all_goals
      go_simp
      go_wp2_with fail
      go_meet
      exact ⟨rfl, rfl, D2⟩
  case rest =>
    obtain ⟨rfl, rfl, hc1⟩ := hcut
    go_upto_region 3 with fail
    go_cut [4, 5] from 21 to 27 (fun s1 s2 wx => s1 = .int .i64 1 ∧ s2 = .int .i64 0 ∧ Hid (Below W2.heap.size W2 wx))
    case first =>
      have D0 : Hid (Below W2.heap.size W2 wc.drew) := ⟨hc1.out.os, hc1.out.tape, hc1.out.output, hc1.out.size, hc1.out.block⟩
      go_region_held3 (fun W => (W.cell? ⟨w.heap.size + 1, 0, none⟩ = some (.string sB) ∧ W.cell? ⟨w.heap.size + 1, 1, none⟩ = some (.string sL) ∧ W.cell? ⟨w.heap.size + 1, 2, none⟩ = some (.slice (some ⟨w.heap.size, 0, none⟩) 2 2)))
        (first
          | exact HSB.out _ D0.out
          | exact HSB.out _ D1.out
          | exact HSB.out _ D2.out)
        (first
          | (go_at_call 34; refine (feeder_c wc.drew).mono ?_; rintro e w1 ⟨x0, rfl, hnr, hb1⟩; have HNR := Lib.hid hnr; have D1 := Lib.hid (belowT D0.out hb1); clear hb1 hnr)
          | (go_at_call 17; refine (HFind.out x0 w1 D1.out HNR.out).mono ?_; rintro e w2 ⟨rfl, hb2⟩; have D2 := Lib.hid (belowT D1.out hb2); clear hb2))
      all_goals
        go_simp
        go_wp2_with fail
        go_meet
        exact ⟨rfl, rfl, D2⟩
    case rest =>
      obtain ⟨rfl, rfl, hc2⟩ := hcut
      go_upto_region 4 with fail
      go_cut [6, 7] from 28 to 34 (fun s1 s2 wx => s1 = .int .i64 400 ∧ s2 = .int .i64 0 ∧ Hid (Below W2.heap.size W2 wx))
      case first =>
        have D0 : Hid (Below W2.heap.size W2 wc.drew) := ⟨hc2.out.os, hc2.out.tape, hc2.out.output, hc2.out.size, hc2.out.block⟩
        go_region_held3 (fun W => (W.cell? ⟨w.heap.size + 1, 0, none⟩ = some (.string sB) ∧ W.cell? ⟨w.heap.size + 1, 1, none⟩ = some (.string sL) ∧ W.cell? ⟨w.heap.size + 1, 2, none⟩ = some (.slice (some ⟨w.heap.size, 0, none⟩) 2 2)))
          (first
            | exact HSB.out _ D0.out
            | exact HSB.out _ D1.out
            | exact HSB.out _ D2.out)
          (first
            | (go_at_call 34; refine (feeder_c wc.drew).mono ?_; rintro e w1 ⟨x0, rfl, hnr, hb1⟩; have HNR := Lib.hid hnr; have D1 := Lib.hid (belowT D0.out hb1); clear hb1 hnr)
            | (go_at_call 18; refine (HTime.out x0 w1 D1.out HNR.out).mono ?_; rintro e w2 ⟨rfl, hb2⟩; have D2 := Lib.hid (belowT D1.out hb2); clear hb2))
        all_goals
          go_simp
          go_wp2_with fail
          go_meet
          exact ⟨rfl, rfl, D2⟩
      case rest =>
        obtain ⟨rfl, rfl, hc3⟩ := hcut
        have HCV : Hid (∀ x0 W b, Below W2.heap.size W2 W → NetR W x0 feedN → Blk W b #[.string sB, .string sL, .slice (some ⟨w.heap.size, 0, none⟩) 2 2] 44 → Calls Try.prog 19 #[x0.val feedN, .slice (some ⟨b, 0, none⟩) 1 1, .agg #[.string sM, .int .i64 600]] W fun e w' => ∃ a c, e = .returned (.tuple #[.slice a 0 c, .int .i64 0]) ∧ Below W.heap.size W w') := fun x0 W b hW hr hb => by
          have hrl : RelsR W (.slice (some ⟨b, 0, none⟩) 1 1) [⟨sB, sL, some ⟨w.heap.size, 0, none⟩, 2, [⟨800, 0⟩, ⟨1500, 400⟩]⟩] := ⟨reads_blk hb (by decide), fun r hr => by
            rw [List.mem_singleton] at hr; subst hr; exact HZS.out W hW⟩
          refine (covered_c x0 feedN _ _ sM 600 W hr feedN_wf hrl (by simp)).mono ?_
          rintro e w' ⟨a, m, c, r, he, hbw, hlen, hrd, h0, h1⟩
          rw [feed_cov] at he h1
          have h2 := (h1 rfl).1
          have hm : m = 0 := by
            rw [← hlen]
            cases r with
            | nil => rfl
            | cons y ys =>
              exfalso
              obtain ⟨i, _, hi, hti⟩ := okL_mem.1 ((h2 y).1 List.mem_cons_self)
              have hi0 : i = 0 := by simp at hi; exact hi
              subst hi0
              have e0 : timeAt feedN [⟨sB, sL, some ⟨w.heap.size, 0, none⟩, 2, [⟨800, 0⟩, ⟨1500, 400⟩]⟩] ⟨sM, 600⟩ 0 = (0, 8) := feed_none
              rw [e0] at hti
              cases hti
          subst hm
          exact ⟨a, c, he, hbw⟩
        go_upto_region 5 with fail
        go_cut [8, 9] from 35 to 42 (fun s1 s2 wx => ∃ a c, s1 = .slice a 0 c ∧ s2 = .int .i64 0 ∧ Hid (Below W2.heap.size W2 wx))
        case first =>
          have D0 : Hid (Below W2.heap.size W2 wc.drew) := ⟨hc3.out.os, hc3.out.tape, hc3.out.output, hc3.out.size, hc3.out.block⟩
          have DA := Lib.hid (belowA D0.out (.cells #[.string sB, .string sL, .slice (some ⟨w.heap.size, 0, none⟩) 2 2] 44))
          have BA : Hid (Blk (wc.drew.alloc (.cells #[.string sB, .string sL, .slice (some ⟨w.heap.size, 0, none⟩) 2 2] 44)) wc.heap.size #[.string sB, .string sL, .slice (some ⟨w.heap.size, 0, none⟩) 2 2] 44) := Blk.new wc.drew _ _
          go_region_held3 (fun W => (W.cell? ⟨w.heap.size + 1, 0, none⟩ = some (.string sB) ∧ W.cell? ⟨w.heap.size + 1, 1, none⟩ = some (.string sL) ∧ W.cell? ⟨w.heap.size + 1, 2, none⟩ = some (.slice (some ⟨w.heap.size, 0, none⟩) 2 2)))
            (first
              | exact HSB.out _ D0.out
              | exact HSB.out _ DA.out
              | exact HSB.out _ D1.out
              | exact HSB.out _ (belowA D1.out _)
              | exact HSB.out _ D2.out
              | exact HSB.out _ D3.out)
            (first
              | (go_at_call 34; refine (feeder_c wc.drew).mono ?_; rintro e w1 ⟨x0, rfl, hnr, hb1⟩; have HNR := Lib.hid hnr; have D1 := Lib.hid (belowT D0.out hb1); clear hb1 hnr)
              | (go_at_call 34; refine (feeder_c (wc.drew.alloc (.cells #[.string sB, .string sL, .slice (some ⟨w.heap.size, 0, none⟩) 2 2] 44))).mono ?_; rintro e w1 ⟨x0, rfl, hnr, hb1⟩; have HNR := Lib.hid hnr; have D3 := Lib.hid (belowT DA.out hb1); have BA1 := Lib.hid (below_blk hb1 BA.out BA.out.lt); clear hb1 hnr)
              | (go_at_call 19; refine (HCV.out x0 (w1.alloc (.cells #[.string sB, .string sL, .slice (some ⟨w.heap.size, 0, none⟩) 2 2] 44)) w1.heap.size (belowA D1.out _) (HNR.out.below (belowA (Below.refl _ _) _)) (Blk.new _ _ _)).mono ?_; rintro e w2 ⟨ca, cc, rfl, hb2⟩; have D2 := Lib.hid (belowT (belowA D1.out _) hb2); clear hb2)
              | (go_at_call 19; refine (HCV.out x0 w1 wc.heap.size D3.out HNR.out BA1.out).mono ?_; rintro e w2 ⟨ca, cc, rfl, hb2⟩; have D2 := Lib.hid (belowT D3.out hb2); clear hb2))
          all_goals
            go_simp
            go_wp2_with fail
            go_meet
            exact ⟨ca, cc, rfl, rfl, D2⟩
        case rest =>
          obtain ⟨ca, cc, rfl, rfl, hc4⟩ := hcut
          go_wp2_with fail
          go_ret
          exact ⟨rfl, belowT B2.out hc4.out⟩
end Go.Proofs.Ytplebibabcdipaa
