/- relays(), settingsWorks. -/
import Derived.Test.YtplebibabcdipaaSet10
namespace Go.Proofs.Ytplebibabcdipaa
open Go.RowKit

theorem flatC_val (w : World) (t : Int) (b : Nat) (k : Blk w b #[.int .i64 100, .int .i64 t, .int .i64 200, .int .i64 t] 99) : PVal w (.slice (some ⟨b, 0, none⟩) 2 2) (flatC t) := by
  refine Or.inr ⟨b, 0, 2, rfl, Nat.le_refl _, by show 2 ≤ maxLen; decide, k.lt, fun i hi => ?_⟩
  have h : i = 0 ∨ i = 1 := by have : i < 2 := hi; omega
  rcases h with rfl | rfl
  · exact ⟨k.cell 0 rfl, k.cell 1 rfl⟩
  · exact ⟨k.cell 2 rfl, k.cell 3 rfl⟩
set_option maxHeartbeats 1000000 in
theorem relays1_c (t : Int) (w : World) : Calls Try.prog 89 #[.int .i64 t] w fun e w' => e = .returned (.slice (some ⟨w.heap.size, 0, none⟩) 2 2) ∧ w' = w.alloc (.cells #[.int .i64 100, .int .i64 t, .int .i64 200, .int .i64 t] 99) := by
  go_enter Try.func89, Try.ntmps89
  go_wp2_with fail
  go_ret
  exact ⟨rfl, rfl⟩
set_option maxHeartbeats 1000000 in
theorem relays_c (w : World) : Calls Try.prog 45 #[] w fun e w' => ∃ b c1 c2 : Nat, e = .returned (.slice (some ⟨b, 0, none⟩) 2 2) ∧ Blk w' b (flat CRA.cells (relL c1 c2)).toArray 56 ∧ CRels w' (.slice (some ⟨b, 0, none⟩) 2 2) (relL c1 c2) ∧ Below w.heap.size w w' := by
  go_enter Try.func45, Try.ntmps45
  go_wp2_with fail
  refine (relays1_c 600 w).mono ?_; rintro e w1 ⟨rfl, hw1⟩
  have K1 := Blk.new w #[.int .i64 100, .int .i64 600, .int .i64 200, .int .i64 600] 99
  have B1 := belowA (Below.refl w.heap.size w) (.cells #[.int .i64 100, .int .i64 600, .int .i64 200, .int .i64 600] 99)
  rw [← hw1] at K1 B1
  have HK1 := Lib.hid K1
  have HB1 := Lib.hid B1
  clear hw1 K1 B1
  go_wp2_with fail
  refine (relays1_c 300 w1).mono ?_; rintro e w2 ⟨rfl, hw2⟩
  have K2 := Blk.new w1 #[.int .i64 100, .int .i64 300, .int .i64 200, .int .i64 300] 99
  have J2 := HK1.out.alloc (.cells #[.int .i64 100, .int .i64 300, .int .i64 200, .int .i64 300] 99)
  have B2 := belowA HB1.out (.cells #[.int .i64 100, .int .i64 300, .int .i64 200, .int .i64 300] 99)
  rw [← hw2] at K2 J2 B2
  have HK2 := Lib.hid K2
  have HJ2 := Lib.hid J2
  have HB2 := Lib.hid B2
  clear hw2 K2 J2 B2 HK1 HB1
  have HF : Hid (∀ W, Below w2.heap.size w2 W → PVal W (.slice (some ⟨w.heap.size, 0, none⟩) 2 2) (flatC 600) ∧ PVal W (.slice (some ⟨w1.heap.size, 0, none⟩) 2 2) (flatC 300)) := fun W hW =>
    ⟨flatC_val W 600 _ (below_blk hW HJ2.out HJ2.out.lt), flatC_val W 300 _ (below_blk hW HK2.out HK2.out.lt)⟩
  go_wp2_with fail
  go_ret
  have K3 := Blk.new w2 (flat CRA.cells (relL w.heap.size w1.heap.size)).toArray 56
  have B3 := belowA (Below.refl w2.heap.size w2) (.cells (flat CRA.cells (relL w.heap.size w1.heap.size)).toArray 56)
  refine ⟨w2.heap.size, w.heap.size, w1.heap.size, rfl, K3, ⟨reads_blk K3 (by decide), fun r hr => ?_⟩, belowT HB2.out B3⟩
  unfold relL at hr
  simp only [List.mem_cons, List.not_mem_nil, or_false] at hr
  rcases hr with rfl | rfl
  · exact (HF.out _ B3).1
  · exact (HF.out _ B3).2
set_option maxHeartbeats 8000000 in
set_option maxRecDepth 100000 in
theorem settingsWorks_c (w : World) : Calls Try.prog 21 #[] w fun e w' => e = .returned (.bool true) ∧ Below w.heap.size w w' := by
  have HPR : Hid (∀ (x0 : NAddr) lv c1 c2 W, NetR W x0 feedN → CRels W lv (relL c1 c2) → Calls Try.prog 26 #[x0.val feedN, lv] W fun e w' => ∃ pa pc, e = .returned (.tuple #[.slice pa 1 pc, .int .i64 0]) ∧ Reads w' (.slice pa 1 pc) 1 [.int .i64 1, .int .i64 0] ∧ Below W.heap.size W w') := fun x0 lv c1 c2 W hr hl =>
    (pairs_c x0 feedN (relL c1 c2) lv W hr feedN_wf hl).mono fun e w' ⟨pv, h1, h2, h3⟩ => by
      rw [rel_clear] at h1
      rw [rel_pairs] at h2
      obtain ⟨pa, pc, rfl⟩ := h2.slice
      exact ⟨pa, pc, h1, h2, h3⟩
  have HW0 : Hid (∀ lv c1 c2 pv W, CRels W lv (relL c1 c2) → Reads W pv 1 [.int .i64 1, .int .i64 0] → Calls Try.prog 28 #[lv, pv, .int .i64 300, .int .i64 0, .int .i64 1000] W fun e w' => e = .returned (.tuple #[.int .i64 0, .int .i64 0, .int .i64 8]) ∧ Below W.heap.size W w') := fun lv c1 c2 pv W hl hp => by
    have := wrong_c (relL c1 c2) [(1, 0)] lv pv 300 0 1000 W hl hp
    rw [rel_wrong0] at this
    exact this
  have HW1 : Hid (∀ lv c1 c2 pv W, CRels W lv (relL c1 c2) → Reads W pv 1 [.int .i64 1, .int .i64 0] → Calls Try.prog 28 #[lv, pv, .int .i64 301, .int .i64 0, .int .i64 1000] W fun e w' => e = .returned (.tuple #[.int .i64 0, .int .i64 100, .int .i64 0]) ∧ Below W.heap.size W w') := fun lv c1 c2 pv W hl hp => by
    have := wrong_c (relL c1 c2) [(1, 0)] lv pv 301 0 1000 W hl hp
    rw [rel_wrong1] at this
    exact this
  have HDI : Hid (∀ c1 c2 d1 d2 W lv lw, CRels W lv (relL c1 c2) → CRels W lw (relL d1 d2) → Calls Try.prog 22 #[.agg #[.string sT, .string sM, .string sD, .slice (some ⟨c2, 0, none⟩) 2 2, .int .i64 100, .int .i64 50], .agg #[.string sS, .string sL, .string sB, .slice (some ⟨d1, 0, none⟩) 2 2, .int .i64 100, .int .i64 50], .int .i64 300, .int .i64 0, .int .i64 1000] W fun e w' => e = .returned (.tuple #[.int .i64 999, .int .i64 0]) ∧ Below W.heap.size W w') := fun c1 c2 d1 d2 W lv lw hl hl2 => by
    have := dial_c (relOf (relL c1 c2) 1) (relOf (relL d1 d2) 0) 300 0 1000 W (hl.2 _ (by unfold relL relOf; simp)) (hl2.2 _ (by unfold relL relOf; simp))
    rw [rel_dial] at this
    exact this
  have HCO : Hid (∀ lv c1 c2 pv W, CRels W lv (relL c1 c2) → Reads W pv 1 [.int .i64 1, .int .i64 0] → Calls Try.prog 27 #[lv, pv, .int .i64 150, .int .i64 0, .int .i64 1000] W fun e w' => ∃ da dc, e = .returned (.tuple #[.slice da 2 dc, .int .i64 0]) ∧ IVal w' (.slice da 2 dc) [749, 1000] ∧ Below W.heap.size W w') := fun lv c1 c2 pv W hl hp => by
    have := coord_c (relL c1 c2) [(1, 0)] lv pv 150 0 1000 W hl hp
    rw [rel_coord] at this
    refine this.mono fun e w' ⟨dv, h1, h2, h3⟩ => ?_
    obtain ⟨da, dc, rfl⟩ := h2.slice
    exact ⟨da, dc, h1, h2, h3⟩
  have qe : ∀ W, (binOp .eql 71 (.agg #[.int .i64 1, .int .i64 0]) (.agg #[.int .i64 1, .int .i64 0])).run Try.prog W = .ok (.bool true) W := fun _ => by kernel_rfl
  go_enter Try.func21, Try.ntmps21
  go_wp2_with fail
  refine (feeder_c w).mono ?_; rintro e w1 ⟨x0, rfl, hnr, hb1⟩
  have HNR := Lib.hid hnr
  have B1 := Lib.hid hb1
  clear hnr hb1
  go_wp2_with fail
  refine (relays_c w1).mono ?_; rintro e w2 ⟨b, c1, c2, rfl, _, hcr, hb2⟩
  have HC2 := Lib.hid hcr
  have B2 := Lib.hid (belowT B1.out hb2)
  have HNR2 := Lib.hid (HNR.out.below hb2)
  clear hcr hb2 HNR
  go_wp2_with fail
  refine (HPR.out x0 _ c1 c2 w2 HNR2.out HC2.out).mono ?_; rintro e w3 ⟨pa, pc, rfl, hpv, hb3⟩
  have HP3 := Lib.hid hpv
  have B3 := Lib.hid (belowT B2.out hb3)
  clear hpv hb3 HC2 HNR2 B1 B2
  go_wp2_with fail
  refine (relays_c w3).mono ?_; rintro e w4 ⟨b4, c3, c4, rfl, _, hcr, hb4⟩
  have HC4 := Lib.hid hcr
  have B4 := Lib.hid (belowT B3.out hb4)
  have HP4 := Lib.hid (HP3.out.below hb4)
  clear hcr hb4 HP3 B3
  go_wp2_with fail
  refine (HW0.out _ c3 c4 _ w4 HC4.out HP4.out).mono ?_; rintro e w5 ⟨rfl, hb5⟩
  have B5 := Lib.hid (belowT B4.out hb5)
  have HP5 := Lib.hid (HP4.out.below hb5)
  clear hb5 HC4 HP4 B4
  go_wp2_with fail
  refine (relays_c w5).mono ?_; rintro e w6 ⟨b6, c5, c6, rfl, _, hcr, hb6⟩
  have HC6 := Lib.hid hcr
  have B6 := Lib.hid (belowT B5.out hb6)
  have HP6 := Lib.hid (HP5.out.below hb6)
  clear hcr hb6 HP5 B5
  go_wp2_with fail
  refine (HW1.out _ c5 c6 _ w6 HC6.out HP6.out).mono ?_; rintro e w7 ⟨rfl, hb7⟩
  have B7 := Lib.hid (belowT B6.out hb7)
  have HP7 := Lib.hid (HP6.out.below hb7)
  clear hb7 HC6 HP6 B6
  go_wp2_with fail
  go_cut [9, 10] from 33 to 42 (fun s1 s2 wx => s1 = .int .i64 999 ∧ s2 = .int .i64 0 ∧ Hid (Below w7.heap.size w7 wx))
  case first =>
    have D0 : Hid (Below w7.heap.size w7 w7.drew) := ⟨rfl, rfl, rfl, Nat.le_refl _, fun _ _ => rfl⟩
    go_region_with (first
      | (go_at_call 45; refine (relays_c w7.drew).mono ?_; rintro e w8 ⟨b8, d1, d2, rfl, hk8, hcr8, hb8⟩; have D1 := Lib.hid (belowT D0.out hb8); have K8 := Lib.hid hk8; have C8 := Lib.hid hcr8; have m6 := hk8.cell 6 rfl; have m7 := hk8.cell 7 rfl; have m8 := hk8.cell 8 rfl; have m9 := hk8.cell 9 rfl; have m10 := hk8.cell 10 rfl; have m11 := hk8.cell 11 rfl; clear hb8 hk8 hcr8)
      | (go_at_call 45; refine (relays_c w8).mono ?_; rintro e w9 ⟨b9, e1, e2, rfl, hk9, hcr9, hb9⟩; have D2 := Lib.hid (belowT D1.out hb9); have C9 := Lib.hid hcr9; have C89 := Lib.hid (C8.out.below hb9); have hk8 := below_blk hb9 K8.out K8.out.lt; have n6 := hk8.cell 6 rfl; have n7 := hk8.cell 7 rfl; have n8 := hk8.cell 8 rfl; have n9 := hk8.cell 9 rfl; have n10 := hk8.cell 10 rfl; have n11 := hk8.cell 11 rfl; have o0 := hk9.cell 0 rfl; have o1 := hk9.cell 1 rfl; have o2 := hk9.cell 2 rfl; have o3 := hk9.cell 3 rfl; have o4 := hk9.cell 4 rfl; have o5 := hk9.cell 5 rfl; clear hb9 hk9 hk8 hcr9)
      | (go_at_call 22; refine (HDI.out d1 d2 e1 e2 w9 _ _ C89.out C9.out).mono ?_; rintro e w10 ⟨rfl, hb10⟩; have D3 := Lib.hid (belowT D2.out hb10); clear hb10))
    all_goals
      go_wp2_with fail
      go_meet
      exact ⟨rfl, rfl, D3⟩
  case rest =>
    obtain ⟨rfl, rfl, hbc⟩ := hcut
    have B8 := Lib.hid (belowT B7.out hbc.out)
    have HP8 := Lib.hid (HP7.out.below hbc.out)
    clear hbc HP7 B7
    go_wp2_with fail
    refine (relays_c wc).mono ?_; rintro e w9 ⟨b9, c7, c8, rfl, _, hcr, hb9⟩
    have HC9 := Lib.hid hcr
    have B9 := Lib.hid (belowT B8.out hb9)
    have HP9 := Lib.hid (HP8.out.below hb9)
    clear hcr hb9 HP8 B8
    go_wp2_with fail
    refine (HCO.out _ c7 c8 _ w9 HC9.out HP9.out).mono ?_; rintro e w10 ⟨da, dc, rfl, hdv, hb10⟩
    have B10 := Lib.hid (belowT B9.out hb10)
    have HP10 := Lib.hid (HP9.out.below hb10)
    have HD10 := Lib.hid hdv
    clear hdv hb10 HP9 B9 HC9
    obtain ⟨pg, poff, pcap, pvv, _, _, _, pcc⟩ := HP10.out.addr (by decide)
    simp only [Value.slice.injEq] at pvv
    obtain ⟨rfl, _, rfl⟩ := pvv
    have p0 := pcc 0 _ rfl
    have p1 := pcc 1 _ rfl
    simp only [Nat.add_zero] at p0
    clear pcc
    have HSI := Lib.hid (sameInts_c (.slice da 2 dc) (.slice (some ⟨w10.heap.size, 0, none⟩) 2 2) [749, 1000] [749, 1000] (w10.alloc (.cells #[.int .i64 749, .int .i64 1000] 3)) (HD10.out.below (belowA (Below.refl _ w10) _)) (reads_blk (Blk.new w10 #[.int .i64 749, .int .i64 1000] 3) (by decide)))
    go_wp2_with fail
    refine HSI.out.mono ?_; rintro e w11 ⟨rfl, hb11⟩
    have B11 := Lib.hid (belowT (belowA B10.out _) hb11)
    clear hb11 p0 p1
    go_wp2_with fail
    go_ret
    exact ⟨by simp, B11.out⟩
end Go.Proofs.Ytplebibabcdipaa
