/- choose: SameTexts, chooseWorks. -/
import Derived.Test.YtplebibabcdipaaCho21
import Derived.Test.YtplebibabcdipaaZwk
namespace Go.Proofs.Ytplebibabcdipaa
open Go.RowKit

set_option maxHeartbeats 1000000 in
theorem sameTexts_c (va vb : Value) (la lb : List ByteArray) (w : World) (ha : SVal w va la) (hb : SVal w vb lb) :
    Calls Try.prog 59 #[va, vb] w fun e w' => e = .returned (.bool (decide (la = lb))) ∧ Below w.heap.size w w' := by
  have bound : ∀ {v : Value} {l : List ByteArray}, SVal w v l → l.length ≤ 9223372036854775807 := by
    intro v l h
    rcases h with ⟨h, _⟩ | ⟨_, _, _, _, _, h, _⟩
    · omega
    · exact h
  have ba := bound ha
  have bb := bound hb
  obtain ⟨aa, ca, rfl⟩ := ha.slice
  obtain ⟨ab, cb, rfl⟩ := hb.slice
  obtain ⟨n, hn⟩ : ∃ n, la.length = n := ⟨_, rfl⟩
  obtain ⟨m, hm⟩ : ∃ m, lb.length = m := ⟨_, rfl⟩
  have HA : Hid (Reads w (.slice aa n ca) n (strs la)) := by show Reads _ _ _ _; rw [← hn]; exact ha
  have HB : Hid (Reads w (.slice ab m cb) m (strs lb)) := by show Reads _ _ _ _; rw [← hm]; exact hb
  have HN := Lib.hid hn
  have HM := Lib.hid hm
  have HE : Hid (decide (la = lb) = decide (la = lb)) := rfl
  rw [hn] at ba ⊢
  rw [hm] at bb ⊢
  clear ha hb bound
  by_cases hnm : n = m
  · subst hnm
    have HI : Hid (∀ k, k ≤ n → la.take k = lb.take k → k = n → la = lb) := by
      intro k _ ht e
      rw [e] at ht
      rwa [List.take_of_length_le (by omega), List.take_of_length_le (by omega)] at ht
    have HF : Hid (∀ k, k < n → la.getD k ByteArray.empty ≠ lb.getD k ByteArray.empty → la ≠ lb) := by
      intro k _ hne e; exact hne (by rw [e])
    have HS : Hid (∀ k, k < n → la.take k = lb.take k → la.getD k ByteArray.empty = lb.getD k ByteArray.empty → la.take (k + 1) = lb.take (k + 1)) := by
      intro k hk ht he
      have q1 : k < la.length := by omega
      have q2 : k < lb.length := by omega
      rw [List.take_add_one, List.take_add_one, ht]
      congr 1
      simp [q1, q2] at he ⊢
      exact he
    generalize hE : decide (la = lb) = E at *
    have HEE := Lib.hid hE
    clear hE hn hm
    go_enter Try.func59, Try.ntmps59
    go_wp2_with fail
    go_loopw [13] (fun i wr => ∃ k : Nat, k ≤ n ∧ i = .int .i64 k ∧ la.take k = lb.take k ∧ Below w.heap.size w wr) (fun i _ => n - (intOf i).toNat)
    case atStart => exact ⟨0, Nat.zero_le _, rfl, rfl, Below.refl _ _⟩
    case round =>
      obtain ⟨k, hk, rfl, ht, hb⟩ := hrel
      by_cases hlt : k < n
      · obtain ⟨b1, o1, c1, hvv, _, _, hl1, hc1⟩ := HA.out.addr (by omega)
        simp only [Value.slice.injEq] at hvv
        obtain ⟨rfl, _, rfl⟩ := hvv
        obtain ⟨b2, o2, c2, hvv, _, _, hl2, hc2⟩ := HB.out.addr (by omega)
        simp only [Value.slice.injEq] at hvv
        obtain ⟨rfl, _, rfl⟩ := hvv
        have x1 := hc1 k _ (strs_get (by rw [HN.out]; exact hlt))
        have x2 := hc2 k _ (strs_get (by rw [HM.out]; exact hlt))
        rw [← hb.cell (by exact hl1)] at x1
        rw [← hb.cell (by exact hl2)] at x2
        have ws := hb.size
        have hf := HF.out k hlt
        have hs := HS.out k hlt ht
        generalize la.getD k ByteArray.empty = p at *
        generalize lb.getD k ByteArray.empty = q at *
        have HT := Lib.hid ht
        have HFk := Lib.hid hf
        have HSk := Lib.hid hs
        have HBw := Lib.hid hb
        clear ht hf hs hb hc1 hc2
        by_cases hpq : p = q
        · have g1 : (p.toList == q.toList) = true := (Lib.bytes_beq_iff p q).2 hpq
          have HP := Lib.hid hpq
          clear hpq
          go_wp2_with fail
          refine wp_region_quiet_lit (by kernel_rfl) (by kernel_rfl) ?_
          repeat (first | go_big_quiet_step (fail) | (go_big_quiet_want; go_simp; go_big_quiet_on))
          refine wpQuiet_nil ?_
          intro _ hw'
          obtain ⟨nq, hw''⟩ := hw'
          subst hw''
          go_wp2_with fail
          go_roundw
          case rel => exact ⟨k + 1, by omega, by go_num, HSk.out HP.out, below_drewN HBw.out _⟩
          case measure => simp [intOf]; omega
        · have g1 : (p.toList == q.toList) = false := by
            cases hq : (p.toList == q.toList)
            · rfl
            · exact absurd ((Lib.bytes_beq_iff p q).1 hq) hpq
          have HP := Lib.hid hpq
          clear hpq
          go_wp2_with fail
          refine wp_region_quiet_lit (by kernel_rfl) (by kernel_rfl) ?_
          repeat (first | go_big_quiet_step (fail) | (go_big_quiet_want; go_simp; go_big_quiet_on))
          refine wpQuiet_nil ?_
          intro _ hw'
          obtain ⟨nq, hw''⟩ := hw'
          subst hw''
          go_wp2_with fail
          go_ret
          exact ⟨by rw [← HEE.out, decide_eq_false (HFk.out HP.out)]; rfl, below_drewN HBw.out _⟩
      · have HX := Lib.hid (HI.out k hk ht (by omega))
        have HBw := Lib.hid hb
        clear ht hb
        go_wp2_with fail
        go_ret
        exact ⟨by rw [← HEE.out, decide_eq_true HX.out]; rfl, HBw.out⟩
  · have HX : Hid (decide (la = lb) = false) := by show _ = _; apply decide_eq_false; intro e; rw [e, hm] at hn; exact hnm hn.symm
    generalize decide (la = lb) = E at *
    have g1 : ((n : Int) != m) = true := by simp; omega
    clear hnm hn hm
    go_enter Try.func59, Try.ntmps59
    go_wp2_with fail
    go_ret
    exact ⟨by rw [HX.out]; rfl, Below.refl _ _⟩

theorem feed_least1 : leastE feedN ⟨⟨#[77]⟩, 500⟩ = ([⟨#[84]⟩], 0) := by decide +kernel
theorem feed_least2 : leastE feedN ⟨⟨#[76]⟩, 500⟩ = ([⟨#[83]⟩], 0) := by decide +kernel
theorem feed_ways : waysE feedN ⟨⟨#[76]⟩, 500⟩ = ([[⟨#[83]⟩, ⟨#[76]⟩]], 0) := by decide +kernel
theorem feed_proves : provesE feedN ⟨⟨#[76]⟩, 500⟩ [⟨#[83]⟩] [[⟨#[83]⟩, ⟨#[76]⟩]] = (true, 0) := by decide +kernel
set_option maxHeartbeats 8000000 in
set_option maxRecDepth 100000 in
theorem chooseWorks_c (w : World) : Calls Try.prog 29 #[] w fun e w' => e = .returned (.bool true) ∧ Below w.heap.size w w' := by
  have HL1 : Hid (∀ x0 W, NetR W x0 feedN → Calls Try.prog 30 #[x0.val feedN, .agg #[.string ⟨#[77]⟩, .int .i64 500]] W (StrsP W [⟨#[84]⟩] 0)) := fun x0 W hr => by
    have := least_c x0 feedN ⟨#[77]⟩ 500 W hr feedN_wf
    rw [feed_least1] at this; exact this
  have HL2 : Hid (∀ x0 W, NetR W x0 feedN → Calls Try.prog 30 #[x0.val feedN, .agg #[.string ⟨#[76]⟩, .int .i64 500]] W (StrsP W [⟨#[83]⟩] 0)) := fun x0 W hr => by
    have := least_c x0 feedN ⟨#[76]⟩ 500 W hr feedN_wf
    rw [feed_least2] at this; exact this
  have HWY : Hid (∀ x0 W, NetR W x0 feedN → Calls Try.prog 31 #[x0.val feedN, .agg #[.string ⟨#[76]⟩, .int .i64 500]] W (WaysP W [[⟨#[83]⟩, ⟨#[76]⟩]] 0)) := fun x0 W hr => by
    have := ways_c x0 feedN ⟨#[76]⟩ 500 W hr feedN_wf
    rw [feed_ways] at this; exact this
  have HPV : Hid (∀ x0 W ov wv, NetR W x0 feedN → SVal W ov [⟨#[83]⟩] → RLL W wv [[⟨#[83]⟩, ⟨#[76]⟩]] → Calls Try.prog 33 #[x0.val feedN, .agg #[.string ⟨#[76]⟩, .int .i64 500], ov, wv] W fun e w' => e = .returned (.tuple #[.bool true, .int .i64 0]) ∧ Below W.heap.size W w') := fun x0 W ov wv hr ho hw => by
    have := proves_c x0 feedN [⟨#[83]⟩] ov [[⟨#[83]⟩, ⟨#[76]⟩]] wv ⟨#[76]⟩ 500 W hr feedN_wf ho hw (by simp) (fun l hl => by rw [List.mem_singleton] at hl; subst hl; simp)
    rw [feed_proves] at this; exact this
  have HST : Hid (∀ l W va vb, SVal W va l → SVal W vb l → Calls Try.prog 59 #[va, vb] W fun e w' => e = .returned (.bool true) ∧ Below W.heap.size W w') := fun l W va vb ha hb => by
    have := sameTexts_c va vb l l W ha hb
    rw [decide_eq_true rfl] at this; exact this
  go_enter Try.func29, Try.ntmps29
  go_wp2_with fail
  refine (feeder_c w).mono ?_; rintro e w1 ⟨x0, rfl, hn1, hb1⟩
  have HN1 := Lib.hid hn1
  have HB1 := Lib.hid hb1
  clear hn1 hb1
  go_wp2_with fail
  refine (HL1.out x0 w1 HN1.out).mono ?_; rintro e w2 ⟨v1, rfl, hr1, hb2⟩
  have HB2 := Lib.hid (belowT HB1.out hb2)
  have HR1 := Lib.hid hr1
  clear hr1 hb2
  go_wp2_with fail
  refine (feeder_c w2).mono ?_; rintro e w3 ⟨x1, rfl, hn1, hb1⟩
  have HN3 := Lib.hid hn1
  have HB3 := Lib.hid hb1
  clear hn1 hb1
  go_wp2_with fail
  refine (HL2.out x1 w3 HN3.out).mono ?_; rintro e w4 ⟨v2, rfl, hr2, hb2⟩
  have HB24 := Lib.hid (belowT HB3.out hb2)
  have HR2 := Lib.hid hr2
  clear hr2 hb2
  go_wp2_with fail
  refine (feeder_c w4).mono ?_; rintro e w5 ⟨x2, rfl, hn1, hb1⟩
  have HN5 := Lib.hid hn1
  have HB5 := Lib.hid hb1
  clear hn1 hb1
  go_wp2_with fail
  refine (HWY.out x2 w5 HN5.out).mono ?_; rintro e w6 ⟨v3, rfl, hr3, hb2⟩
  have HB46 := Lib.hid (belowT HB5.out hb2)
  have HR3 := Lib.hid hr3
  clear hr3 hb2
  go_wp2_with fail
  refine (feeder_c w6).mono ?_; rintro e w7 ⟨x3, rfl, hn1, hb1⟩
  have HN7 := Lib.hid hn1
  have HB67 := Lib.hid hb1
  clear hn1 hb1
  have B8 := Lib.hid (belowA (belowA (belowA (Below.refl w7.heap.size w7) (.cells #[.string ⟨#[83]⟩] 9)) (.cells #[.string ⟨#[83]⟩, .string ⟨#[76]⟩] 9)) (.cells #[.slice (some ⟨w7.heap.size + 1, 0, none⟩) 2 2] 22))
  have KA := ((Blk.new w7 #[.string ⟨#[83]⟩] 9).alloc (.cells #[.string ⟨#[83]⟩, .string ⟨#[76]⟩] 9)).alloc (.cells #[.slice (some ⟨w7.heap.size + 1, 0, none⟩) 2 2] 22)
  have KB := (Blk.new2 w7 (.cells #[.string ⟨#[83]⟩] 9) #[.string ⟨#[83]⟩, .string ⟨#[76]⟩] 9).alloc (.cells #[.slice (some ⟨w7.heap.size + 1, 0, none⟩) 2 2] 22)
  have KC : Blk (((w7.alloc (.cells #[.string ⟨#[83]⟩] 9)).alloc (.cells #[.string ⟨#[83]⟩, .string ⟨#[76]⟩] 9)).alloc (.cells #[.slice (some ⟨w7.heap.size + 1, 0, none⟩) 2 2] 22)) (w7.heap.size + 1 + 1) #[.slice (some ⟨w7.heap.size + 1, 0, none⟩) 2 2] 22 := by
    have := Blk.new ((w7.alloc (.cells #[.string ⟨#[83]⟩] 9)).alloc (.cells #[.string ⟨#[83]⟩, .string ⟨#[76]⟩] 9)) #[.slice (some ⟨w7.heap.size + 1, 0, none⟩) 2 2] 22
    rw [World.size_alloc, World.size_alloc] at this; exact this
  have HPC := Lib.hid (HPV.out x3 (((w7.alloc (.cells #[.string ⟨#[83]⟩] 9)).alloc (.cells #[.string ⟨#[83]⟩, .string ⟨#[76]⟩] 9)).alloc (.cells #[.slice (some ⟨w7.heap.size + 1, 0, none⟩) 2 2] 22)) (.slice (some ⟨w7.heap.size, 0, none⟩) 1 1) (.slice (some ⟨w7.heap.size + 1 + 1, 0, none⟩) 1 1) (HN7.out.below B8.out) (reads_blk (cs := strs [⟨#[83]⟩]) KA (by decide))
    ⟨[.slice (some ⟨w7.heap.size + 1, 0, none⟩) 2 2], rfl, reads_blk (cs := [.slice (some ⟨w7.heap.size + 1, 0, none⟩) 2 2]) KC (by decide), fun i h l hh hl => by
      cases i with
      | zero => simp at hh hl; subst hh; subst hl; exact reads_blk (cs := strs [⟨#[83]⟩, ⟨#[76]⟩]) KB (by decide)
      | succ i => simp at hh⟩)
  clear KA KB KC
  go_wp2_with fail
  refine HPC.out.mono ?_; rintro e w8 ⟨rfl, hb8⟩
  have HB68 := Lib.hid (belowT HB67.out (belowT B8.out hb8))
  clear hb8 HPC
  have HR18 := Lib.hid (HR1.out.below (HB24.out.trans ((HB46.out.trans (HB68.out.mono HB46.out.size)).mono HB24.out.size)))
  have HR28 := Lib.hid (HR2.out.below (HB46.out.trans (HB68.out.mono HB46.out.size)))
  have HR38 := Lib.hid (HR3.out.below HB68.out)
  have HB8 := Lib.hid (HB2.out.trans ((HB24.out.trans ((HB46.out.trans (HB68.out.mono HB46.out.size)).mono HB24.out.size)).mono HB2.out.size))
  obtain ⟨hs, hl1, hr3, he3⟩ := HR38.out
  obtain ⟨a3, c3, rfl⟩ := hr3.slice
  obtain ⟨h, rfl⟩ : ∃ h, hs = [h] := by
    cases hs with
    | nil => simp at hl1
    | cons x xs => cases xs with
      | nil => exact ⟨x, rfl⟩
      | cons y ys => simp at hl1
  have HH := Lib.hid (he3 0 h _ rfl rfl)
  have HR3b := Lib.hid hr3
  clear hl1 hr3 he3
  have K1 := Blk.new w8 #[.string ⟨#[84]⟩] 9
  have BA := belowA (Below.refl w8.heap.size w8) (.cells #[.string ⟨#[84]⟩] 9)
  have HS1 := Lib.hid (HST.out [⟨#[84]⟩] (w8.alloc (.cells #[.string ⟨#[84]⟩] 9)) v1 (.slice (some ⟨w8.heap.size, 0, none⟩) 1 1) (HR18.out.below BA) (reads_blk (cs := strs [⟨#[84]⟩]) K1 (by decide)))
  have BA1 := Lib.hid BA
  clear K1 BA
  go_wp2_with fail
  refine HS1.out.mono ?_; rintro e w9 ⟨rfl, hb9⟩
  have HB89 := Lib.hid (belowT BA1.out hb9)
  clear hb9 HS1 BA1
  have K1 := Blk.new w9 #[.string ⟨#[83]⟩] 9
  have BA := belowA HB89.out (.cells #[.string ⟨#[83]⟩] 9)
  have HS1 := Lib.hid (HST.out [⟨#[83]⟩] (w9.alloc (.cells #[.string ⟨#[83]⟩] 9)) v2 (.slice (some ⟨w9.heap.size, 0, none⟩) 1 1) (HR28.out.below BA) (reads_blk (cs := strs [⟨#[83]⟩]) K1 (by decide)))
  have BA1 := Lib.hid BA
  clear K1 BA
  go_wp2_with fail
  refine HS1.out.mono ?_; rintro e w10 ⟨rfl, hb9⟩
  have HB810 := Lib.hid (belowT BA1.out hb9)
  clear hb9 HS1 BA1
  have K1 := Blk.new w10 #[.string ⟨#[83]⟩, .string ⟨#[76]⟩] 9
  have BA := belowA HB810.out (.cells #[.string ⟨#[83]⟩, .string ⟨#[76]⟩] 9)
  have HS1 := Lib.hid (HST.out [⟨#[83]⟩, ⟨#[76]⟩] (w10.alloc (.cells #[.string ⟨#[83]⟩, .string ⟨#[76]⟩] 9)) h (.slice (some ⟨w10.heap.size, 0, none⟩) 2 2) (HH.out.below BA) (reads_blk (cs := strs [⟨#[83]⟩, ⟨#[76]⟩]) K1 (by decide)))
  have BA1 := Lib.hid BA
  obtain ⟨g', off, cap', hvv, _, _, _, hcc⟩ := (HR3b.out.below HB810.out).addr (by decide)
  simp only [Value.slice.injEq] at hvv
  obtain ⟨rfl, _, rfl⟩ := hvv
  obtain ⟨ha, hc, rfl⟩ := HH.out.slice
  have c0 : w10.cell? ⟨g', off, none⟩ = some (.slice ha 2 hc) := hcc 0 _ rfl
  clear K1 BA hcc
  go_wp2_with fail
  refine HS1.out.mono ?_; rintro e w11 ⟨rfl, hb9⟩
  have HB811 := Lib.hid (belowT BA1.out hb9)
  clear hb9 HS1 BA1 c0
  go_wp2_with fail
  go_ret
  exact ⟨rfl, HB8.out.trans (HB811.out.mono HB8.out.size)⟩
end Go.Proofs.Ytplebibabcdipaa
