/- The law RecloseReclaims: for every input; no condition. -/
import Derived.Test.YtjkgkoedkphnjaaReclP
import Derived.Deep.AppendLies
import Derived.Deep.RegionLaw
import Derived.Deep.RegionHeldLaw
namespace Go.Proofs.Ytjkgkoedkphnjaa
open Go.RowKit

theorem wrap_one (z : Nat) (h : z < 6) : wrap64 (1 + (z : Int)) = ((z + 1 : Nat) : Int) := by unfold wrap64; omega
theorem Tm_bound {D rc : Int} {N : Nat} (d1 : 1 ≤ D) (d2 : D ≤ 600000) (q3 : 1 ≤ rc) (q4 : rc ≤ 600000) (hN : N ≤ 6) : ∀ i : Nat, i < N → 0 ≤ Tm D rc i ∧ Tm D rc i ≤ 12000000 := fun i hi => by
  obtain ⟨a, b⟩ := Tm_le d1 d2 q3 q4 i
  constructor <;> omega
set_option maxRecDepth 100000 in
set_option maxHeartbeats 4000000 in
theorem recl_walk (v : Value) (l : List Int) (rc : Int) (nn : Int) (w : World) (hv : IVal w v l) :
    Calls Try.prog 6 #[.agg #[v, .int .i64 rc], .int .i64 nn] w fun e w' => e = .returned (.bool true) ∧ Below w.heap.size w w' := by
  obtain ⟨a, cap, rfl⟩ := hv.slice
  have HK : Hid _ := Lib.hid (fun W (hW : Reads W (.slice a l.length cap) l.length (ints l)) => recCheck_c _ l rc W hW)
  have HV := Lib.hid hv
  have nr := norm_range nn 6 (by decide) (by decide)
  obtain ⟨nr0, nr1⟩ := nr
  by_cases h0 : recE l rc ≠ 0
  · have g0 : (recE l rc != 0) = true := by simpa using h0
    generalize recE l rc = E at *
    generalize (wrap64 (nn.tmod 6 + 6)).tmod 6 = z at *
    clear hv h0
    go_enter Try.func6, Try.ntmps6
    go_wp2_with fail
    refine (recloseWorks_c _).mono ?_; rintro e w1 ⟨rfl, b1⟩
    have B1 := Lib.hid (belowT (belowA (Below.refl _ w) (.cells #[.slice a l.length cap, .int .i64 rc] 41)) b1)
    have k1 := below_blk b1 (Blk.new w #[.slice a l.length cap, .int .i64 rc] 41) (by simp)
    have x0 : w1.cell? ⟨w.heap.size, 0, none⟩ = some (.slice a l.length cap) := k1.cell 0 rfl
    have x1 : w1.cell? ⟨w.heap.size, 1, none⟩ = some (.int .i64 rc) := k1.cell 1 rfl
    clear b1 k1
    go_wp2_with fail
    refine (HK.out _ (HV.out.below B1.out)).mono ?_; rintro e w2 ⟨rfl, b2⟩
    have B2 := Lib.hid (belowT B1.out b2)
    clear b2
    go_wp2_with fail
    go_ret
    exact ⟨rfl, B2.out⟩
  have h0' : recE l rc = 0 := by omega
  obtain ⟨q1, q2, q3, q4, q5⟩ := recE_ok h0'
  obtain ⟨d1, d2⟩ := q5 0 (by omega)
  obtain ⟨g, off, cap', hvv, _, _, hl1, hc1⟩ := hv.addr (by omega)
  simp only [Value.slice.injEq] at hvv
  obtain ⟨rfl, _, rfl⟩ := hvv
  have y0 := hc1 0 _ (ints_get (by omega))
  rw [Nat.add_zero] at y0
  generalize hD : l.getD 0 0 = D at *
  have HDD := Lib.hid hD
  rw [h0'] at HK
  have HH0 := Lib.hid h0'
  obtain ⟨n, hN⟩ : ∃ n, l.length = n := ⟨_, rfl⟩
  have HN := Lib.hid hN
  have HV2 : Hid (Reads w (.slice (some ⟨g, off, none⟩) n cap) n (ints l)) := by show Reads _ _ _ _; rw [← hN]; exact hv
  rw [hN] at HK q1 q2
  rw [hN]
  obtain ⟨i0, hi0, hz0, hz1, hz2⟩ := info_parts infoInt
  obtain ⟨z, hz⟩ : ∃ z : Nat, (wrap64 (nn.tmod 6 + 6)).tmod 6 = z := ⟨_, (Int.toNat_of_nonneg nr0).symm⟩
  rw [hz] at nr0 nr1
  have HZ := Lib.hid hz
  clear hv h0 h0' q5 hN hc1 hD hz
  have hz6 : z < 6 := by exact Int.ofNat_lt.1 nr1
  have HWz := Lib.hid (wrap_one z hz6)
  have hN1 : 1 ≤ z + 1 := Nat.le_add_left 1 z
  have hN6 : z + 1 ≤ 6 := hz6
  generalize z + 1 = N at *
  have HSh := Lib.hid (recl_shots (n := N) HH0.out HDD.out hN1 hN6)
  have HT := Lib.hid (Tm_bound (N := N) d1 d2 q3 q4 hN6)
  have HT0 : Hid (Tm D rc 0 = 0) := by show _ = _; unfold Tm; simp
  go_enter Try.func6, Try.ntmps6
  go_wp2_with fail
  rw [HZ.out]
  refine (recloseWorks_c _).mono ?_; rintro e w1 ⟨rfl, b1⟩
  have B1 := Lib.hid (belowT (belowA (Below.refl _ w) (.cells #[.slice (some ⟨g, off, none⟩) n cap, .int .i64 rc] 41)) b1)
  have k1 := below_blk b1 (Blk.new w #[.slice (some ⟨g, off, none⟩) n cap, .int .i64 rc] 41) (by simp)
  have x0 : w1.cell? ⟨w.heap.size, 0, none⟩ = some (.slice (some ⟨g, off, none⟩) n cap) := k1.cell 0 rfl
  have x1 : w1.cell? ⟨w.heap.size, 1, none⟩ = some (.int .i64 rc) := k1.cell 1 rfl
  have K1 := Lib.hid k1
  clear b1 k1
  go_wp2_with fail
  refine (HK.out _ (HV2.out.below B1.out)).mono ?_; rintro e w2 ⟨rfl, b2⟩
  have B2 := Lib.hid (belowT B1.out b2)
  have k2 := below_blk b2 K1.out K1.out.lt
  have x0 : w2.cell? ⟨w.heap.size, 0, none⟩ = some (.slice (some ⟨g, off, none⟩) n cap) := k2.cell 0 rfl
  have x1 : w2.cell? ⟨w.heap.size, 1, none⟩ = some (.int .i64 rc) := k2.cell 1 rfl
  have lw : w.heap.size < w2.heap.size := k2.lt
  have gw : g < w2.heap.size := by omega
  rw [← B2.out.cell (by exact hl1)] at y0
  clear b2 k2 K1
  rw [HWz.out]
  have X1 : Hid (w2.cell? ⟨w.heap.size, 1, none⟩ = some (.int .i64 rc)) := x1
  have HR0 : Hid (RR w2 0 (trL D rc 0) (wnL D rc 0) (.slice none 0 0) (.slice none 0 0) w2) := ⟨World.ownsRow_nil _ _ _ _, World.ownsRow_nil _ _ _ _, .inl rfl, Below.refl _ _⟩
  go_wp2_with fail
  go_loopw [22, 5, 6, 7] (fun i tv wv t wr => ∃ (k : Nat), k ≤ N ∧ i = .int .i64 k ∧ t = .int .i64 (Tm D rc k) ∧ RR w2 k (trL D rc k) (wnL D rc k) tv wv wr) (fun i _ _ _ _ => N - (intOf i).toNat)
  case atStart => exact ⟨0, Nat.zero_le _, rfl, by rw [HT0.out], HR0.out⟩
  case round =>
    obtain ⟨k, hk, rfl, rfl, hr⟩ := hrel
    obtain ⟨ta, tc, rfl⟩ := row_slice hr.1
    obtain ⟨wa, wc, rfl⟩ := row_slice hr.2.1
    have HB := Lib.hid hr.2.2.2
    have HR := Lib.hid hr
    have sz := hr.2.2.2.size
    have x0 : wr.cell? ⟨w.heap.size, 0, none⟩ = some (.slice (some ⟨g, off, none⟩) n cap) := by rw [HB.out.cell (by show w.heap.size < _; omega)]; exact x0
    have x1 : wr.cell? ⟨w.heap.size, 1, none⟩ = some (.int .i64 rc) := by rw [HB.out.cell (by show w.heap.size < _; omega)]; exact x1
    have y0 : wr.cell? ⟨g, off, none⟩ = some (.int .i64 D) := by rw [HB.out.cell (by show g < _; omega)]; exact y0
    clear hr
    by_cases hlt : k < N
    · obtain ⟨m0, m1⟩ := HT.out k hlt
      have HTS := Lib.hid (Tm_succ D rc k)
      have HXS := Lib.hid (trL_succ D rc k)
      have HYS := Lib.hid (wnL_succ D rc k)
      have k6 : k < 6 := by omega
      generalize Tm D rc k = M at *
      generalize trL D rc k = xs at *
      generalize wnL D rc k = ys at *
      have ga : IntKind.i64.wrap (M + D) = M + D := IntWalk.i64_in _ (by omega)
      have R0 : Hid (RR w2 k xs ys (.slice ta k tc) (.slice wa k wc) wr.drew) := HR.out.drew
      have HSB : Hid (∀ W, Below w2.heap.size w2 W → W.cell? ⟨w.heap.size, 0, none⟩ = some (.slice (some ⟨g, off, none⟩) n cap) ∧ W.cell? ⟨g, off, none⟩ = some (.int .i64 D)) := fun W hW => by
        have hx := HB.out.cell (p := ⟨w.heap.size, 0, none⟩) lw
        have hy := HB.out.cell (p := ⟨g, off, none⟩) gw
        exact ⟨(hW.cell (p := ⟨w.heap.size, 0, none⟩) lw).trans (hx.symm.trans x0), (hW.cell (p := ⟨g, off, none⟩) gw).trans (hy.symm.trans y0)⟩
      have R1 : Hid ((wr.drew.alloc (.cells #[.int .i64 M] 3)).ownsRow w2.heap.size 3 1 (.slice ta k tc) k (ints xs)) := (R0.out.alloc _).1
      have N1 : Hid (∀ j u, [Value.int .i64 M][j]? = some u → (wr.drew.alloc (.cells #[.int .i64 M] 3)).cell? ((⟨wr.heap.size, 0, none⟩ : Addr).add j) = some u) := cell_one_new _ _ _
      have RL : Hid (∀ j, (Value.slice ta k tc).ownBlock = some j → j < wr.heap.size) := row_lt HR.out.1
      have eA : ∀ o : Obj, (wr.drew.alloc o).heap.size = wr.heap.size + 1 := fun o => by rw [World.size_alloc]; rfl
      have EA := Lib.hid eA
      have N2 : Hid (∀ j u, [Value.int .i64 M][j]? = some u → ((wr.drew.alloc (.cells #[.int .i64 M] 3)).alloc (.cells #[.int .i64 (M + D)] 3)).cell? ((⟨wr.heap.size, 0, none⟩ : Addr).add j) = some u) :=
        news_keep N1.out (by rw [eA]; exact Nat.lt_succ_self _) (World.grownBy_alloc _ _ none) (by simp)
      have P2 : Hid (∀ j u, [Value.int .i64 (M + D)][j]? = some u → ((wr.drew.alloc (.cells #[.int .i64 M] 3)).alloc (.cells #[.int .i64 (M + D)] 3)).cell? ((⟨wr.heap.size + 1, 0, none⟩ : Addr).add j) = some u) := by
        show ∀ j u, _; rw [← eA (.cells #[.int .i64 M] 3)]; exact cell_one_new _ _ _
      have N3 : Hid (∀ j u, [Value.int .i64 M][j]? = some u → ((wr.drew.alloc (.cells #[.int .i64 (M + D)] 3)).alloc (.cells #[.int .i64 M] 3)).cell? ((⟨wr.heap.size + 1, 0, none⟩ : Addr).add j) = some u) := by
        show ∀ j u, _; rw [← eA (.cells #[.int .i64 (M + D)] 3)]; exact cell_one_new _ _ _
      have P3 : Hid (∀ j u, [Value.int .i64 (M + D)][j]? = some u → ((wr.drew.alloc (.cells #[.int .i64 (M + D)] 3)).alloc (.cells #[.int .i64 M] 3)).cell? ((⟨wr.heap.size, 0, none⟩ : Addr).add j) = some u) :=
        news_keep (W := wr.drew.alloc (.cells #[.int .i64 (M + D)] 3)) (cell_one_new wr.drew (.int .i64 (M + D)) 3) (by rw [eA]; exact Nat.lt_succ_self _) (World.grownBy_alloc _ _ none) (by simp)
      have S2 : Hid (wr.heap.size + 1 < ((wr.drew.alloc (.cells #[.int .i64 M] 3)).alloc (.cells #[.int .i64 (M + D)] 3)).heap.size) := by show _ < _; rw [World.size_alloc, eA]; omega
      have S3 : Hid (wr.heap.size < ((wr.drew.alloc (.cells #[.int .i64 (M + D)] 3)).alloc (.cells #[.int .i64 M] 3)).heap.size) := by show _ < _; rw [World.size_alloc, eA]; omega
      have HL1 : Hid (k + 1 ≤ maxLen) := by show _ ≤ _; unfold maxLen; omega
      have HL2 : Hid ((k + 1) * 8 ≤ 140737488355328) := by show _ ≤ _; omega
      have gb : IntKind.i64.wrap (D + rc) = D + rc := IntWalk.i64_in _ (by omega)
      have gc : IntKind.i64.wrap (M + (D + rc)) = M + (D + rc) := IntWalk.i64_in _ (by omega)
      clear eA
      go_wp2_with fail
      go_region_held_law (fun W => W.cell? ⟨w.heap.size, 0, none⟩ = some (.slice (some ⟨g, off, none⟩) n cap) ∧ W.cell? ⟨g, off, none⟩ = some (.int .i64 D))
        (first
          | exact HSB.out _ R0.out.2.2.2
          | exact HSB.out _ (R0.out.alloc _).2.2.2
          | exact HSB.out _ ((R0.out.alloc _).alloc _).2.2.2
          | exact HSB.out _ F.out.2.2.2
          | exact HSB.out _ M1.out.2.2.2
          | exact HSB.out _ (M1.out.alloc _).2.2.2
          | exact HSB.out _ M2.out.2.2.2
          | exact HSB.out _ M3.out.2.2.2)
        (first
          | (refine step_append_lies _ rfl (.tmp 28) (.tmp 35) 39 rfl w2.heap.size 3 i0 (.int .i64 0) 1 8 Try.underlying39 hi0 hz0 hz1 hz2 rfl (by decide) (.slice wa k wc) k (ints ys) rfl (M1.out.alloc _).2.1 ⟨u1.heap.size, 0, none⟩ 1 1 [.int .i64 (M + D)] rfl rfl (cell_one_new _ _ _) (ints_one [M + D]) (by decide) HL1.out HL2.out (M1.out.alloc _).2.2.2.size _ rfl ?_; intro g2 cap2 u2 hown2 hgrow2 hat2 hlt2; have F := Lib.hid (RM.app (M1.out.alloc _) hown2 hgrow2 hat2); clear hown2 hgrow2 hat2)
          | (refine step_append_lies _ rfl (.tmp 28) (.tmp 35) 39 rfl w2.heap.size 3 i0 (.int .i64 0) 1 8 Try.underlying39 hi0 hz0 hz1 hz2 rfl (by decide) (.slice wa k wc) k (ints ys) rfl M2.out.2.1 ⟨wr.heap.size + 1, 0, none⟩ 1 1 [.int .i64 (M + D)] rfl rfl NB2.out (ints_one [M + D]) (by decide) HL1.out HL2.out M2.out.2.2.2.size _ rfl ?_; intro g2 cap2 u2 hown2 hgrow2 hat2 hlt2; have F := Lib.hid (RM.app M2.out hown2 hgrow2 hat2); clear hown2 hgrow2 hat2)
          | (refine step_append_lies _ rfl (.tmp 28) (.tmp 35) 39 rfl w2.heap.size 3 i0 (.int .i64 0) 1 8 Try.underlying39 hi0 hz0 hz1 hz2 rfl (by decide) (.slice wa k wc) k (ints ys) rfl M3.out.2.1 ⟨wr.heap.size, 0, none⟩ 1 1 [.int .i64 (M + D)] rfl rfl NB3.out (ints_one [M + D]) (by decide) HL1.out HL2.out M3.out.2.2.2.size _ rfl ?_; intro g2 cap2 u2 hown2 hgrow2 hat2 hlt2; have F := Lib.hid (RM.app M3.out hown2 hgrow2 hat2); clear hown2 hgrow2 hat2)
          | (refine step_append_lies _ rfl (.tmp 24) (.tmp 26) 39 rfl w2.heap.size 3 i0 (.int .i64 0) 1 8 Try.underlying39 hi0 hz0 hz1 hz2 rfl (by decide) (.slice ta k tc) k (ints xs) rfl R1.out ⟨wr.heap.size, 0, none⟩ 1 1 [.int .i64 M] rfl rfl N1.out (ints_one [M]) (by decide) HL1.out HL2.out (R0.out.alloc _).2.2.2.size _ rfl ?_; intro g1 cap1 u1 hown1 hgrow1 hat1 hlt1; have M1 := Lib.hid (RR.app (R0.out.alloc _) hown1 hgrow1 hat1); clear hown1 hgrow1 hat1)
          | (refine step_append_lies _ rfl (.tmp 24) (.tmp 26) 39 rfl w2.heap.size 3 i0 (.int .i64 0) 1 8 Try.underlying39 hi0 hz0 hz1 hz2 rfl (by decide) (.slice ta k tc) k (ints xs) rfl ((R0.out.alloc _).alloc _).1 ⟨wr.heap.size, 0, none⟩ 1 1 [.int .i64 M] rfl rfl N2.out (ints_one [M]) (by decide) HL1.out HL2.out ((R0.out.alloc _).alloc _).2.2.2.size _ rfl ?_; intro g1 cap1 u1 hown1 hgrow1 hat1 hlt1; have M2 := Lib.hid (RR.app ((R0.out.alloc _).alloc _) hown1 hgrow1 hat1); have NB2 := Lib.hid (news_keep P2.out S2.out hgrow1 (fun e => Nat.lt_irrefl _ (Nat.lt_trans (RL.out _ e) (Nat.lt_succ_self _)))); clear hown1 hgrow1 hat1)
          | (refine step_append_lies _ rfl (.tmp 24) (.tmp 26) 39 rfl w2.heap.size 3 i0 (.int .i64 0) 1 8 Try.underlying39 hi0 hz0 hz1 hz2 rfl (by decide) (.slice ta k tc) k (ints xs) rfl ((R0.out.alloc _).alloc _).1 ⟨wr.heap.size + 1, 0, none⟩ 1 1 [.int .i64 M] rfl rfl N3.out (ints_one [M]) (by decide) HL1.out HL2.out ((R0.out.alloc _).alloc _).2.2.2.size _ rfl ?_; intro g1 cap1 u1 hown1 hgrow1 hat1 hlt1; have M3 := Lib.hid (RR.app ((R0.out.alloc _).alloc _) hown1 hgrow1 hat1); have NB3 := Lib.hid (news_keep P3.out S3.out hgrow1 (fun e => Nat.lt_irrefl _ (RL.out _ e))); clear hown1 hgrow1 hat1))
      all_goals
        go_simp
        clear x0 x1 y0
        have x0 : u2.cell? ⟨w.heap.size, 0, none⟩ = some (.slice (some ⟨g, off, none⟩) n cap) := (HSB.out _ F.out.2.2.2).1
        have y0 : u2.cell? ⟨g, off, none⟩ = some (.int .i64 D) := (HSB.out _ F.out.2.2.2).2
        have x1 : u2.cell? ⟨w.heap.size, 1, none⟩ = some (.int .i64 rc) := (F.out.2.2.2.cell (p := ⟨w.heap.size, 1, none⟩) lw).trans X1.out
        have su : w2.heap.size ≤ u2.heap.size := F.out.2.2.2.size
        have sw : w.heap.size < u2.heap.size := Nat.lt_of_lt_of_le lw su
        have sg : g < u2.heap.size := Nat.lt_of_lt_of_le gw su
        go_wp2_with fail
        refine wp_region_quiet_lit (by kernel_rfl) (by kernel_rfl) ?_
        repeat (first | go_big_quiet_step (fail) | (go_big_quiet_want; go_simp; go_big_quiet_on))
        refine wpQuiet_nil ?_
        intro _ hw'
        obtain ⟨nq, hw''⟩ := hw'
        subst hw''
        go_wp2_with fail
        go_roundw
        case rel => exact ⟨k + 1, by omega, by go_num, by rw [HTS.out, Int.add_assoc], by rw [HXS.out, HYS.out]; exact F.out.drewN _⟩
        case measure => simp [intOf]; omega
    · have ek : k = N := by omega
      subst ek
      have BW := Lib.hid (belowT B2.out HB.out)
      have HS := Lib.hid (shots_c (.slice (some ⟨g, off, none⟩) n cap) (.slice ta k tc) l rc (trL D rc k) wr (by show Reads _ _ _ _; rw [HN.out]; exact HV2.out.below BW.out) (by show Reads _ _ _ _; rw [trL_len]; exact Reads.of_owns HR.out.1 (by omega)))
      rw [HSh.out] at HS
      have HWV : Hid (Reads wr (.slice wa k wc) k (ints (wnL D rc k))) := Reads.of_owns HR.out.2.1 (by omega)
      have HLn := Lib.hid (wnL_len D rc k)
      clear HT HSh HR0 HT0
      generalize wnL D rc k = ws at *
      go_wp2_with fail
      refine HS.out.mono ?_; rintro e w3 ⟨v3, rfl, h3, b3⟩
      have h3' : Reads w3 v3 ws.length (ints ws) := h3
      rw [HLn.out] at h3'
      obtain ⟨a3, c3, rfl⟩ := h3'.slice
      have HSI : Hid (Calls Try.prog 26 #[.slice a3 k c3, .slice wa k wc] w3 fun e w' => e = .returned (.bool true) ∧ Below w3.heap.size w3 w') := by
        have := sameInts_c (.slice a3 k c3) (.slice wa k wc) ws ws w3 (by show Reads _ _ _ _; rw [HLn.out]; exact h3') (by show Reads _ _ _ _; rw [HLn.out]; exact HWV.out.below b3)
        rw [show decide (ws = ws) = true from decide_eq_true rfl] at this
        exact this
      have B3 := Lib.hid (belowT BW.out b3)
      clear h3 h3' b3 HS
      go_wp2_with fail
      refine HSI.out.mono ?_; rintro e w4 ⟨rfl, b4⟩
      have B4 := Lib.hid (belowT B3.out b4)
      clear b4
      go_wp2_with fail
      go_ret
      exact ⟨rfl, B4.out⟩
end Go.Proofs.Ytjkgkoedkphnjaa
