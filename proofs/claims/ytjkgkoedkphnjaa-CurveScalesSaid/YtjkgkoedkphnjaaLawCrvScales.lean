/- The law CurveScales: with the dial 1000 nothing changes, and a greater dial makes no time less. For every input; no condition. -/
import Derived.Test.YtjkgkoedkphnjaaLawCrvFalls
namespace Go.Proofs.Ytjkgkoedkphnjaa
open Go.RowKit

theorem scaleE_bad {l : Pts} (h : l.err ≠ 0) (dial : Int) : l.scaleE dial = l.err := by unfold Pts.scaleE; rw [if_pos h]

theorem timeR_ok {l : Pts} (h : l.Ok) (pk cur : Int) : l.timeR pk cur = if pk < 1 ∨ 1000000 < pk ∨ cur < 0 ∨ 1000000 < cur then ((0, 4) : Int × Int) else match l.time pk cur with
    | none => ((0, 8) : Int × Int)
    | some t => ((t, 0) : Int × Int) := by
  unfold Pts.timeR; rw [if_neg (fun h' => h' ((Pts.err_zero _).2 h))]; split
  · rfl
  · cases l.time pk cur <;> rfl

/-- What the law compares in the end. -/
theorem scales_time {l : Pts} {A B pk cur : Int} (hAB : A ≤ B) (hA : l.scaleE A = 0) (hB : l.scaleE B = 0) :
    ((l.scaled A).timeR pk cur).2 = ((l.scaled B).timeR pk cur).2 ∧ ((l.scaled A).timeR pk cur).1 ≤ ((l.scaled B).timeR pk cur).1 := by
  obtain ⟨hl, hx, a1⟩ := Pts.scaled_ok hA
  obtain ⟨_, hy, b1⟩ := Pts.scaled_ok hB
  rw [timeR_ok hx, timeR_ok hy]
  by_cases hr : pk < 1 ∨ 1000000 < pk ∨ cur < 0 ∨ 1000000 < cur
  · rw [if_pos hr, if_pos hr]; exact ⟨rfl, Int.le_refl _⟩
  · rw [if_neg hr, if_neg hr]
    have := Pts.time_scales hx hy (by rw [Pts.scaled_len, Pts.scaled_len]) (fun i hi => by rw [Pts.scaled_len] at hi; rw [Pts.scaled_pt hi, Pts.scaled_pt hi]; rfl)
      (fun i hi => by
        rw [Pts.scaled_len] at hi; rw [Pts.scaled_pt hi, Pts.scaled_pt hi]
        have := Int.mul_le_mul_of_nonneg_left hAB (hl.t1 i hi)
        show ((l.pt i).2 * A + 999) / 1000 ≤ ((l.pt i).2 * B + 999) / 1000
        omega) (pk := pk) (cur := cur) (by omega)
    rcases this with ⟨h1, h2⟩ | ⟨t, u, h1, h2, h3⟩
    · rw [h1, h2]; exact ⟨rfl, Int.le_refl _⟩
    · rw [h1, h2]; exact ⟨rfl, h3⟩

set_option maxHeartbeats 4000000 in
theorem scales_walk (v : Value) (l : Pts) (a b pk cur : Int) (w : World) (hv : PVal w v l) :
    Calls Try.prog 12 #[v, .int .i64 a, .int .i64 b, .int .i64 pk, .int .i64 cur] w fun e w' => e = .returned (.bool true) ∧ Below w.heap.size w w' := by
  obtain ⟨sa, sl, sc0, rfl⟩ := hv.slice
  have HV := Lib.hid hv
  clear hv
  go_enter Try.func12, Try.ntmps12
  go_wp2_with fail
  refine (curveWorks_c _).mono ?_; rintro e w1 ⟨rfl, b1⟩
  have B1 := Lib.hid b1
  have V1 := Lib.hid (HV.out.below b1)
  clear b1 HV
  by_cases hab : b < a
  · have hAB : b ≤ a := by omega
    go_wp2_with fail
    refine (scale_c _ l b _ V1.out).mono ?_; rintro e w2 ⟨x, rfl, b2, x0, x1⟩
    have B2 := Lib.hid (belowT B1.out b2)
    have V2 := Lib.hid (V1.out.below b2)
    have X2 := Lib.hid (And.intro x0 x1)
    clear b2 V1 B1 x0 x1
    go_wp2_with fail
    refine (scale_c _ l a _ V2.out).mono ?_; rintro e w3 ⟨y, rfl, b3, y0, y1⟩
    have B3 := Lib.hid (belowT B2.out b3)
    have V3 := Lib.hid (V2.out.below b3)
    have X3 : Hid ((l.scaleE b ≠ 0 → x = .slice none 0 0) ∧ (l.scaleE b = 0 → PVal w3 x (l.scaled b))) := ⟨X2.out.1, fun h => (X2.out.2 h).below b3⟩
    have Y3 := Lib.hid (And.intro y0 y1)
    clear b3 V2 B2 X2 y0 y1
    go_wp2_with fail
    refine (scale_c _ l 1000 _ V3.out).mono ?_; rintro e w4 ⟨z, rfl, b4, z0, z1⟩
    have B4 := Lib.hid (belowT B3.out b4)
    have V4 := Lib.hid (V3.out.below b4)
    have X4 : Hid ((l.scaleE b ≠ 0 → x = .slice none 0 0) ∧ (l.scaleE b = 0 → PVal w4 x (l.scaled b))) := ⟨X3.out.1, fun h => (X3.out.2 h).below b4⟩
    have Y4 : Hid ((l.scaleE a ≠ 0 → y = .slice none 0 0) ∧ (l.scaleE a = 0 → PVal w4 y (l.scaled a))) := ⟨Y3.out.1, fun h => (Y3.out.2 h).below b4⟩
    have Z4 := Lib.hid (And.intro z0 z1)
    clear b4 V3 B3 X3 Y3 z0 z1
    go_wp2_with fail
    refine (curveCheck_c _ l _ V4.out).mono ?_; rintro e w5 ⟨rfl, b5⟩
    have B5 := Lib.hid (belowT B4.out b5)
    have V5 := Lib.hid (V4.out.below b5)
    have X5 : Hid ((l.scaleE b ≠ 0 → x = .slice none 0 0) ∧ (l.scaleE b = 0 → PVal w5 x (l.scaled b))) := ⟨X4.out.1, fun h => (X4.out.2 h).below b5⟩
    have Y5 : Hid ((l.scaleE a ≠ 0 → y = .slice none 0 0) ∧ (l.scaleE a = 0 → PVal w5 y (l.scaled a))) := ⟨Y4.out.1, fun h => (Y4.out.2 h).below b5⟩
    have Z5 : Hid ((l.scaleE 1000 ≠ 0 → z = .slice none 0 0) ∧ (l.scaleE 1000 = 0 → PVal w5 z (l.scaled 1000))) := ⟨Z4.out.1, fun h => (Z4.out.2 h).below b5⟩
    clear b5 V4 B4 X4 Y4 Z4
    by_cases he : l.err = 0
    · have hl := (Pts.err_zero l).1 he
      have hz := Z5.out.2 (Pts.scaleE_thousand hl)
      rw [Pts.scaled_thousand] at hz
      rw [he, Pts.scaleE_thousand hl]
      obtain ⟨zb, zo, zc, rfl, hzp⟩ := hz.addr hl
      obtain ⟨cb, co, cc, hvv, hcp⟩ := V5.out.addr hl
      simp only [Value.slice.injEq] at hvv
      obtain ⟨rfl, rfl, rfl⟩ := hvv
      have HZ := Lib.hid hzp
      have HCP := Lib.hid hcp
      have n2 := hl.len2
      have HS : Hid (l.scaleE b = 0 → l.scaleE a = 0 → _) := fun h1 h2 => scales_time (pk := pk) (cur := cur) hAB h1 h2
      clear he hl hz hzp hcp V5 Z5
      obtain ⟨N, hN⟩ : ∃ N, l.length = N := ⟨_, rfl⟩
      have HN := Lib.hid hN
      rw [hN] at n2 ⊢
      clear hN
      go_wp2_with fail
      go_loopw [79] (fun i wr => ∃ k : Nat, k ≤ N ∧ i = .int .i64 k ∧ Hid (Below w5.heap.size w5 wr)) (fun i _ => N - (intOf i).toNat)
      case atStart => exact ⟨0, Nat.zero_le _, rfl, Below.refl _ _⟩
      case round =>
        obtain ⟨k, hk, rfl, hb⟩ := hrel
        by_cases hlt : k < N
        · have a0 := ((HZ.out.below hb.out).2 k (by rw [HN.out]; exact hlt)).1
          have a1 := ((HZ.out.below hb.out).2 k (by rw [HN.out]; exact hlt)).2
          have c0 := ((HCP.out.below hb.out).2 k (by rw [HN.out]; exact hlt)).1
          have c1 := ((HCP.out.below hb.out).2 k (by rw [HN.out]; exact hlt)).2
          obtain ⟨xm, xt, hx⟩ : ∃ xm xt, l.pt k = (xm, xt) := ⟨_, _, rfl⟩
          rw [hx] at a0 a1 c0 c1
          clear hx
          simp only at a0 a1 c0 c1
          go_wp2
          refine wp_region_quiet_lit (by kernel_rfl) (by kernel_rfl) ?_
          repeat (first | go_big_quiet_step (fail) | (go_big_quiet_want; go_simp; go_big_quiet_on))
          refine wpQuiet_nil ?_
          intro _ hw'
          obtain ⟨nq, hw''⟩ := hw'
          subst hw''
          go_wp2
          go_roundw
          case rel => exact ⟨k + 1, by omega, by go_num, below_drewN hb.out _⟩
          case measure => simp [intOf]; omega
        · have B6 := Lib.hid (belowT B5.out hb.out)
          have X6 : Hid ((l.scaleE b ≠ 0 → x = .slice none 0 0) ∧ (l.scaleE b = 0 → PVal wr x (l.scaled b))) := ⟨X5.out.1, fun h => (X5.out.2 h).below hb.out⟩
          have Y6 : Hid ((l.scaleE a ≠ 0 → y = .slice none 0 0) ∧ (l.scaleE a = 0 → PVal wr y (l.scaled a))) := ⟨Y5.out.1, fun h => (Y5.out.2 h).below hb.out⟩
          clear hb B5 X5 Y5 HZ HCP
          by_cases hA : l.scaleE b = 0
          · by_cases hB : l.scaleE a = 0
            · have S1 := Lib.hid (HS.out hA hB)
              have px := X6.out.2 hA
              have py := Y6.out.2 hB
              rw [hA, hB]
              obtain ⟨_, _, _, rfl⟩ := px.slice
              obtain ⟨_, _, _, rfl⟩ := py.slice
              have PX := Lib.hid px
              have PY := Lib.hid py
              clear px py hA hB X6 Y6
              go_wp2_with fail
              refine (time_c _ (l.scaled b) pk cur _ PX.out).mono ?_; rintro e w7 ⟨rfl, b7⟩
              have B7 := Lib.hid (belowT B6.out b7)
              have PY7 := Lib.hid (PY.out.below b7)
              clear b7 PX PY B6
              unfold two
              have s1 := S1.out
              obtain ⟨R1, hR1⟩ : ∃ R, (l.scaled b).timeR pk cur = R := ⟨_, rfl⟩
              obtain ⟨t, e1⟩ := R1
              rw [hR1] at s1 ⊢
              clear hR1 S1
              have S1 := Lib.hid s1
              clear s1
              go_wp2_with fail
              refine (time_c _ (l.scaled a) pk cur _ PY7.out).mono ?_; rintro e w8 ⟨rfl, b8⟩
              have B8 := Lib.hid (belowT B7.out b8)
              clear b8 PY7 B7
              unfold two
              have s1 := S1.out
              obtain ⟨R2, hR2⟩ : ∃ R, (l.scaled a).timeR pk cur = R := ⟨_, rfl⟩
              obtain ⟨u, e2⟩ := R2
              rw [hR2] at s1 ⊢
              clear hR2 S1
              simp only at s1 ⊢
              obtain ⟨s1, s2⟩ := s1
              subst s1
              go_wp2
              go_ret
              exact ⟨rfl, B8.out⟩
            · have g0 : (l.scaleE a != 0) = true := by simpa using hB
              rw [hA]
              have y0 := Y6.out.1 hB
              have px := X6.out.2 hA
              obtain ⟨_, _, _, rfl⟩ := px.slice
              subst y0
              generalize l.scaleE a = EB at *
              clear hA hB X6 Y6 HS px
              go_wp2
              go_ret
              exact ⟨rfl, B6.out⟩
          · have g0 : (l.scaleE b != 0) = true := by simpa using hA
            have x0 := X6.out.1 hA
            have yv : ∃ a n c, y = .slice a n c := by
              by_cases hB : l.scaleE a = 0
              · exact (Y6.out.2 hB).slice
              · exact ⟨_, _, _, Y6.out.1 hB⟩
            obtain ⟨_, _, _, rfl⟩ := yv
            subst x0
            generalize l.scaleE b = EA at *
            generalize l.scaleE a = EB at *
            clear hA X6 Y6 HS
            go_wp2
            go_ret
            exact ⟨rfl, B6.out⟩
    · have x0 := X5.out.1 (by rw [scaleE_bad he]; exact he)
      have y0 := Y5.out.1 (by rw [scaleE_bad he]; exact he)
      have z0 := Z5.out.1 (by rw [scaleE_bad he]; exact he)
      rw [scaleE_bad he, scaleE_bad he, scaleE_bad he]
      subst x0 y0 z0
      have g0 : (l.err != 0) = true := by simpa using he
      generalize l.err = E at *
      clear he X5 Y5 Z5
      go_wp2
      go_ret
      exact ⟨rfl, B5.out⟩
  · have hAB : a ≤ b := by omega
    go_wp2_with fail
    refine (scale_c _ l a _ V1.out).mono ?_; rintro e w2 ⟨x, rfl, b2, x0, x1⟩
    have B2 := Lib.hid (belowT B1.out b2)
    have V2 := Lib.hid (V1.out.below b2)
    have X2 := Lib.hid (And.intro x0 x1)
    clear b2 V1 B1 x0 x1
    go_wp2_with fail
    refine (scale_c _ l b _ V2.out).mono ?_; rintro e w3 ⟨y, rfl, b3, y0, y1⟩
    have B3 := Lib.hid (belowT B2.out b3)
    have V3 := Lib.hid (V2.out.below b3)
    have X3 : Hid ((l.scaleE a ≠ 0 → x = .slice none 0 0) ∧ (l.scaleE a = 0 → PVal w3 x (l.scaled a))) := ⟨X2.out.1, fun h => (X2.out.2 h).below b3⟩
    have Y3 := Lib.hid (And.intro y0 y1)
    clear b3 V2 B2 X2 y0 y1
    go_wp2_with fail
    refine (scale_c _ l 1000 _ V3.out).mono ?_; rintro e w4 ⟨z, rfl, b4, z0, z1⟩
    have B4 := Lib.hid (belowT B3.out b4)
    have V4 := Lib.hid (V3.out.below b4)
    have X4 : Hid ((l.scaleE a ≠ 0 → x = .slice none 0 0) ∧ (l.scaleE a = 0 → PVal w4 x (l.scaled a))) := ⟨X3.out.1, fun h => (X3.out.2 h).below b4⟩
    have Y4 : Hid ((l.scaleE b ≠ 0 → y = .slice none 0 0) ∧ (l.scaleE b = 0 → PVal w4 y (l.scaled b))) := ⟨Y3.out.1, fun h => (Y3.out.2 h).below b4⟩
    have Z4 := Lib.hid (And.intro z0 z1)
    clear b4 V3 B3 X3 Y3 z0 z1
    go_wp2_with fail
    refine (curveCheck_c _ l _ V4.out).mono ?_; rintro e w5 ⟨rfl, b5⟩
    have B5 := Lib.hid (belowT B4.out b5)
    have V5 := Lib.hid (V4.out.below b5)
    have X5 : Hid ((l.scaleE a ≠ 0 → x = .slice none 0 0) ∧ (l.scaleE a = 0 → PVal w5 x (l.scaled a))) := ⟨X4.out.1, fun h => (X4.out.2 h).below b5⟩
    have Y5 : Hid ((l.scaleE b ≠ 0 → y = .slice none 0 0) ∧ (l.scaleE b = 0 → PVal w5 y (l.scaled b))) := ⟨Y4.out.1, fun h => (Y4.out.2 h).below b5⟩
    have Z5 : Hid ((l.scaleE 1000 ≠ 0 → z = .slice none 0 0) ∧ (l.scaleE 1000 = 0 → PVal w5 z (l.scaled 1000))) := ⟨Z4.out.1, fun h => (Z4.out.2 h).below b5⟩
    clear b5 V4 B4 X4 Y4 Z4
    by_cases he : l.err = 0
    · have hl := (Pts.err_zero l).1 he
      have hz := Z5.out.2 (Pts.scaleE_thousand hl)
      rw [Pts.scaled_thousand] at hz
      rw [he, Pts.scaleE_thousand hl]
      obtain ⟨zb, zo, zc, rfl, hzp⟩ := hz.addr hl
      obtain ⟨cb, co, cc, hvv, hcp⟩ := V5.out.addr hl
      simp only [Value.slice.injEq] at hvv
      obtain ⟨rfl, rfl, rfl⟩ := hvv
      have HZ := Lib.hid hzp
      have HCP := Lib.hid hcp
      have n2 := hl.len2
      have HS : Hid (l.scaleE a = 0 → l.scaleE b = 0 → _) := fun h1 h2 => scales_time (pk := pk) (cur := cur) hAB h1 h2
      clear he hl hz hzp hcp V5 Z5
      obtain ⟨N, hN⟩ : ∃ N, l.length = N := ⟨_, rfl⟩
      have HN := Lib.hid hN
      rw [hN] at n2 ⊢
      clear hN
      go_wp2_with fail
      go_loopw [79] (fun i wr => ∃ k : Nat, k ≤ N ∧ i = .int .i64 k ∧ Hid (Below w5.heap.size w5 wr)) (fun i _ => N - (intOf i).toNat)
      case atStart => exact ⟨0, Nat.zero_le _, rfl, Below.refl _ _⟩
      case round =>
        obtain ⟨k, hk, rfl, hb⟩ := hrel
        by_cases hlt : k < N
        · have a0 := ((HZ.out.below hb.out).2 k (by rw [HN.out]; exact hlt)).1
          have a1 := ((HZ.out.below hb.out).2 k (by rw [HN.out]; exact hlt)).2
          have c0 := ((HCP.out.below hb.out).2 k (by rw [HN.out]; exact hlt)).1
          have c1 := ((HCP.out.below hb.out).2 k (by rw [HN.out]; exact hlt)).2
          obtain ⟨xm, xt, hx⟩ : ∃ xm xt, l.pt k = (xm, xt) := ⟨_, _, rfl⟩
          rw [hx] at a0 a1 c0 c1
          clear hx
          simp only at a0 a1 c0 c1
          go_wp2
          refine wp_region_quiet_lit (by kernel_rfl) (by kernel_rfl) ?_
          repeat (first | go_big_quiet_step (fail) | (go_big_quiet_want; go_simp; go_big_quiet_on))
          refine wpQuiet_nil ?_
          intro _ hw'
          obtain ⟨nq, hw''⟩ := hw'
          subst hw''
          go_wp2
          go_roundw
          case rel => exact ⟨k + 1, by omega, by go_num, below_drewN hb.out _⟩
          case measure => simp [intOf]; omega
        · have B6 := Lib.hid (belowT B5.out hb.out)
          have X6 : Hid ((l.scaleE a ≠ 0 → x = .slice none 0 0) ∧ (l.scaleE a = 0 → PVal wr x (l.scaled a))) := ⟨X5.out.1, fun h => (X5.out.2 h).below hb.out⟩
          have Y6 : Hid ((l.scaleE b ≠ 0 → y = .slice none 0 0) ∧ (l.scaleE b = 0 → PVal wr y (l.scaled b))) := ⟨Y5.out.1, fun h => (Y5.out.2 h).below hb.out⟩
          clear hb B5 X5 Y5 HZ HCP
          by_cases hA : l.scaleE a = 0
          · by_cases hB : l.scaleE b = 0
            · have S1 := Lib.hid (HS.out hA hB)
              have px := X6.out.2 hA
              have py := Y6.out.2 hB
              rw [hA, hB]
              obtain ⟨_, _, _, rfl⟩ := px.slice
              obtain ⟨_, _, _, rfl⟩ := py.slice
              have PX := Lib.hid px
              have PY := Lib.hid py
              clear px py hA hB X6 Y6
              go_wp2_with fail
              refine (time_c _ (l.scaled a) pk cur _ PX.out).mono ?_; rintro e w7 ⟨rfl, b7⟩
              have B7 := Lib.hid (belowT B6.out b7)
              have PY7 := Lib.hid (PY.out.below b7)
              clear b7 PX PY B6
              unfold two
              have s1 := S1.out
              obtain ⟨R1, hR1⟩ : ∃ R, (l.scaled a).timeR pk cur = R := ⟨_, rfl⟩
              obtain ⟨t, e1⟩ := R1
              rw [hR1] at s1 ⊢
              clear hR1 S1
              have S1 := Lib.hid s1
              clear s1
              go_wp2_with fail
              refine (time_c _ (l.scaled b) pk cur _ PY7.out).mono ?_; rintro e w8 ⟨rfl, b8⟩
              have B8 := Lib.hid (belowT B7.out b8)
              clear b8 PY7 B7
              unfold two
              have s1 := S1.out
              obtain ⟨R2, hR2⟩ : ∃ R, (l.scaled b).timeR pk cur = R := ⟨_, rfl⟩
              obtain ⟨u, e2⟩ := R2
              rw [hR2] at s1 ⊢
              clear hR2 S1
              simp only at s1 ⊢
              obtain ⟨s1, s2⟩ := s1
              subst s1
              go_wp2
              go_ret
              exact ⟨rfl, B8.out⟩
            · have g0 : (l.scaleE b != 0) = true := by simpa using hB
              rw [hA]
              have y0 := Y6.out.1 hB
              have px := X6.out.2 hA
              obtain ⟨_, _, _, rfl⟩ := px.slice
              subst y0
              generalize l.scaleE b = EB at *
              clear hA hB X6 Y6 HS px
              go_wp2
              go_ret
              exact ⟨rfl, B6.out⟩
          · have g0 : (l.scaleE a != 0) = true := by simpa using hA
            have x0 := X6.out.1 hA
            have yv : ∃ a n c, y = .slice a n c := by
              by_cases hB : l.scaleE b = 0
              · exact (Y6.out.2 hB).slice
              · exact ⟨_, _, _, Y6.out.1 hB⟩
            obtain ⟨_, _, _, rfl⟩ := yv
            subst x0
            generalize l.scaleE a = EA at *
            generalize l.scaleE b = EB at *
            clear hA X6 Y6 HS
            go_wp2
            go_ret
            exact ⟨rfl, B6.out⟩
    · have x0 := X5.out.1 (by rw [scaleE_bad he]; exact he)
      have y0 := Y5.out.1 (by rw [scaleE_bad he]; exact he)
      have z0 := Z5.out.1 (by rw [scaleE_bad he]; exact he)
      rw [scaleE_bad he, scaleE_bad he, scaleE_bad he]
      subst x0 y0 z0
      have g0 : (l.err != 0) = true := by simpa using he
      generalize l.err = E at *
      clear he X5 Y5 Z5
      go_wp2
      go_ret
      exact ⟨rfl, B5.out⟩
end Go.Proofs.Ytjkgkoedkphnjaa
