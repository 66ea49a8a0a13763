/- rat: Add. -/
import Derived.Test.YthcddboeejbncaaPkRat1Rat2
import Derived.Deep.RegionHeldLaw
namespace Go.Proofs.Ythcddboeejbncaa
open Go.RowKit

theorem belowB {B : Nat} {W0 W W' : World} (h : Below B W0 W) (hB : B ≤ W0.heap.size) (k : Below W.heap.size W W') : Below B W0 W' := h.trans (k.mono (Nat.le_trans hB h.size))
theorem below_drew0 (B : Nat) (w : World) : Below B w w.drew := ⟨rfl, rfl, rfl, Nat.le_refl _, fun _ _ => rfl⟩
theorem QC.den {w : World} {ng : Bool} {vn vd : Value} {q : Rat} (h : QC w ng vn vd q) (h0 : q ≠ 0) : NV w vd q.den := by
  rcases h.2.2 with h | h
  · exact h
  · exact absurd h.1 h0
set_option maxRecDepth 100000 in
set_option maxHeartbeats 8000000 in
theorem radd_c (np nq : Bool) (vp dp vq dq : Value) (p q : Rat) (w : World) (hp : QC w np vp dp p) (hq : QC w nq vq dq q) (sp : sz p ≤ 1000000000000) (sq : sz q ≤ 1000000000000) :
    Calls Try.prog 82 #[.agg #[.bool np, vp, dp], .agg #[.bool nq, vq, dq]] w fun e w' => (∃ v, e = .returned v ∧ QV w' v (p + q)) ∧ Below w.heap.size w w' := by
  have HP := Lib.hid hp
  have HQ := Lib.hid hq
  obtain ⟨pa, pc, pda, pdl, pdc, rfl, rfl, _⟩ := hp.parts
  obtain ⟨qa, qc, qda, qdl, qdc, rfl, rfl, _⟩ := hq.parts
  obtain ⟨n, hn⟩ : ∃ n, ln p.num.natAbs = n := ⟨_, rfl⟩
  obtain ⟨m, hm⟩ : ∃ n, ln q.num.natAbs = n := ⟨_, rfl⟩
  rw [hn] at HP ⊢
  rw [hm] at HQ ⊢
  have HNP := Lib.hid hp.1
  have HNQ := Lib.hid hq.1
  have B3 := Lib.hid (belowA (belowA (belowA (Below.refl w.heap.size w) (.cells #[.bool np, .slice pa n pc, .slice pda pdl pdc] 80)) (.cells #[.bool nq, .slice qa m qc, .slice qda qdl qdc] 80)) (.cells #[.bool false, .slice none 0 0, .slice none 0 0] 80))
  by_cases hp0 : p = 0
  · have hz : n = 0 := by rw [← hn, num_zero.2 hp0]; exact ln_zero
    subst hz
    have HR : Hid (p + q = q) := by show _ = _; rw [hp0]; exact Rat.zero_add q
    clear hn hm hp hq hp0 sp sq
    go_enter Try.func82, Try.ntmps82
    go_wp2_with fail
    (try simp only [Exit.inBlock, Exit.then])
    refine bodyPost_ret (v := .agg #[.bool nq, .slice qa m qc, .slice qda qdl qdc]) ?_ rfl ⟨⟨_, rfl, _, _, _, rfl, ?_⟩, ?_⟩
    · rw [results_cell rfl]
      go_simp
    · rw [HR.out]
      exact HQ.out.below (belowA (belowA (belowA (Below.refl _ _) _) _) _)
    · exact belowA (belowA (belowA (Below.refl _ _) _) _) _
  · have hz : 0 < n := by rw [← hn]; exact ln_pos (Nat.pos_of_ne_zero fun h => hp0 (num_zero.1 h))
    have q1 : ((n : Int) == 0) = false := by rw [beq_eq_false_iff_ne]; omega
    by_cases hq0 : q = 0
    · have hy : m = 0 := by rw [← hm, num_zero.2 hq0]; exact ln_zero
      subst hy
      have HR : Hid (p + q = p) := by show _ = _; rw [hq0]; exact Rat.add_zero p
      clear hn hm hp hq hq0 sp sq
      go_enter Try.func82, Try.ntmps82
      go_wp2_with fail
      (try simp only [Exit.inBlock, Exit.then])
      refine bodyPost_ret (v := .agg #[.bool np, .slice pa n pc, .slice pda pdl pdc]) ?_ rfl ⟨⟨_, rfl, _, _, _, rfl, ?_⟩, ?_⟩
      · rw [results_cell rfl]
        go_simp
      · rw [HR.out]
        exact HP.out.below (belowA (belowA (belowA (Below.refl _ _) _) _) _)
      · exact belowA (belowA (belowA (Below.refl _ _) _) _) _
    · have hy : 0 < m := by rw [← hm]; exact ln_pos (Nat.pos_of_ne_zero fun h => hq0 (num_zero.1 h))
      have q2 : ((m : Int) == 0) = false := by rw [beq_eq_false_iff_ne]; omega
      obtain ⟨W0, hW0⟩ : ∃ W, ((w.alloc (.cells #[.bool np, .slice pa n pc, .slice pda pdl pdc] 80)).alloc (.cells #[.bool nq, .slice qa m qc, .slice qda qdl qdc] 80)).alloc (.cells #[.bool false, .slice none 0 0, .slice none 0 0] 80) = W := ⟨_, rfl⟩
      have KP := Lib.hid (((Blk.new w #[.bool np, .slice pa n pc, .slice pda pdl pdc] 80).alloc (.cells #[.bool nq, .slice qa m qc, .slice qda qdl qdc] 80)).alloc (.cells #[.bool false, .slice none 0 0, .slice none 0 0] 80))
      have KQ := Lib.hid ((Blk.new2 w (.cells #[.bool np, .slice pa n pc, .slice pda pdl pdc] 80) #[.bool nq, .slice qa m qc, .slice qda qdl qdc] 80).alloc (.cells #[.bool false, .slice none 0 0, .slice none 0 0] 80))
      have KR := Lib.hid (Blk.new2 (w.alloc (.cells #[.bool np, .slice pa n pc, .slice pda pdl pdc] 80)) (.cells #[.bool nq, .slice qa m qc, .slice qda qdl qdc] 80) #[.bool false, .slice none 0 0, .slice none 0 0] 80)
      rw [World.size_alloc] at KR
      have hs0 : W0.heap.size = w.heap.size + 3 := by rw [← hW0]; simp only [World.size_alloc]
      have HW0 := Lib.hid hW0
      rw [hW0] at B3 KP KQ KR
      clear hW0
      obtain ⟨B, hB⟩ : ∃ B, w.heap.size + 3 = B := ⟨_, rfl⟩
      have hBS : B ≤ W0.heap.size := by omega
      have hwB : w.heap.size ≤ B := by omega
      have HBB := Lib.hid hB
      have HS0 := Lib.hid hs0
      have hwb := fun W (h : Below B W0 W) => B3.out.trans (h.mono hwB)
      have HWB := Lib.hid hwb
      have HSB : Hid (∀ W, Below B W0 W → (W.cell? ⟨w.heap.size, 0, none⟩ = some (.bool np) ∧ W.cell? ⟨w.heap.size, 1, none⟩ = some (.slice pa n pc) ∧ W.cell? ⟨w.heap.size, 2, none⟩ = some (.slice pda pdl pdc) ∧ W.cell? ⟨w.heap.size + 1, 0, none⟩ = some (.bool nq) ∧ W.cell? ⟨w.heap.size + 1, 1, none⟩ = some (.slice qa m qc) ∧ W.cell? ⟨w.heap.size + 1, 2, none⟩ = some (.slice qda qdl qdc))) := fun W hW => by
        have k1 := below_blk hW KP.out (by omega)
        have k2 := below_blk hW KQ.out (by omega)
        exact ⟨k1.cell 0 rfl, k1.cell 1 rfl, k1.cell 2 rfl, k2.cell 0 rfl, k2.cell 1 rfl, k2.cell 2 rfl⟩
      have HWP : Hid (∀ W, Below B W0 W → Calls Try.prog 91 #[.agg #[.bool np, .slice pa n pc, .slice pda pdl pdc]] W fun e w' => (∃ v, e = .returned v ∧ NV w' v p.den) ∧ Below W.heap.size W w') := fun W hW => whole_c _ _ _ p W (HP.out.below (hwb W hW))
      have HWQ : Hid (∀ W, Below B W0 W → Calls Try.prog 91 #[.agg #[.bool nq, .slice qa m qc, .slice qda qdl qdc]] W fun e w' => (∃ v, e = .returned v ∧ NV w' v q.den) ∧ Below W.heap.size W w') := fun W hW => whole_c _ _ _ q W (HQ.out.below (hwb W hW))
      have hsn1 := sz_num p
      have hsd1 := sz_den p
      have hsn2 := sz_num q
      have hsd2 := sz_den q
      have HX1 : Hid (∀ v W, Below B W0 W → NV W v q.den → Calls Try.prog 90 #[.slice pa n pc, v] W fun e w' => (∃ v', e = .returned v' ∧ NO W.heap.size w' v' (p.num.natAbs * q.den)) ∧ Below W.heap.size W w') := fun v W hW hv => nmul_c _ v _ _ W (HP.out.below (hwb W hW)).2.1 hv (by omega) (by omega)
      have HX2 : Hid (∀ v W, Below B W0 W → NV W v p.den → Calls Try.prog 90 #[.slice qa m qc, v] W fun e w' => (∃ v', e = .returned v' ∧ NO W.heap.size w' v' (q.num.natAbs * p.den)) ∧ Below W.heap.size W w') := fun v W hW hv => nmul_c _ v _ _ W (HQ.out.below (hwb W hW)).2.1 hv (by omega) (by omega)
      have HX3 : Hid (∀ v v' W, NV W v p.den → NV W v' q.den → Calls Try.prog 90 #[v, v'] W fun e w' => (∃ u, e = .returned u ∧ NO W.heap.size w' u (p.den * q.den)) ∧ Below W.heap.size W w') := fun v v' W hv hv' => nmul_c v v' _ _ W hv hv' (by omega) (by omega)
      have D0 := Lib.hid (below_drew0 B W0)
      have HKR : Hid (∀ W, Below B W0 W → Blk W (w.heap.size + 1 + 1) #[.bool false, .slice none 0 0, .slice none 0 0] 80) := fun W hW => below_blk hW KR.out (by omega)
      clear hB hs0 hwb hn hm hp hq hsn1 hsd1 hsn2 hsd2
      go_enter Try.func82, Try.ntmps82
      go_upto_region 5 with fail
      rw [HW0.out]
      go_cut [5, 6] from 20 to 29 (fun s5 s6 wx => ∃ a5 c5 a6 c6, s5 = .slice a5 (ln (p.num.natAbs * q.den)) c5 ∧ s6 = .slice a6 (ln (q.num.natAbs * p.den)) c6 ∧ Hid (NV wx (.slice a5 (ln (p.num.natAbs * q.den)) c5) (p.num.natAbs * q.den)) ∧ Hid (NV wx (.slice a6 (ln (q.num.natAbs * p.den)) c6) (q.num.natAbs * p.den)) ∧ Hid (Below B W0 wx))
      case first =>
        go_region_held3 (fun W => (W.cell? ⟨w.heap.size, 0, none⟩ = some (.bool np) ∧ W.cell? ⟨w.heap.size, 1, none⟩ = some (.slice pa n pc) ∧ W.cell? ⟨w.heap.size, 2, none⟩ = some (.slice pda pdl pdc) ∧ W.cell? ⟨w.heap.size + 1, 0, none⟩ = some (.bool nq) ∧ W.cell? ⟨w.heap.size + 1, 1, none⟩ = some (.slice qa m qc) ∧ W.cell? ⟨w.heap.size + 1, 2, none⟩ = some (.slice qda qdl qdc)))
          (first
            | exact HSB.out _ D0.out
            | exact HSB.out _ D1.out
            | exact HSB.out _ D2.out
            | exact HSB.out _ D3.out
            | exact HSB.out _ D4.out)
          (first
            | (go_at_call 91; ((with_reducible refine (HWQ.out _ D0.out).mono ?_); rintro e w1 ⟨⟨v1, rfl, hn1⟩, hb1⟩; have D1 := Lib.hid (belowB D0.out hBS hb1); have N1 := Lib.hid hn1; clear hb1 hn1))
            | (go_at_call 90; ((with_reducible refine (HX1.out v1 w1 D1.out N1.out).mono ?_); rintro e w2 ⟨⟨v2, rfl, hn2⟩, hb2⟩; obtain ⟨a2, c2, rfl⟩ := hn2.nv.slice; have D2 := Lib.hid (belowB D1.out hBS hb2); have N2 := Lib.hid hn2.nv; clear hb2 hn2))
            | (go_at_call 91; ((with_reducible refine (HWP.out _ D2.out).mono ?_); rintro e w3 ⟨⟨v3, rfl, hn3⟩, hb3⟩; have D3 := Lib.hid (belowB D2.out hBS hb3); have N3 := Lib.hid hn3; have N23 := Lib.hid (N2.out.below hb3); clear hb3 hn3))
            | (go_at_call 90; ((with_reducible refine (HX2.out v3 w3 D3.out N3.out).mono ?_); rintro e w4 ⟨⟨v4, rfl, hn4⟩, hb4⟩; obtain ⟨a4, c4, rfl⟩ := hn4.nv.slice; have D4 := Lib.hid (belowB D3.out hBS hb4); have N4 := Lib.hid hn4.nv; have N24 := Lib.hid (N23.out.below hb4); clear hb4 hn4)))
        all_goals
          go_simp
          go_wp2_with fail
          go_meet
          exact ⟨a2, c2, a4, c4, rfl, rfl, N24, N4, D4⟩
      case rest =>
        obtain ⟨a5, c5, a6, c6, rfl, rfl, N5, N6, HD⟩ := hcut
        have D0' := Lib.hid (belowB HD.out hBS (below_drew0 wc.heap.size wc))
        have D00 := D0'
        have E5 := Lib.hid (N5.out.below (below_drew0 wc.heap.size wc))
        have E6 := Lib.hid (N6.out.below (below_drew0 wc.heap.size wc))
        clear N5 N6 D0 HX1 HX2
        go_upto_region 6 with fail
        obtain ⟨wd, hwd⟩ : ∃ W, wc.drew = W := ⟨_, rfl⟩
        rw [hwd] at D0' E5 E6
        go_cut [7] from 30 to 34 (fun s7 wx => ∃ a7 c7, s7 = .slice a7 (ln (p.den * q.den)) c7 ∧ Hid (NV wx (.slice a7 (ln (p.den * q.den)) c7) (p.den * q.den)) ∧ Hid (NV wx (.slice a5 (ln (p.num.natAbs * q.den)) c5) (p.num.natAbs * q.den)) ∧ Hid (NV wx (.slice a6 (ln (q.num.natAbs * p.den)) c6) (q.num.natAbs * p.den)) ∧ Hid (Below B W0 wx))
        case first =>
          go_region_held3 (fun W => (W.cell? ⟨w.heap.size, 0, none⟩ = some (.bool np) ∧ W.cell? ⟨w.heap.size, 1, none⟩ = some (.slice pa n pc) ∧ W.cell? ⟨w.heap.size, 2, none⟩ = some (.slice pda pdl pdc) ∧ W.cell? ⟨w.heap.size + 1, 0, none⟩ = some (.bool nq) ∧ W.cell? ⟨w.heap.size + 1, 1, none⟩ = some (.slice qa m qc) ∧ W.cell? ⟨w.heap.size + 1, 2, none⟩ = some (.slice qda qdl qdc)))
            (first
              | exact HSB.out _ D00.out
              | exact HSB.out _ D0'.out
              | exact HSB.out _ D1.out
              | exact HSB.out _ D2.out
              | exact HSB.out _ D3.out)
            (first
              | (go_at_call 91; ((with_reducible refine (HWP.out _ D0'.out).mono ?_); rintro e w1 ⟨⟨v1, rfl, hn1⟩, hb1⟩; have D1 := Lib.hid (belowB D0'.out hBS hb1); have N1 := Lib.hid hn1; have E51 := Lib.hid (E5.out.below hb1); have E61 := Lib.hid (E6.out.below hb1); clear hb1 hn1))
              | (go_at_call 91; ((with_reducible refine (HWQ.out _ D1.out).mono ?_); rintro e w2 ⟨⟨v2, rfl, hn2⟩, hb2⟩; have D2 := Lib.hid (belowB D1.out hBS hb2); have N2 := Lib.hid hn2; have N12 := Lib.hid (N1.out.below hb2); have E52 := Lib.hid (E51.out.below hb2); have E62 := Lib.hid (E61.out.below hb2); clear hb2 hn2))
              | (go_at_call 90; ((with_reducible refine (HX3.out v1 v2 w2 N12.out N2.out).mono ?_); rintro e w3 ⟨⟨v3, rfl, hn3⟩, hb3⟩; obtain ⟨a3, c3, rfl⟩ := hn3.nv.slice; have D3 := Lib.hid (belowB D2.out hBS hb3); have N3 := Lib.hid hn3.nv; have E53 := Lib.hid (E52.out.below hb3); have E63 := Lib.hid (E62.out.below hb3); clear hb3 hn3)))
          all_goals
            go_simp
            go_wp2_with fail
            go_meet
            exact ⟨a3, c3, rfl, N3, E53, E63, D3⟩
        case rest =>
          clear hwd E5 E6 D0' D00 HX3
          obtain ⟨a7, c7, rfl, N7, N5, N6, HD⟩ := hcut
          have HWC := Lib.hid (HWB.out wc HD.out)
          have KR1 : Hid (Blk wc (w.heap.size + 1 + 1) #[.bool false, .slice none 0 0, .slice none 0 0] 80) := HKR.out wc HD.out
          have ys := HSB.out wc HD.out
          obtain ⟨z0, z1, z2, z3, z4, z5⟩ := ys
          have hxl : ln (p.num.natAbs * q.den) ≤ 2000000000000 := by
            have h1 := ln_mul p.num.natAbs q.den
            have h2 := sz_num p; have h3 := sz_den q
            omega
          have hyl : ln (q.num.natAbs * p.den) ≤ 2000000000000 := by
            have h1 := ln_mul q.num.natAbs p.den
            have h2 := sz_num q; have h3 := sz_den p
            omega
          have hdl : ln (p.den * q.den) ≤ 2000000000000 := by
            have h1 := ln_mul p.den q.den
            have h2 := sz_den q; have h3 := sz_den p
            omega
          have hd0 : 0 < p.den * q.den := Nat.mul_pos (den_pos p) (den_pos q)
          by_cases hs : np = nq
          · have q3 : (np == nq) = true := by rw [hs]; simp
            have HRES : Hid (p + q = mkRat (sg np (p.num.natAbs * q.den + q.num.natAbs * p.den)) (p.den * q.den)) := by
              show _ = _
              rw [add_same p q (by rw [← HNP.out, ← HNQ.out]; exact hs), ← HNP.out]
            have HNUM : Hid (∀ W, Below wc.heap.size wc W → Calls Try.prog 93 #[.slice a5 (ln (p.num.natAbs * q.den)) c5, .slice a6 (ln (q.num.natAbs * p.den)) c6] W fun e w' => (∃ v', e = .returned v' ∧ NO W.heap.size w' v' (p.num.natAbs * q.den + q.num.natAbs * p.den)) ∧ Below W.heap.size W w') := fun W hW => nadd_c _ _ _ _ W (N5.out.below hW) (N6.out.below hW) (by omega) (by omega)
            have hnl : ln (p.num.natAbs * q.den + q.num.natAbs * p.den) ≤ 10000000000000 := by
              have := ln_add (p.num.natAbs * q.den) (q.num.natAbs * p.den); omega
            have HLOW : Hid (∀ v W, Below wc.heap.size wc W → NV W v (p.num.natAbs * q.den + q.num.natAbs * p.den) → Calls Try.prog 89 #[.bool np, v, .slice a7 (ln (p.den * q.den)) c7] W fun e w' => (∃ v, e = .returned v ∧ QV w' v (mkRat (sg np (p.num.natAbs * q.den + q.num.natAbs * p.den)) (p.den * q.den))) ∧ Below W.heap.size W w') := fun v W hW hv => low_c np v _ _ _ W hv (N7.out.below hW) hnl (by omega) hd0
            have E0 := Lib.hid (below_drew0 wc.heap.size wc)
            have HSC : Hid (∀ W, Below wc.heap.size wc W → (W.cell? ⟨w.heap.size, 0, none⟩ = some (.bool np) ∧ W.cell? ⟨w.heap.size + 1, 0, none⟩ = some (.bool nq))) := fun W hW => by
              have h := HSB.out W (belowB HD.out hBS hW)
              exact ⟨h.1, h.2.2.2.1⟩
            clear hs hnl hxl hyl hdl hd0 sp sq HSB HWP HWQ HKR
            go_upto_region 8 with fail
            clear z0 z1 z2 z3 z4 z5
            go_region_held3 (fun W => (W.cell? ⟨w.heap.size, 0, none⟩ = some (.bool np) ∧ W.cell? ⟨w.heap.size + 1, 0, none⟩ = some (.bool nq)))
              (first
                | exact HSC.out _ E0.out
                | exact HSC.out _ E1.out
                | exact HSC.out _ E2.out
                | exact HSF.out)
              (first
                | (go_at_call 93; ((with_reducible refine (HNUM.out _ E0.out).mono ?_); rintro e w1 ⟨⟨v1, rfl, hn1⟩, hb1⟩; have E1 := Lib.hid (belowT E0.out hb1); have M1 := Lib.hid hn1.nv; clear hb1 hn1))
                | (go_at_call 89; ((with_reducible refine (HLOW.out v1 w1 E1.out M1.out).mono ?_); rintro e w2 ⟨⟨v2, rfl, rg, rn, rd, rfl, hqc⟩, hb2⟩; obtain ⟨ra, rc, rda, rdl, rdc, rfl, rfl, _⟩ := hqc.parts; have E2 := Lib.hid (belowT E1.out hb2); have HQC := Lib.hid hqc; have k2 := below_blk E2.out KR1.out KR1.out.lt; have HK2 := Lib.hid k2; have y0 := k2.cell 0 rfl; have y1 := k2.cell 1 rfl; have y2 := k2.cell 2 rfl; have f0 := k2.free 0; have f1 := k2.free 1; have f2 := k2.free 2; obtain ⟨rl, hrl⟩ : ∃ r, ln (mkRat (sg np (p.num.natAbs * q.den + q.num.natAbs * p.den)) (p.den * q.den)).num.natAbs = r := ⟨_, rfl⟩; rw [hrl] at HQC ⊢; have HBU := Lib.hid ((((But.refl (w.heap.size + 1 + 1) w2).set 0 (.bool rg)).set 1 (.slice ra rl rc)).set 2 (.slice rda rdl rdc)); have HSF : Hid ((((w2.setCell ⟨w.heap.size + 1 + 1, 0, none⟩ (.bool rg)).setCell ⟨w.heap.size + 1 + 1, 1, none⟩ (.slice ra rl rc)).setCell ⟨w.heap.size + 1 + 1, 2, none⟩ (.slice rda rdl rdc)).cell? ⟨w.heap.size, 0, none⟩ = some (.bool np) ∧ (((w2.setCell ⟨w.heap.size + 1 + 1, 0, none⟩ (.bool rg)).setCell ⟨w.heap.size + 1 + 1, 1, none⟩ (.slice ra rl rc)).setCell ⟨w.heap.size + 1 + 1, 2, none⟩ (.slice rda rdl rdc)).cell? ⟨w.heap.size + 1, 0, none⟩ = some (.bool nq)) := ⟨by rw [World.cell?_of_block (w := w2) (HBU.out.block w.heap.size (by have h1 := HK2.out.lt; omega) (by intro e; injection e with e; omega))]; exact (HSC.out w2 E2.out).1, by rw [World.cell?_of_block (w := w2) (HBU.out.block (w.heap.size + 1) (by have h1 := HK2.out.lt; omega) (by intro e; injection e with e; omega))]; exact (HSC.out w2 E2.out).2⟩; clear hb2 hqc k2 hrl)))
            all_goals
              go_simp
              go_wp2_with fail
              (try simp only [Exit.inBlock, Exit.then])
              refine bodyPost_ret (v := .agg #[.bool rg, .slice ra rl rc, .slice rda rdl rdc]) ?_ rfl ⟨⟨_, rfl, _, _, _, rfl, ?_⟩, ?_⟩
              · rw [results_cell rfl]
                go_simp
              · rw [HRES.out]
                exact ⟨HQC.out.1, HQC.out.2.1.keep HK2.out (noDig_q _ _ _ _ _ _ _) HBU.out, HQC.out.2.2.imp (fun h => h.keep HK2.out (noDig_q _ _ _ _ _ _ _) HBU.out) (fun h => ⟨h.1, h.2.keep HK2.out (noDig_q _ _ _ _ _ _ _) HBU.out⟩)⟩
              · exact (((belowT HWC.out E2.out).setCell (show w.heap.size ≤ w.heap.size + 1 + 1 by omega) _).setCell (show w.heap.size ≤ w.heap.size + 1 + 1 by omega) _).setCell (show w.heap.size ≤ w.heap.size + 1 + 1 by omega) _
          · have q3 : (np == nq) = false := by rw [beq_eq_false_iff_ne]; exact hs
            have hdne : decide (p.num < 0) ≠ decide (q.num < 0) := by rw [← HNP.out, ← HNQ.out]; exact hs
            have HCM := Lib.hid (ncmp_c _ _ _ _ wc N5.out N6.out)
            by_cases hge : q.num.natAbs * p.den ≤ p.num.natAbs * q.den
            · have HRES : Hid (p + q = mkRat (sg np (p.num.natAbs * q.den - q.num.natAbs * p.den)) (p.den * q.den)) := by
                show _ = _
                rw [add_ge p q hdne hge, ← HNP.out]
              have HNUM : Hid (∀ W, Below wc.heap.size wc W → Calls Try.prog 94 #[.slice a5 (ln (p.num.natAbs * q.den)) c5, .slice a6 (ln (q.num.natAbs * p.den)) c6] W fun e w' => (∃ v', e = .returned v' ∧ NO W.heap.size w' v' (p.num.natAbs * q.den - q.num.natAbs * p.den)) ∧ Below W.heap.size W w') := fun W hW => nsub_c _ _ _ _ W (N5.out.below hW) (N6.out.below hW) (by omega) hge
              have hnl : ln (p.num.natAbs * q.den - q.num.natAbs * p.den) ≤ 10000000000000 := Nat.le_trans (ln_mono (Nat.sub_le _ _)) (by omega)
              have hcm : 0 ≤ cmpN (p.num.natAbs * q.den) (q.num.natAbs * p.den) := by unfold cmpN; rw [if_neg (by omega)]; split <;> decide
              obtain ⟨cm, hcmE⟩ : ∃ c, cmpN (p.num.natAbs * q.den) (q.num.natAbs * p.den) = c := ⟨_, rfl⟩
              rw [hcmE] at HCM hcm
              have q4 : decide (0 ≤ cm) = true := decide_eq_true hcm
              clear hcmE
              have HLOW0 : Hid (∀ W0 v W, Below wc.heap.size wc W0 → Below W0.heap.size W0 W → NV W v (p.num.natAbs * q.den - q.num.natAbs * p.den) → Calls Try.prog 89 #[.bool np, v, .slice a7 (ln (p.den * q.den)) c7] W fun e w' => (∃ v, e = .returned v ∧ QV w' v (mkRat (sg np (p.num.natAbs * q.den - q.num.natAbs * p.den)) (p.den * q.den))) ∧ Below W.heap.size W w') := fun W0 v W hW0 hW hv => low_c np v _ _ _ W hv (N7.out.below (belowT hW0 hW)) hnl (by omega) hd0
              clear hs hnl hxl hyl hdl hd0 sp sq HWP HWQ
              go_wp2_with fail
              refine HCM.out.mono ?_; rintro e wx ⟨rfl, hbx⟩
              have HNUM0 := HNUM
              have HD0 := HD
              have HWC0 := HWC
              have KR0 := KR1
              clear HNUM HD HWC KR1 z0 z1 z2 z3 z4 z5
              have HNUM := Lib.hid (fun W (hW : Below wx.heap.size wx W) => HNUM0.out W (belowT hbx hW))
              have HLOW := Lib.hid (fun v W (hW : Below wx.heap.size wx W) => HLOW0.out wx v W hbx hW)
              have HWC := Lib.hid (belowT HWC0.out hbx)
              have KR1 := Lib.hid (below_blk hbx KR0.out KR0.out.lt)
              have HSC : Hid (∀ W, Below wx.heap.size wx W → (W.cell? ⟨w.heap.size, 0, none⟩ = some (.bool np) ∧ W.cell? ⟨w.heap.size + 1, 0, none⟩ = some (.bool nq))) := fun W hW => by
                have h := HSB.out W (belowB HD0.out hBS (belowT hbx hW))
                exact ⟨h.1, h.2.2.2.1⟩
              have E0 := Lib.hid (below_drew0 wx.heap.size wx)
              clear HNUM0 HLOW0 HWC0 KR0 HD0 hbx HSB N5 N6 N7 HCM HKR
              go_upto_region 10 with fail
              go_region_held3 (fun W => (W.cell? ⟨w.heap.size, 0, none⟩ = some (.bool np) ∧ W.cell? ⟨w.heap.size + 1, 0, none⟩ = some (.bool nq)))
                (first
                  | exact HSC.out _ E0.out
                  | exact HSC.out _ E1.out
                  | exact HSC.out _ E2.out
                  | exact HSF.out)
                (first
                  | (go_at_call 94; ((with_reducible refine (HNUM.out _ E0.out).mono ?_); rintro e w1 ⟨⟨v1, rfl, hn1⟩, hb1⟩; have E1 := Lib.hid (belowT E0.out hb1); have M1 := Lib.hid hn1.nv; clear hb1 hn1))
                  | (go_at_call 89; ((with_reducible refine (HLOW.out v1 w1 E1.out M1.out).mono ?_); rintro e w2 ⟨⟨v2, rfl, rg, rn, rd, rfl, hqc⟩, hb2⟩; obtain ⟨ra, rc, rda, rdl, rdc, rfl, rfl, _⟩ := hqc.parts; have E2 := Lib.hid (belowT E1.out hb2); have HQC := Lib.hid hqc; have k2 := below_blk E2.out KR1.out KR1.out.lt; have HK2 := Lib.hid k2; have y0 := k2.cell 0 rfl; have y1 := k2.cell 1 rfl; have y2 := k2.cell 2 rfl; have f0 := k2.free 0; have f1 := k2.free 1; have f2 := k2.free 2; obtain ⟨rl, hrl⟩ : ∃ r, ln (mkRat (sg np (p.num.natAbs * q.den - q.num.natAbs * p.den)) (p.den * q.den)).num.natAbs = r := ⟨_, rfl⟩; rw [hrl] at HQC ⊢; have HBU := Lib.hid ((((But.refl (w.heap.size + 1 + 1) w2).set 0 (.bool rg)).set 1 (.slice ra rl rc)).set 2 (.slice rda rdl rdc)); have HSF : Hid ((((w2.setCell ⟨w.heap.size + 1 + 1, 0, none⟩ (.bool rg)).setCell ⟨w.heap.size + 1 + 1, 1, none⟩ (.slice ra rl rc)).setCell ⟨w.heap.size + 1 + 1, 2, none⟩ (.slice rda rdl rdc)).cell? ⟨w.heap.size, 0, none⟩ = some (.bool np) ∧ (((w2.setCell ⟨w.heap.size + 1 + 1, 0, none⟩ (.bool rg)).setCell ⟨w.heap.size + 1 + 1, 1, none⟩ (.slice ra rl rc)).setCell ⟨w.heap.size + 1 + 1, 2, none⟩ (.slice rda rdl rdc)).cell? ⟨w.heap.size + 1, 0, none⟩ = some (.bool nq)) := ⟨by rw [World.cell?_of_block (w := w2) (HBU.out.block w.heap.size (by have h1 := HK2.out.lt; omega) (by intro e; injection e with e; omega))]; exact (HSC.out w2 E2.out).1, by rw [World.cell?_of_block (w := w2) (HBU.out.block (w.heap.size + 1) (by have h1 := HK2.out.lt; omega) (by intro e; injection e with e; omega))]; exact (HSC.out w2 E2.out).2⟩; clear hb2 hqc k2 hrl)))
              all_goals
                go_simp
                go_wp2_with fail
                (try simp only [Exit.inBlock, Exit.then])
                refine bodyPost_ret (v := .agg #[.bool rg, .slice ra rl rc, .slice rda rdl rdc]) ?_ rfl ⟨⟨_, rfl, _, _, _, rfl, ?_⟩, ?_⟩
                · rw [results_cell rfl]
                  go_simp
                · rw [HRES.out]
                  exact ⟨HQC.out.1, HQC.out.2.1.keep HK2.out (noDig_q _ _ _ _ _ _ _) HBU.out, HQC.out.2.2.imp (fun h => h.keep HK2.out (noDig_q _ _ _ _ _ _ _) HBU.out) (fun h => ⟨h.1, h.2.keep HK2.out (noDig_q _ _ _ _ _ _ _) HBU.out⟩)⟩
                · exact (((belowT HWC.out E2.out).setCell (show w.heap.size ≤ w.heap.size + 1 + 1 by omega) _).setCell (show w.heap.size ≤ w.heap.size + 1 + 1 by omega) _).setCell (show w.heap.size ≤ w.heap.size + 1 + 1 by omega) _
            · have HRES : Hid (p + q = mkRat (sg nq (q.num.natAbs * p.den - p.num.natAbs * q.den)) (p.den * q.den)) := by
                show _ = _
                rw [add_lt p q hdne (by omega), ← HNQ.out]
              have HNUM : Hid (∀ W, Below wc.heap.size wc W → Calls Try.prog 94 #[.slice a6 (ln (q.num.natAbs * p.den)) c6, .slice a5 (ln (p.num.natAbs * q.den)) c5] W fun e w' => (∃ v', e = .returned v' ∧ NO W.heap.size w' v' (q.num.natAbs * p.den - p.num.natAbs * q.den)) ∧ Below W.heap.size W w') := fun W hW => nsub_c _ _ _ _ W (N6.out.below hW) (N5.out.below hW) (by omega) (by omega)
              have hnl : ln (q.num.natAbs * p.den - p.num.natAbs * q.den) ≤ 10000000000000 := Nat.le_trans (ln_mono (Nat.sub_le _ _)) (by omega)
              have hcm : cmpN (p.num.natAbs * q.den) (q.num.natAbs * p.den) < 0 := by unfold cmpN; rw [if_pos (by omega)]; decide
              obtain ⟨cm, hcmE⟩ : ∃ c, cmpN (p.num.natAbs * q.den) (q.num.natAbs * p.den) = c := ⟨_, rfl⟩
              rw [hcmE] at HCM hcm
              have q4 : decide (0 ≤ cm) = false := decide_eq_false (by omega)
              clear hcmE
              have HLOW0 : Hid (∀ W0 v W, Below wc.heap.size wc W0 → Below W0.heap.size W0 W → NV W v (q.num.natAbs * p.den - p.num.natAbs * q.den) → Calls Try.prog 89 #[.bool nq, v, .slice a7 (ln (p.den * q.den)) c7] W fun e w' => (∃ v, e = .returned v ∧ QV w' v (mkRat (sg nq (q.num.natAbs * p.den - p.num.natAbs * q.den)) (p.den * q.den))) ∧ Below W.heap.size W w') := fun W0 v W hW0 hW hv => low_c nq v _ _ _ W hv (N7.out.below (belowT hW0 hW)) hnl (by omega) hd0
              clear hs hnl hxl hyl hdl hd0 sp sq HWP HWQ
              go_wp2_with fail
              refine HCM.out.mono ?_; rintro e wx ⟨rfl, hbx⟩
              have HNUM0 := HNUM
              have HD0 := HD
              have HWC0 := HWC
              have KR0 := KR1
              clear HNUM HD HWC KR1 z0 z1 z2 z3 z4 z5
              have HNUM := Lib.hid (fun W (hW : Below wx.heap.size wx W) => HNUM0.out W (belowT hbx hW))
              have HLOW := Lib.hid (fun v W (hW : Below wx.heap.size wx W) => HLOW0.out wx v W hbx hW)
              have HWC := Lib.hid (belowT HWC0.out hbx)
              have KR1 := Lib.hid (below_blk hbx KR0.out KR0.out.lt)
              have HSC : Hid (∀ W, Below wx.heap.size wx W → (W.cell? ⟨w.heap.size, 0, none⟩ = some (.bool np) ∧ W.cell? ⟨w.heap.size + 1, 0, none⟩ = some (.bool nq))) := fun W hW => by
                have h := HSB.out W (belowB HD0.out hBS (belowT hbx hW))
                exact ⟨h.1, h.2.2.2.1⟩
              have E0 := Lib.hid (below_drew0 wx.heap.size wx)
              clear HNUM0 HLOW0 HWC0 KR0 HD0 hbx HSB N5 N6 N7 HCM HKR
              go_upto_region 11 with fail
              go_region_held3 (fun W => (W.cell? ⟨w.heap.size, 0, none⟩ = some (.bool np) ∧ W.cell? ⟨w.heap.size + 1, 0, none⟩ = some (.bool nq)))
                (first
                  | exact HSC.out _ E0.out
                  | exact HSC.out _ E1.out
                  | exact HSC.out _ E2.out
                  | exact HSF.out)
                (first
                  | (go_at_call 94; ((with_reducible refine (HNUM.out _ E0.out).mono ?_); rintro e w1 ⟨⟨v1, rfl, hn1⟩, hb1⟩; have E1 := Lib.hid (belowT E0.out hb1); have M1 := Lib.hid hn1.nv; clear hb1 hn1))
                  | (go_at_call 89; ((with_reducible refine (HLOW.out v1 w1 E1.out M1.out).mono ?_); rintro e w2 ⟨⟨v2, rfl, rg, rn, rd, rfl, hqc⟩, hb2⟩; obtain ⟨ra, rc, rda, rdl, rdc, rfl, rfl, _⟩ := hqc.parts; have E2 := Lib.hid (belowT E1.out hb2); have HQC := Lib.hid hqc; have k2 := below_blk E2.out KR1.out KR1.out.lt; have HK2 := Lib.hid k2; have y0 := k2.cell 0 rfl; have y1 := k2.cell 1 rfl; have y2 := k2.cell 2 rfl; have f0 := k2.free 0; have f1 := k2.free 1; have f2 := k2.free 2; obtain ⟨rl, hrl⟩ : ∃ r, ln (mkRat (sg nq (q.num.natAbs * p.den - p.num.natAbs * q.den)) (p.den * q.den)).num.natAbs = r := ⟨_, rfl⟩; rw [hrl] at HQC ⊢; have HBU := Lib.hid ((((But.refl (w.heap.size + 1 + 1) w2).set 0 (.bool rg)).set 1 (.slice ra rl rc)).set 2 (.slice rda rdl rdc)); have HSF : Hid ((((w2.setCell ⟨w.heap.size + 1 + 1, 0, none⟩ (.bool rg)).setCell ⟨w.heap.size + 1 + 1, 1, none⟩ (.slice ra rl rc)).setCell ⟨w.heap.size + 1 + 1, 2, none⟩ (.slice rda rdl rdc)).cell? ⟨w.heap.size, 0, none⟩ = some (.bool np) ∧ (((w2.setCell ⟨w.heap.size + 1 + 1, 0, none⟩ (.bool rg)).setCell ⟨w.heap.size + 1 + 1, 1, none⟩ (.slice ra rl rc)).setCell ⟨w.heap.size + 1 + 1, 2, none⟩ (.slice rda rdl rdc)).cell? ⟨w.heap.size + 1, 0, none⟩ = some (.bool nq)) := ⟨by rw [World.cell?_of_block (w := w2) (HBU.out.block w.heap.size (by have h1 := HK2.out.lt; omega) (by intro e; injection e with e; omega))]; exact (HSC.out w2 E2.out).1, by rw [World.cell?_of_block (w := w2) (HBU.out.block (w.heap.size + 1) (by have h1 := HK2.out.lt; omega) (by intro e; injection e with e; omega))]; exact (HSC.out w2 E2.out).2⟩; clear hb2 hqc k2 hrl)))
              all_goals
                go_simp
                go_wp2_with fail
                (try simp only [Exit.inBlock, Exit.then])
                refine bodyPost_ret (v := .agg #[.bool rg, .slice ra rl rc, .slice rda rdl rdc]) ?_ rfl ⟨⟨_, rfl, _, _, _, rfl, ?_⟩, ?_⟩
                · rw [results_cell rfl]
                  go_simp
                · rw [HRES.out]
                  exact ⟨HQC.out.1, HQC.out.2.1.keep HK2.out (noDig_q _ _ _ _ _ _ _) HBU.out, HQC.out.2.2.imp (fun h => h.keep HK2.out (noDig_q _ _ _ _ _ _ _) HBU.out) (fun h => ⟨h.1, h.2.keep HK2.out (noDig_q _ _ _ _ _ _ _) HBU.out⟩)⟩
                · exact (((belowT HWC.out E2.out).setCell (show w.heap.size ≤ w.heap.size + 1 + 1 by omega) _).setCell (show w.heap.size ≤ w.heap.size + 1 + 1 by omega) _).setCell (show w.heap.size ≤ w.heap.size + 1 + 1 by omega) _
end Go.Proofs.Ythcddboeejbncaa
