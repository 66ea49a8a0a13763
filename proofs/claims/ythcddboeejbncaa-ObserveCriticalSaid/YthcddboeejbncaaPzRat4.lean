/- rat: Sub, Mul. -/
import Derived.Test.YthcddboeejbncaaPzRat3
namespace Go.Proofs.Ythcddboeejbncaa
open Go.RowKit

set_option maxRecDepth 100000 in
set_option maxHeartbeats 8000000 in
theorem rsub_c (np nq : Bool) (vp dp vq dq : Value) (p q : Rat) (w : World) (hp : QC w np vp dp p) (hq : QC w nq vq dq q) (sp : sz p ≤ 1000000000000) (sq : sz q ≤ 1000000000000) :
    Calls Try.prog 80 #[.agg #[.bool np, vp, dp], .agg #[.bool nq, vq, dq]] w fun e w' => (∃ v, e = .returned v ∧ QV w' v (p - q)) ∧ Below w.heap.size w w' := by
  have HP := Lib.hid hp
  have HQ := Lib.hid hq
  obtain ⟨pa, pc, pda, pdl, pdc, rfl, rfl, _⟩ := hp.parts
  obtain ⟨qa, qc, qda, qdl, qdc, rfl, rfl, _⟩ := hq.parts
  obtain ⟨n, hn⟩ : ∃ n, ln p.num.natAbs = n := ⟨_, rfl⟩
  obtain ⟨m, hm⟩ : ∃ n, ln q.num.natAbs = n := ⟨_, rfl⟩
  rw [hn] at HP ⊢
  rw [hm] at HQ ⊢
  have HNP := Lib.hid hp.1
  have HNQ := Lib.hid hq.1
  obtain ⟨W0, hW0⟩ : ∃ W, ((w.alloc (.cells #[.bool np, .slice pa n pc, .slice pda pdl pdc] 80)).alloc (.cells #[.bool nq, .slice qa m qc, .slice qda qdl qdc] 80)).alloc (.cells #[.bool false, .slice none 0 0, .slice none 0 0] 80) = W := ⟨_, rfl⟩
  have B3 := Lib.hid (belowA (belowA (belowA (Below.refl w.heap.size w) (.cells #[.bool np, .slice pa n pc, .slice pda pdl pdc] 80)) (.cells #[.bool nq, .slice qa m qc, .slice qda qdl qdc] 80)) (.cells #[.bool false, .slice none 0 0, .slice none 0 0] 80))
  have KP := Lib.hid (((Blk.new w #[.bool np, .slice pa n pc, .slice pda pdl pdc] 80).alloc (.cells #[.bool nq, .slice qa m qc, .slice qda qdl qdc] 80)).alloc (.cells #[.bool false, .slice none 0 0, .slice none 0 0] 80))
  have KQ := Lib.hid ((Blk.new2 w (.cells #[.bool np, .slice pa n pc, .slice pda pdl pdc] 80) #[.bool nq, .slice qa m qc, .slice qda qdl qdc] 80).alloc (.cells #[.bool false, .slice none 0 0, .slice none 0 0] 80))
  have KR := Lib.hid (Blk.new2 (w.alloc (.cells #[.bool np, .slice pa n pc, .slice pda pdl pdc] 80)) (.cells #[.bool nq, .slice qa m qc, .slice qda qdl qdc] 80) #[.bool false, .slice none 0 0, .slice none 0 0] 80)
  rw [World.size_alloc] at KR
  have hs0 : W0.heap.size = w.heap.size + 3 := by rw [← hW0]; simp only [World.size_alloc]
  have HW0 := Lib.hid hW0
  rw [hW0] at B3 KP KQ KR
  clear hW0
  have HSC : Hid (∀ W, Below W0.heap.size W0 W → (W.cell? ⟨w.heap.size, 0, none⟩ = some (.bool np) ∧ W.cell? ⟨w.heap.size, 1, none⟩ = some (.slice pa n pc) ∧ W.cell? ⟨w.heap.size, 2, none⟩ = some (.slice pda pdl pdc) ∧ W.cell? ⟨w.heap.size + 1, 0, none⟩ = some (.bool nq) ∧ W.cell? ⟨w.heap.size + 1, 1, none⟩ = some (.slice qa m qc) ∧ W.cell? ⟨w.heap.size + 1, 2, none⟩ = some (.slice qda qdl qdc))) := fun W hW => by
    have k1 := below_blk hW KP.out (by omega)
    have k2 := below_blk hW KQ.out (by omega)
    exact ⟨k1.cell 0 rfl, k1.cell 1 rfl, k1.cell 2 rfl, k2.cell 0 rfl, k2.cell 1 rfl, k2.cell 2 rfl⟩
  have hwb := fun W (h : Below W0.heap.size W0 W) => belowT B3.out h
  have E0 := Lib.hid (below_drew0 W0.heap.size W0)
  have HSS : Hid (∀ w2 W', But (w.heap.size + 1 + 1) w2 W' → w.heap.size + 1 < w2.heap.size → Below W0.heap.size W0 w2 → (W'.cell? ⟨w.heap.size, 0, none⟩ = some (.bool np) ∧ W'.cell? ⟨w.heap.size, 1, none⟩ = some (.slice pa n pc) ∧ W'.cell? ⟨w.heap.size, 2, none⟩ = some (.slice pda pdl pdc) ∧ W'.cell? ⟨w.heap.size + 1, 0, none⟩ = some (.bool nq) ∧ W'.cell? ⟨w.heap.size + 1, 1, none⟩ = some (.slice qa m qc) ∧ W'.cell? ⟨w.heap.size + 1, 2, none⟩ = some (.slice qda qdl qdc))) := fun w2 W' hb hlt hW => by
    have k1 := hb.blk (below_blk hW KP.out (by omega)) (by omega)
    have k2 := hb.blk (below_blk hW KQ.out (by omega)) (by omega)
    exact ⟨k1.cell 0 rfl, k1.cell 1 rfl, k1.cell 2 rfl, k2.cell 0 rfl, k2.cell 1 rfl, k2.cell 2 rfl⟩
  obtain ⟨r, hr⟩ : ∃ r, -q = r := ⟨_, rfl⟩
  obtain ⟨t, ht⟩ : ∃ t, p + r = t := ⟨_, rfl⟩
  have HNEG : Hid (∀ W, Below W0.heap.size W0 W → Calls Try.prog 92 #[.agg #[.bool nq, .slice qa m qc, .slice qda qdl qdc]] W fun e w' => (∃ v, e = .returned v ∧ QV w' v r) ∧ Below W.heap.size W w') := fun W hW => by rw [← hr]; exact neg_c _ _ _ q W (HQ.out.below (hwb W hW))
  have HADD : Hid (∀ g vn vd W, Below W0.heap.size W0 W → QC W g vn vd r → Calls Try.prog 82 #[.agg #[.bool np, .slice pa n pc, .slice pda pdl pdc], .agg #[.bool g, vn, vd]] W fun e w' => (∃ v, e = .returned v ∧ QV w' v t) ∧ Below W.heap.size W w') := fun g vn vd W hW hv => by rw [← ht]; exact radd_c _ _ _ _ _ _ p r W (HP.out.below (hwb W hW)) hv sp (by rw [← hr, sz_neg]; exact sq)
  have HRES : Hid (p - q = t) := by show _ = _; rw [← ht, ← hr]; exact Rat.sub_eq_add_neg p q
  have KR1 := KR
  clear hwb hn hm hp hq sp sq hs0 hr ht
  go_enter Try.func80, Try.ntmps80
  go_upto_region 1 with fail
  rw [HW0.out]
  go_region_held3 (fun W => (W.cell? ⟨w.heap.size, 0, none⟩ = some (.bool np) ∧ W.cell? ⟨w.heap.size, 1, none⟩ = some (.slice pa n pc) ∧ W.cell? ⟨w.heap.size, 2, none⟩ = some (.slice pda pdl pdc) ∧ W.cell? ⟨w.heap.size + 1, 0, none⟩ = some (.bool nq) ∧ W.cell? ⟨w.heap.size + 1, 1, none⟩ = some (.slice qa m qc) ∧ W.cell? ⟨w.heap.size + 1, 2, none⟩ = some (.slice qda qdl qdc)))
    (first
      | exact HSC.out _ E0.out
      | exact HSC.out _ E1.out
      | exact HSC.out _ E2.out
      | exact HSF.out)
    (first
      | (go_at_call 92; ((with_reducible refine (HNEG.out _ E0.out).mono ?_); rintro e w1 ⟨⟨v1, rfl, g1, vn1, vd1, rfl, hn1⟩, hb1⟩; obtain ⟨na1, nc1, nd1, nl1, ne1, rfl, rfl, _⟩ := hn1.parts; have E1 := Lib.hid (belowT E0.out hb1); have M1 := Lib.hid hn1; clear hb1 hn1))
      | (go_at_call 82; ((with_reducible refine (HADD.out _ _ _ w1 E1.out M1.out).mono ?_); rintro e w2 ⟨⟨v2, rfl, rg, rn, rd, rfl, hqc⟩, hb2⟩; obtain ⟨ra, rc, rda, rdl, rdc, rfl, rfl, _⟩ := hqc.parts; have E2 := Lib.hid (belowT E1.out hb2); have HQC := Lib.hid hqc; have k2 := below_blk E2.out KR1.out KR1.out.lt; have HK2 := Lib.hid k2; have y0 := k2.cell 0 rfl; have y1 := k2.cell 1 rfl; have y2 := k2.cell 2 rfl; have f0 := k2.free 0; have f1 := k2.free 1; have f2 := k2.free 2; obtain ⟨rl, hrl⟩ : ∃ r, ln t.num.natAbs = r := ⟨_, rfl⟩; rw [hrl] at HQC ⊢; have HBU := Lib.hid ((((But.refl (w.heap.size + 1 + 1) w2).set 0 (.bool rg)).set 1 (.slice ra rl rc)).set 2 (.slice rda rdl rdc)); have HSF := Lib.hid (HSS.out _ _ HBU.out (by have h1 := HK2.out.lt; omega) E2.out); clear hb2 hqc k2 hrl)))
  all_goals
    go_simp
    go_wp2_with fail
    (try simp only [Exit.inBlock, Exit.then])
    refine bodyPost_ret (v := .agg #[.bool rg, .slice ra rl rc, .slice rda rdl rdc]) ?_ rfl ⟨⟨_, rfl, _, _, _, rfl, ?_⟩, ?_⟩
    · rw [results_cell rfl]
      go_simp
    · rw [HRES.out]
      exact ⟨HQC.out.1, HQC.out.2.1.keep HK2.out (noDig_q _ _ _ _ _ _ _) HBU.out, HQC.out.2.2.imp (fun h => h.keep HK2.out (noDig_q _ _ _ _ _ _ _) HBU.out) (fun h => ⟨h.1, h.2.keep HK2.out (noDig_q _ _ _ _ _ _ _) HBU.out⟩)⟩
    · exact (((belowT B3.out E2.out).setCell (show w.heap.size ≤ w.heap.size + 1 + 1 by omega) _).setCell (show w.heap.size ≤ w.heap.size + 1 + 1 by omega) _).setCell (show w.heap.size ≤ w.heap.size + 1 + 1 by omega) _

set_option maxRecDepth 100000 in
set_option maxHeartbeats 8000000 in
theorem rmul_c (np nq : Bool) (vp dp vq dq : Value) (p q : Rat) (w : World) (hp : QC w np vp dp p) (hq : QC w nq vq dq q) (sp : sz p ≤ 1000000000000) (sq : sz q ≤ 1000000000000) :
    Calls Try.prog 81 #[.agg #[.bool np, vp, dp], .agg #[.bool nq, vq, dq]] w fun e w' => (∃ v, e = .returned v ∧ QV w' v (p * q)) ∧ Below w.heap.size w w' := by
  have HP := Lib.hid hp
  have HQ := Lib.hid hq
  obtain ⟨pa, pc, pda, pdl, pdc, rfl, rfl, _⟩ := hp.parts
  obtain ⟨qa, qc, qda, qdl, qdc, rfl, rfl, _⟩ := hq.parts
  obtain ⟨n, hn⟩ : ∃ n, ln p.num.natAbs = n := ⟨_, rfl⟩
  obtain ⟨m, hm⟩ : ∃ n, ln q.num.natAbs = n := ⟨_, rfl⟩
  rw [hn] at HP ⊢
  rw [hm] at HQ ⊢
  have HNP := Lib.hid hp.1
  have HNQ := Lib.hid hq.1
  by_cases hp0 : p = 0
  · have hz : n = 0 := by rw [← hn, num_zero.2 hp0]; exact ln_zero
    subst hz
    have HR : Hid (p * q = 0) := by show _ = _; rw [hp0]; exact Rat.zero_mul q
    clear hn hm hp hq hp0 sp sq
    go_enter Try.func81, Try.ntmps81
    go_wp2_with fail
    (try simp only [Exit.inBlock, Exit.then])
    refine bodyPost_ret (v := .agg #[.bool false, .slice none 0 0, .slice none 0 0]) ?_ rfl ⟨⟨_, rfl, _, _, _, rfl, ?_⟩, ?_⟩
    · rw [results_cell rfl]
      go_simp
    · rw [HR.out]
      exact QC.zero _
    · exact belowA (belowA (belowA (Below.refl _ _) _) _) _
  · have hz : 0 < n := by rw [← hn]; exact ln_pos (Nat.pos_of_ne_zero fun h => hp0 (num_zero.1 h))
    have q1 : ((n : Int) == 0) = false := by rw [beq_eq_false_iff_ne]; omega
    by_cases hq0 : q = 0
    · have hy : m = 0 := by rw [← hm, num_zero.2 hq0]; exact ln_zero
      subst hy
      have HR : Hid (p * q = 0) := by show _ = _; rw [hq0]; exact Rat.mul_zero p
      clear hn hm hp hq hq0 sp sq
      go_enter Try.func81, Try.ntmps81
      go_wp2_with fail
      (try simp only [Exit.inBlock, Exit.then])
      refine bodyPost_ret (v := .agg #[.bool false, .slice none 0 0, .slice none 0 0]) ?_ rfl ⟨⟨_, rfl, _, _, _, rfl, ?_⟩, ?_⟩
      · rw [results_cell rfl]
        go_simp
      · rw [HR.out]
        exact QC.zero _
      · exact belowA (belowA (belowA (Below.refl _ _) _) _) _
    · have hy : 0 < m := by rw [← hm]; exact ln_pos (Nat.pos_of_ne_zero fun h => hq0 (num_zero.1 h))
      have q2 : ((m : Int) == 0) = false := by rw [beq_eq_false_iff_ne]; omega
      obtain ⟨W0, hW0⟩ : ∃ W, ((w.alloc (.cells #[.bool np, .slice pa n pc, .slice pda pdl pdc] 80)).alloc (.cells #[.bool nq, .slice qa m qc, .slice qda qdl qdc] 80)).alloc (.cells #[.bool false, .slice none 0 0, .slice none 0 0] 80) = W := ⟨_, rfl⟩
      have B3 := Lib.hid (belowA (belowA (belowA (Below.refl w.heap.size w) (.cells #[.bool np, .slice pa n pc, .slice pda pdl pdc] 80)) (.cells #[.bool nq, .slice qa m qc, .slice qda qdl qdc] 80)) (.cells #[.bool false, .slice none 0 0, .slice none 0 0] 80))
      have KP := Lib.hid (((Blk.new w #[.bool np, .slice pa n pc, .slice pda pdl pdc] 80).alloc (.cells #[.bool nq, .slice qa m qc, .slice qda qdl qdc] 80)).alloc (.cells #[.bool false, .slice none 0 0, .slice none 0 0] 80))
      have KQ := Lib.hid ((Blk.new2 w (.cells #[.bool np, .slice pa n pc, .slice pda pdl pdc] 80) #[.bool nq, .slice qa m qc, .slice qda qdl qdc] 80).alloc (.cells #[.bool false, .slice none 0 0, .slice none 0 0] 80))
      have KR := Lib.hid (Blk.new2 (w.alloc (.cells #[.bool np, .slice pa n pc, .slice pda pdl pdc] 80)) (.cells #[.bool nq, .slice qa m qc, .slice qda qdl qdc] 80) #[.bool false, .slice none 0 0, .slice none 0 0] 80)
      rw [World.size_alloc] at KR
      have hs0 : W0.heap.size = w.heap.size + 3 := by rw [← hW0]; simp only [World.size_alloc]
      have HW0 := Lib.hid hW0
      rw [hW0] at B3 KP KQ KR
      clear hW0
      have HSC : Hid (∀ W, Below W0.heap.size W0 W → (W.cell? ⟨w.heap.size, 0, none⟩ = some (.bool np) ∧ W.cell? ⟨w.heap.size, 1, none⟩ = some (.slice pa n pc) ∧ W.cell? ⟨w.heap.size, 2, none⟩ = some (.slice pda pdl pdc) ∧ W.cell? ⟨w.heap.size + 1, 0, none⟩ = some (.bool nq) ∧ W.cell? ⟨w.heap.size + 1, 1, none⟩ = some (.slice qa m qc) ∧ W.cell? ⟨w.heap.size + 1, 2, none⟩ = some (.slice qda qdl qdc))) := fun W hW => by
        have k1 := below_blk hW KP.out (by omega)
        have k2 := below_blk hW KQ.out (by omega)
        exact ⟨k1.cell 0 rfl, k1.cell 1 rfl, k1.cell 2 rfl, k2.cell 0 rfl, k2.cell 1 rfl, k2.cell 2 rfl⟩
      have hwb := fun W (h : Below W0.heap.size W0 W) => belowT B3.out h
      have E0 := Lib.hid (below_drew0 W0.heap.size W0)
      have HSS : Hid (∀ w2 W', But (w.heap.size + 1 + 1) w2 W' → w.heap.size + 1 < w2.heap.size → Below W0.heap.size W0 w2 → (W'.cell? ⟨w.heap.size, 0, none⟩ = some (.bool np) ∧ W'.cell? ⟨w.heap.size, 1, none⟩ = some (.slice pa n pc) ∧ W'.cell? ⟨w.heap.size, 2, none⟩ = some (.slice pda pdl pdc) ∧ W'.cell? ⟨w.heap.size + 1, 0, none⟩ = some (.bool nq) ∧ W'.cell? ⟨w.heap.size + 1, 1, none⟩ = some (.slice qa m qc) ∧ W'.cell? ⟨w.heap.size + 1, 2, none⟩ = some (.slice qda qdl qdc))) := fun w2 W' hb hlt hW => by
        have k1 := hb.blk (below_blk hW KP.out (by omega)) (by omega)
        have k2 := hb.blk (below_blk hW KQ.out (by omega)) (by omega)
        exact ⟨k1.cell 0 rfl, k1.cell 1 rfl, k1.cell 2 rfl, k2.cell 0 rfl, k2.cell 1 rfl, k2.cell 2 rfl⟩
      have hsn1 := sz_num p
      have hsd1 := sz_den p
      have hsn2 := sz_num q
      have hsd2 := sz_den q
      obtain ⟨X, hX⟩ : ∃ X, p.num.natAbs * q.num.natAbs = X := ⟨_, rfl⟩
      obtain ⟨P, hP⟩ : ∃ X, p.den = X := ⟨_, rfl⟩
      obtain ⟨Q, hQ⟩ : ∃ X, q.den = X := ⟨_, rfl⟩
      obtain ⟨Y, hY⟩ : ∃ X, P * Q = X := ⟨_, rfl⟩
      obtain ⟨t, ht⟩ : ∃ t, p * q = t := ⟨_, rfl⟩
      have HWP : Hid (∀ W, Below W0.heap.size W0 W → Calls Try.prog 91 #[.agg #[.bool np, .slice pa n pc, .slice pda pdl pdc]] W fun e w' => (∃ v, e = .returned v ∧ NV w' v P) ∧ Below W.heap.size W w') := fun W hW => by rw [← hP]; exact whole_c _ _ _ p W (HP.out.below (hwb W hW))
      have HWQ : Hid (∀ W, Below W0.heap.size W0 W → Calls Try.prog 91 #[.agg #[.bool nq, .slice qa m qc, .slice qda qdl qdc]] W fun e w' => (∃ v, e = .returned v ∧ NV w' v Q) ∧ Below W.heap.size W w') := fun W hW => by rw [← hQ]; exact whole_c _ _ _ q W (HQ.out.below (hwb W hW))
      have HX1 : Hid (∀ W, Below W0.heap.size W0 W → Calls Try.prog 90 #[.slice pa n pc, .slice qa m qc] W fun e w' => (∃ v', e = .returned v' ∧ NO W.heap.size w' v' X) ∧ Below W.heap.size W w') := fun W hW => by rw [← hX]; exact nmul_c _ _ _ _ W (HP.out.below (hwb W hW)).2.1 (HQ.out.below (hwb W hW)).2.1 (by omega) (by omega)
      have HX2 : Hid (∀ v v' W, NV W v P → NV W v' Q → Calls Try.prog 90 #[v, v'] W fun e w' => (∃ v', e = .returned v' ∧ NO W.heap.size w' v' Y) ∧ Below W.heap.size W w') := fun v v' W hv hv' => by rw [← hY]; exact nmul_c v v' _ _ W hv hv' (by rw [← hP]; omega) (by rw [← hQ]; omega)
      have HLOW : Hid (∀ v v' W, NV W v X → NV W v' Y → Calls Try.prog 89 #[.bool (!(np == nq)), v, v'] W fun e w' => (∃ v, e = .returned v ∧ QV w' v t) ∧ Below W.heap.size W w') := fun v v' W hv hv' => by
        rw [← ht, mul_parts, ← HNP.out, ← HNQ.out, hX, hP, hQ, hY]
        exact low_c (np != nq) v v' X Y W hv hv' (by have := ln_mul p.num.natAbs q.num.natAbs; rw [hX] at this; omega) (by have := ln_mul p.den q.den; rw [hP, hQ, hY] at this; rw [hP] at hsd1; rw [hQ] at hsd2; omega) (by rw [← hY, ← hP, ← hQ]; exact Nat.mul_pos (den_pos p) (den_pos q))
      have HRES : Hid (p * q = t) := ht
      have KR1 := KR
      clear hwb hn hm hp hq sp sq hs0 hsn1 hsd1 hsn2 hsd2 hX hP hQ hY ht
      go_enter Try.func81, Try.ntmps81
      go_upto_region 3 with fail
      rw [HW0.out]
      go_region_held3 (fun W => (W.cell? ⟨w.heap.size, 0, none⟩ = some (.bool np) ∧ W.cell? ⟨w.heap.size, 1, none⟩ = some (.slice pa n pc) ∧ W.cell? ⟨w.heap.size, 2, none⟩ = some (.slice pda pdl pdc) ∧ W.cell? ⟨w.heap.size + 1, 0, none⟩ = some (.bool nq) ∧ W.cell? ⟨w.heap.size + 1, 1, none⟩ = some (.slice qa m qc) ∧ W.cell? ⟨w.heap.size + 1, 2, none⟩ = some (.slice qda qdl qdc)))
        (first
          | exact HSC.out _ E0.out
          | exact HSC.out _ E1.out
          | exact HSC.out _ E2.out
          | exact HSC.out _ E3.out
          | exact HSC.out _ E4.out
          | exact HSC.out _ E5.out
          | exact HSF.out)
        (first
          | (go_at_call 90; ((with_reducible refine (HX1.out _ E0.out).mono ?_); rintro e w1 ⟨⟨v1, rfl, hn1⟩, hb1⟩; have E1 := Lib.hid (belowT E0.out hb1); have M1 := Lib.hid hn1.nv; clear hb1 hn1))
          | (go_at_call 91; ((with_reducible refine (HWP.out _ E1.out).mono ?_); rintro e w2 ⟨⟨v2, rfl, hn2⟩, hb2⟩; have E2 := Lib.hid (belowT E1.out hb2); have M12 := Lib.hid (M1.out.below hb2); have M2 := Lib.hid hn2; clear hb2 hn2))
          | (go_at_call 91; ((with_reducible refine (HWQ.out _ E2.out).mono ?_); rintro e w3 ⟨⟨v3, rfl, hn3⟩, hb3⟩; have E3 := Lib.hid (belowT E2.out hb3); have M13 := Lib.hid (M12.out.below hb3); have M23 := Lib.hid (M2.out.below hb3); have M3 := Lib.hid hn3; clear hb3 hn3))
          | (go_at_call 90; ((with_reducible refine (HX2.out v2 v3 w3 M23.out M3.out).mono ?_); rintro e w4 ⟨⟨v4, rfl, hn4⟩, hb4⟩; have E4 := Lib.hid (belowT E3.out hb4); have M14 := Lib.hid (M13.out.below hb4); have M4 := Lib.hid hn4.nv; clear hb4 hn4))
          | (go_at_call 89; ((with_reducible refine (HLOW.out v1 v4 w4 M14.out M4.out).mono ?_); rintro e w5 ⟨⟨v5, rfl, rg, rn, rd, rfl, hqc⟩, hb5⟩; obtain ⟨ra, rc, rda, rdl, rdc, rfl, rfl, _⟩ := hqc.parts; have E5 := Lib.hid (belowT E4.out hb5); have HQC := Lib.hid hqc; have k2 := below_blk E5.out KR1.out KR1.out.lt; have HK2 := Lib.hid k2; have y0 := k2.cell 0 rfl; have y1 := k2.cell 1 rfl; have y2 := k2.cell 2 rfl; have f0 := k2.free 0; have f1 := k2.free 1; have f2 := k2.free 2; obtain ⟨rl, hrl⟩ : ∃ r, ln t.num.natAbs = r := ⟨_, rfl⟩; rw [hrl] at HQC ⊢; have HBU := Lib.hid ((((But.refl (w.heap.size + 1 + 1) w5).set 0 (.bool rg)).set 1 (.slice ra rl rc)).set 2 (.slice rda rdl rdc)); have HSF := Lib.hid (HSS.out _ _ HBU.out (by have h1 := HK2.out.lt; omega) E5.out); clear hb5 hqc k2 hrl)))
      all_goals
        go_simp
        go_wp2_with fail
        (try simp only [Exit.inBlock, Exit.then])
        refine bodyPost_ret (v := .agg #[.bool rg, .slice ra rl rc, .slice rda rdl rdc]) ?_ rfl ⟨⟨_, rfl, _, _, _, rfl, ?_⟩, ?_⟩
        · rw [results_cell rfl]
          go_simp
        · rw [HRES.out]
          exact ⟨HQC.out.1, HQC.out.2.1.keep HK2.out (noDig_q _ _ _ _ _ _ _) HBU.out, HQC.out.2.2.imp (fun h => h.keep HK2.out (noDig_q _ _ _ _ _ _ _) HBU.out) (fun h => ⟨h.1, h.2.keep HK2.out (noDig_q _ _ _ _ _ _ _) HBU.out⟩)⟩
        · exact (((belowT B3.out E5.out).setCell (show w.heap.size ≤ w.heap.size + 1 + 1 by omega) _).setCell (show w.heap.size ≤ w.heap.size + 1 + 1 by omega) _).setCell (show w.heap.size ≤ w.heap.size + 1 + 1 by omega) _
set_option maxRecDepth 100000 in
set_option maxHeartbeats 8000000 in
theorem rquo_c (np nq : Bool) (vp dp vq dq : Value) (p q : Rat) (w : World) (hp : QC w np vp dp p) (hq : QC w nq vq dq q) (sp : sz p ≤ 1000000000000) (sq : sz q ≤ 1000000000000) :
    Calls Try.prog 79 #[.agg #[.bool np, vp, dp], .agg #[.bool nq, vq, dq]] w fun e w' => (∃ v, e = .returned v ∧ QV w' v (p / q)) ∧ Below w.heap.size w w' := by
  have HP := Lib.hid hp
  have HQ := Lib.hid hq
  obtain ⟨pa, pc, pda, pdl, pdc, rfl, rfl, _⟩ := hp.parts
  obtain ⟨qa, qc, qda, qdl, qdc, rfl, rfl, _⟩ := hq.parts
  obtain ⟨n, hn⟩ : ∃ n, ln p.num.natAbs = n := ⟨_, rfl⟩
  obtain ⟨m, hm⟩ : ∃ n, ln q.num.natAbs = n := ⟨_, rfl⟩
  rw [hn] at HP ⊢
  rw [hm] at HQ ⊢
  have HNP := Lib.hid hp.1
  have HNQ := Lib.hid hq.1
  by_cases hp0 : p = 0
  · have hz : n = 0 := by rw [← hn, num_zero.2 hp0]; exact ln_zero
    subst hz
    have HR : Hid (p / q = 0) := by show _ = _; rw [hp0, Rat.div_def]; exact Rat.zero_mul _
    clear hn hm hp hq hp0 sp sq
    go_enter Try.func79, Try.ntmps79
    go_wp2_with fail
    (try simp only [Exit.inBlock, Exit.then])
    refine bodyPost_ret (v := .agg #[.bool false, .slice none 0 0, .slice none 0 0]) ?_ rfl ⟨⟨_, rfl, _, _, _, rfl, ?_⟩, ?_⟩
    · rw [results_cell rfl]
      go_simp
    · rw [HR.out]
      exact QC.zero _
    · exact belowA (belowA (belowA (Below.refl _ _) _) _) _
  · have hz : 0 < n := by rw [← hn]; exact ln_pos (Nat.pos_of_ne_zero fun h => hp0 (num_zero.1 h))
    have q1 : ((n : Int) == 0) = false := by rw [beq_eq_false_iff_ne]; omega
    by_cases hq0 : q = 0
    · have hy : m = 0 := by rw [← hm, num_zero.2 hq0]; exact ln_zero
      subst hy
      have HR : Hid (p / q = 0) := by show _ = _; rw [hq0, Rat.div_def, Rat.inv_zero]; exact Rat.mul_zero p
      clear hn hm hp hq hq0 sp sq
      go_enter Try.func79, Try.ntmps79
      go_wp2_with fail
      (try simp only [Exit.inBlock, Exit.then])
      refine bodyPost_ret (v := .agg #[.bool false, .slice none 0 0, .slice none 0 0]) ?_ rfl ⟨⟨_, rfl, _, _, _, rfl, ?_⟩, ?_⟩
      · rw [results_cell rfl]
        go_simp
      · rw [HR.out]
        exact QC.zero _
      · exact belowA (belowA (belowA (Below.refl _ _) _) _) _
    · have hy : 0 < m := by rw [← hm]; exact ln_pos (Nat.pos_of_ne_zero fun h => hq0 (num_zero.1 h))
      have q2 : ((m : Int) == 0) = false := by rw [beq_eq_false_iff_ne]; omega
      obtain ⟨W0, hW0⟩ : ∃ W, ((w.alloc (.cells #[.bool np, .slice pa n pc, .slice pda pdl pdc] 80)).alloc (.cells #[.bool nq, .slice qa m qc, .slice qda qdl qdc] 80)).alloc (.cells #[.bool false, .slice none 0 0, .slice none 0 0] 80) = W := ⟨_, rfl⟩
      have B3 := Lib.hid (belowA (belowA (belowA (Below.refl w.heap.size w) (.cells #[.bool np, .slice pa n pc, .slice pda pdl pdc] 80)) (.cells #[.bool nq, .slice qa m qc, .slice qda qdl qdc] 80)) (.cells #[.bool false, .slice none 0 0, .slice none 0 0] 80))
      have KP := Lib.hid (((Blk.new w #[.bool np, .slice pa n pc, .slice pda pdl pdc] 80).alloc (.cells #[.bool nq, .slice qa m qc, .slice qda qdl qdc] 80)).alloc (.cells #[.bool false, .slice none 0 0, .slice none 0 0] 80))
      have KQ := Lib.hid ((Blk.new2 w (.cells #[.bool np, .slice pa n pc, .slice pda pdl pdc] 80) #[.bool nq, .slice qa m qc, .slice qda qdl qdc] 80).alloc (.cells #[.bool false, .slice none 0 0, .slice none 0 0] 80))
      have KR := Lib.hid (Blk.new2 (w.alloc (.cells #[.bool np, .slice pa n pc, .slice pda pdl pdc] 80)) (.cells #[.bool nq, .slice qa m qc, .slice qda qdl qdc] 80) #[.bool false, .slice none 0 0, .slice none 0 0] 80)
      rw [World.size_alloc] at KR
      have hs0 : W0.heap.size = w.heap.size + 3 := by rw [← hW0]; simp only [World.size_alloc]
      have HW0 := Lib.hid hW0
      rw [hW0] at B3 KP KQ KR
      clear hW0
      have HSC : Hid (∀ W, Below W0.heap.size W0 W → (W.cell? ⟨w.heap.size, 0, none⟩ = some (.bool np) ∧ W.cell? ⟨w.heap.size, 1, none⟩ = some (.slice pa n pc) ∧ W.cell? ⟨w.heap.size, 2, none⟩ = some (.slice pda pdl pdc) ∧ W.cell? ⟨w.heap.size + 1, 0, none⟩ = some (.bool nq) ∧ W.cell? ⟨w.heap.size + 1, 1, none⟩ = some (.slice qa m qc) ∧ W.cell? ⟨w.heap.size + 1, 2, none⟩ = some (.slice qda qdl qdc))) := fun W hW => by
        have k1 := below_blk hW KP.out (by omega)
        have k2 := below_blk hW KQ.out (by omega)
        exact ⟨k1.cell 0 rfl, k1.cell 1 rfl, k1.cell 2 rfl, k2.cell 0 rfl, k2.cell 1 rfl, k2.cell 2 rfl⟩
      have hwb := fun W (h : Below W0.heap.size W0 W) => belowT B3.out h
      have E0 := Lib.hid (below_drew0 W0.heap.size W0)
      have HSS : Hid (∀ w2 W', But (w.heap.size + 1 + 1) w2 W' → w.heap.size + 1 < w2.heap.size → Below W0.heap.size W0 w2 → (W'.cell? ⟨w.heap.size, 0, none⟩ = some (.bool np) ∧ W'.cell? ⟨w.heap.size, 1, none⟩ = some (.slice pa n pc) ∧ W'.cell? ⟨w.heap.size, 2, none⟩ = some (.slice pda pdl pdc) ∧ W'.cell? ⟨w.heap.size + 1, 0, none⟩ = some (.bool nq) ∧ W'.cell? ⟨w.heap.size + 1, 1, none⟩ = some (.slice qa m qc) ∧ W'.cell? ⟨w.heap.size + 1, 2, none⟩ = some (.slice qda qdl qdc))) := fun w2 W' hb hlt hW => by
        have k1 := hb.blk (below_blk hW KP.out (by omega)) (by omega)
        have k2 := hb.blk (below_blk hW KQ.out (by omega)) (by omega)
        exact ⟨k1.cell 0 rfl, k1.cell 1 rfl, k1.cell 2 rfl, k2.cell 0 rfl, k2.cell 1 rfl, k2.cell 2 rfl⟩
      have hsn1 := sz_num p
      have hsd1 := sz_den p
      have hsn2 := sz_num q
      have hsd2 := sz_den q
      obtain ⟨X, hX⟩ : ∃ X, p.num.natAbs * q.den = X := ⟨_, rfl⟩
      obtain ⟨P, hP⟩ : ∃ X, p.den = X := ⟨_, rfl⟩
      obtain ⟨Q, hQ⟩ : ∃ X, q.den = X := ⟨_, rfl⟩
      obtain ⟨Y, hY⟩ : ∃ X, p.den * q.num.natAbs = X := ⟨_, rfl⟩
      obtain ⟨t, ht⟩ : ∃ t, p / q = t := ⟨_, rfl⟩
      have HWP : Hid (∀ W, Below W0.heap.size W0 W → Calls Try.prog 91 #[.agg #[.bool np, .slice pa n pc, .slice pda pdl pdc]] W fun e w' => (∃ v, e = .returned v ∧ NV w' v P) ∧ Below W.heap.size W w') := fun W hW => by rw [← hP]; exact whole_c _ _ _ p W (HP.out.below (hwb W hW))
      have HWQ : Hid (∀ W, Below W0.heap.size W0 W → Calls Try.prog 91 #[.agg #[.bool nq, .slice qa m qc, .slice qda qdl qdc]] W fun e w' => (∃ v, e = .returned v ∧ NV w' v Q) ∧ Below W.heap.size W w') := fun W hW => by rw [← hQ]; exact whole_c _ _ _ q W (HQ.out.below (hwb W hW))
      have HX1 : Hid (∀ v W, Below W0.heap.size W0 W → NV W v Q → Calls Try.prog 90 #[.slice pa n pc, v] W fun e w' => (∃ v', e = .returned v' ∧ NO W.heap.size w' v' X) ∧ Below W.heap.size W w') := fun v W hW hv => by rw [← hX]; exact nmul_c _ v _ _ W (HP.out.below (hwb W hW)).2.1 (by rw [hQ]; exact hv) (by omega) (by omega)
      have HX2 : Hid (∀ v W, Below W0.heap.size W0 W → NV W v P → Calls Try.prog 90 #[v, .slice qa m qc] W fun e w' => (∃ v', e = .returned v' ∧ NO W.heap.size w' v' Y) ∧ Below W.heap.size W w') := fun v W hW hv => by rw [← hY]; exact nmul_c v _ _ _ W (by rw [hP]; exact hv) (HQ.out.below (hwb W hW)).2.1 (by omega) (by omega)
      have HLOW : Hid (∀ v v' W, NV W v X → NV W v' Y → Calls Try.prog 89 #[.bool (!(np == nq)), v, v'] W fun e w' => (∃ v, e = .returned v ∧ QV w' v t) ∧ Below W.heap.size W w') := fun v v' W hv hv' => by
        rw [← ht, quo_parts p q hq0, ← HNP.out, ← HNQ.out, hX, hY]
        exact low_c (np != nq) v v' X Y W hv hv' (by have := ln_mul p.num.natAbs q.den; rw [hX] at this; omega) (by have := ln_mul p.den q.num.natAbs; rw [hY] at this; omega) (by rw [← hY]; exact Nat.mul_pos (den_pos p) (Nat.pos_of_ne_zero fun h => hq0 (num_zero.1 h)))
      have HRES : Hid (p / q = t) := ht
      have KR1 := KR
      clear hwb hn hm hp hq sp sq hs0 hsn1 hsd1 hsn2 hsd2 hX hP hQ hY ht
      go_enter Try.func79, Try.ntmps79
      go_upto_region 3 with fail
      rw [HW0.out]
      go_region_held3 (fun W => (W.cell? ⟨w.heap.size, 0, none⟩ = some (.bool np) ∧ W.cell? ⟨w.heap.size, 1, none⟩ = some (.slice pa n pc) ∧ W.cell? ⟨w.heap.size, 2, none⟩ = some (.slice pda pdl pdc) ∧ W.cell? ⟨w.heap.size + 1, 0, none⟩ = some (.bool nq) ∧ W.cell? ⟨w.heap.size + 1, 1, none⟩ = some (.slice qa m qc) ∧ W.cell? ⟨w.heap.size + 1, 2, none⟩ = some (.slice qda qdl qdc)))
        (first
          | exact HSC.out _ E0.out
          | exact HSC.out _ E1.out
          | exact HSC.out _ E2.out
          | exact HSC.out _ E3.out
          | exact HSC.out _ E4.out
          | exact HSC.out _ E5.out
          | exact HSF.out)
        (first
          | (go_at_call 91; ((with_reducible refine (HWQ.out _ E0.out).mono ?_); rintro e w1 ⟨⟨v1, rfl, hn1⟩, hb1⟩; have E1 := Lib.hid (belowT E0.out hb1); have M1 := Lib.hid hn1; clear hb1 hn1))
          | (go_at_call 90; ((with_reducible refine (HX1.out v1 w1 E1.out M1.out).mono ?_); rintro e w2 ⟨⟨v2, rfl, hn2⟩, hb2⟩; have E2 := Lib.hid (belowT E1.out hb2); have M2 := Lib.hid hn2.nv; clear hb2 hn2))
          | (go_at_call 91; ((with_reducible refine (HWP.out _ E2.out).mono ?_); rintro e w3 ⟨⟨v3, rfl, hn3⟩, hb3⟩; have E3 := Lib.hid (belowT E2.out hb3); have M23 := Lib.hid (M2.out.below hb3); have M3 := Lib.hid hn3; clear hb3 hn3))
          | (go_at_call 90; ((with_reducible refine (HX2.out v3 w3 E3.out M3.out).mono ?_); rintro e w4 ⟨⟨v4, rfl, hn4⟩, hb4⟩; have E4 := Lib.hid (belowT E3.out hb4); have M24 := Lib.hid (M23.out.below hb4); have M4 := Lib.hid hn4.nv; clear hb4 hn4))
          | (go_at_call 89; ((with_reducible refine (HLOW.out v2 v4 w4 M24.out M4.out).mono ?_); rintro e w5 ⟨⟨v5, rfl, rg, rn, rd, rfl, hqc⟩, hb5⟩; obtain ⟨ra, rc, rda, rdl, rdc, rfl, rfl, _⟩ := hqc.parts; have E5 := Lib.hid (belowT E4.out hb5); have HQC := Lib.hid hqc; have k2 := below_blk E5.out KR1.out KR1.out.lt; have HK2 := Lib.hid k2; have y0 := k2.cell 0 rfl; have y1 := k2.cell 1 rfl; have y2 := k2.cell 2 rfl; have f0 := k2.free 0; have f1 := k2.free 1; have f2 := k2.free 2; obtain ⟨rl, hrl⟩ : ∃ r, ln t.num.natAbs = r := ⟨_, rfl⟩; rw [hrl] at HQC ⊢; have HBU := Lib.hid ((((But.refl (w.heap.size + 1 + 1) w5).set 0 (.bool rg)).set 1 (.slice ra rl rc)).set 2 (.slice rda rdl rdc)); have HSF := Lib.hid (HSS.out _ _ HBU.out (by have h1 := HK2.out.lt; omega) E5.out); clear hb5 hqc k2 hrl)))
      all_goals
        go_simp
        go_wp2_with fail
        (try simp only [Exit.inBlock, Exit.then])
        refine bodyPost_ret (v := .agg #[.bool rg, .slice ra rl rc, .slice rda rdl rdc]) ?_ rfl ⟨⟨_, rfl, _, _, _, rfl, ?_⟩, ?_⟩
        · rw [results_cell rfl]
          go_simp
        · rw [HRES.out]
          exact ⟨HQC.out.1, HQC.out.2.1.keep HK2.out (noDig_q _ _ _ _ _ _ _) HBU.out, HQC.out.2.2.imp (fun h => h.keep HK2.out (noDig_q _ _ _ _ _ _ _) HBU.out) (fun h => ⟨h.1, h.2.keep HK2.out (noDig_q _ _ _ _ _ _ _) HBU.out⟩)⟩
        · exact (((belowT B3.out E5.out).setCell (show w.heap.size ≤ w.heap.size + 1 + 1 by omega) _).setCell (show w.heap.size ≤ w.heap.size + 1 + 1 by omega) _).setCell (show w.heap.size ≤ w.heap.size + 1 + 1 by omega) _
end Go.Proofs.Ythcddboeejbncaa
