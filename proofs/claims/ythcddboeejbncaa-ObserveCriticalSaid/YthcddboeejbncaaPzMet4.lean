/- meter: Line.flow. -/
import Derived.Test.YthcddboeejbncaaPzMet3
namespace Go.Proofs.Ythcddboeejbncaa
open Go.RowKit

set_option maxRecDepth 100000 in
set_option maxHeartbeats 8000000 in
theorem flow_c (f g m k : Nat) (sg : Int) (x0 : NAddr) (n : Net) (br : NBr) (tv : Value) (C : Nat → Rat) (D : Rat) (i1 i2 s : Nat) (w : World)
    (hr : NetR w x0 n) (hok : netE n = 0) (ht : TopV w tv n) (hl : LF w f g m C D) (hk : n.brs[k]? = some br) (hs : sg = 1 ∨ sg = -1)
    (h1 : busAt n br.fr = i1) (h2 : busAt n br.to = i2) (hi1 : i1 < m) (hi2 : i2 < m) (hm : m ≤ 1000)
    (hC : ∀ i, i < m → sz (C i) ≤ s) (hD : sz D ≤ s) (hsz : s ≤ 1000000) :
    Calls Try.prog 66 #[.pointer (some ⟨f, 0, none⟩), x0.val n, tv, .int .i64 k, .int .i64 sg] w fun e w' => e = .returned (.tuple #[]) ∧ LF w' f g m (flowC (yQ br sg) i1 i2 C) (flowD (yQ br sg) br.sh D) ∧ ButS (fun b => b = f ∨ b = g) w w' := by
  have hok1 := netE_ok hok
  have hbm := List.mem_of_getElem? hk
  obtain ⟨hfr, hto, hx1, hx2⟩ := hok1.br br hbm
  obtain ⟨ht1, ht2, ht3, ht4⟩ := netE_tap hok br hbm
  obtain ⟨hy, hxt0, hxt1⟩ := sz_y (x := br) hs ⟨hx1, hx2⟩ ⟨ht1, ht2⟩
  have hcs := sz_flowC hC hy hi1 hi2
  obtain ⟨hd1, hd2, hd3⟩ := sz_flowD (sh := br.sh) hD hy ht3 ht4
  obtain ⟨j1, hj1, hj1l⟩ := idxS_nat hfr
  obtain ⟨j2, hj2, hj2l⟩ := idxS_nat hto
  obtain ⟨bua, buc, isa, isc, rfl, hbus, hisl⟩ := ht
  have hbl := (busesE_ok n).1
  have hb1 : (busesE n).getD j1 0 = (i1 : Int) := by rw [← h1]; unfold busAt; rw [hj1]; rfl
  have hb2 : (busesE n).getD j2 0 = (i2 : Int) := by rw [← h2]; unfold busAt; rw [hj2]; rfl
  obtain ⟨ug, uo, uc, huv, _, _, hugl, huc⟩ := hbus.addr (by omega)
  simp only [Value.slice.injEq] at huv
  obtain ⟨rfl, _, rfl⟩ := huv
  have u1 := huc j1 _ (ints_get (by rw [hbl]; exact hj1l))
  have u2 := huc j2 _ (ints_get (by rw [hbl]; exact hj2l))
  rw [hb1] at u1
  rw [hb2] at u2
  have HIX1 : Hid (∀ W, Below w.heap.size w W → Calls Try.prog 62 #[.slice x0.na n.nodes.length x0.nc, .string br.fr] W fun e w' => e = .returned (.int .i64 j1) ∧ w' = W) := fun W hW => by
    rw [← hj1]
    exact (index_c _ n.nodes br.fr W (hr.nodes.below hW)).mono fun e w' h => ⟨h.1, h.2.symm⟩
  have HIX2 : Hid (∀ W, Below w.heap.size w W → Calls Try.prog 62 #[.slice x0.na n.nodes.length x0.nc, .string br.to] W fun e w' => e = .returned (.int .i64 j2) ∧ w' = W) := fun W hW => by
    rw [← hj2]
    exact (index_c _ n.nodes br.to W (hr.nodes.below hW)).mono fun e w' h => ⟨h.1, h.2.symm⟩
  obtain ⟨bg, bo, bcap, hbv, _, _, hbgl, hbc⟩ := hr.brs.addr (by have := (List.getElem?_eq_some_iff.1 hk).1; omega)
  obtain ⟨c0, c1, c2, c3, c4, c5, c6, c7, c8⟩ := br_cells hbc hk
  have hkl := (List.getElem?_eq_some_iff.1 hk).1
  have hnb := hok1.nb
  have hnn := hok1.nn
  have HINT := Lib.hid (fun (m : Int) W (h0 : -9223372036854775807 ≤ m) (h1 : m ≤ 9223372036854775807) => int_c m W h0 h1)
  have HQUO := Lib.hid (fun np nq vp dp vq dq W (hc : QC W np vp dp ((sg * 1000000 : Int) : Rat)) (hd : QC W nq vq dq ((br.x * br.tap : Int) : Rat)) => rquo_c np nq vp dp vq dq _ _ W hc hd (by have := sz_i (sg * 1000000) (by omega) (by omega); omega) (by have := sz_i (br.x * br.tap) (by omega) (by omega); omega))
  have hyE : ((sg * 1000000 : Int) : Rat) / ((br.x * br.tap : Int) : Rat) = yQ br sg := rfl
  rw [hyE] at HQUO
  have e1 : IntKind.i64.wrap (sg * 1000000) = sg * 1000000 := IntWalk.i64_in _ (by omega)
  have e2 : IntKind.i64.wrap (br.x * br.tap) = br.x * br.tap := IntWalk.i64_in _ (by omega)
  have hsr : -1000000 ≤ sg * 1000000 ∧ sg * 1000000 ≤ 1000000 := by omega
  generalize yQ br sg = Y at *
  have HADD := Lib.hid (fun np nq vp dp vq dq W (hc : QC W np vp dp (C i1)) (hd : QC W nq vq dq Y) => radd_c np nq vp dp vq dq _ _ W hc hd (by have := hC i1 hi1; omega) (by omega))
  have HSUB := Lib.hid (fun np nq vp dp vq dq W (hc : QC W np vp dp (setR C i1 (C i1 + Y) i2)) (hd : QC W nq vq dq Y) => rsub_c np nq vp dp vq dq _ _ W hc hd (by
    have a : sz (setR C i1 (C i1 + Y) i2) ≤ s + 17 := by
      unfold setR
      split
      · have := sz_add (C i1) Y; have := hC i1 hi1; omega
      · have := hC i2 hi2; omega
    omega) (by omega))
  have HMUL := Lib.hid (fun np nq vp dp vq dq W (hc : QC W np vp dp Y) (hd : QC W nq vq dq ((br.sh : Int) : Rat)) => rmul_c np nq vp dp vq dq _ _ W hc hd (by omega) (by have := sz_i br.sh (by omega) (by omega); omega))
  have HQU2 := Lib.hid (fun np nq vp dp vq dq W (hc : QC W np vp dp (Y * ((br.sh : Int) : Rat))) (hd : QC W nq vq dq ((1000 : Int) : Rat)) => rquo_c np nq vp dp vq dq _ _ W hc hd (by omega) (by have := sz_i 1000 (by omega) (by omega); omega))
  have HSU2 := Lib.hid (fun np nq vp dp vq dq W (hc : QC W np vp dp D) (hd : QC W nq vq dq (Y * ((br.sh : Int) : Rat) / ((1000 : Int) : Rat))) => rsub_c np nq vp dp vq dq _ _ W hc hd (by omega) (by omega))
  have hdE : D - Y * ((br.sh : Int) : Rat) / ((1000 : Int) : Rat) = flowD Y br.sh D := rfl
  rw [hdE] at HSU2
  have HL := Lib.hid hl
  have HFG : Hid (f < w.heap.size ∧ g < w.heap.size) := ⟨hl.flt, hl.row.lt⟩
  generalize Y * ((br.sh : Int) : Rat) / ((1000 : Int) : Rat) = Y2 at *
  generalize Y * ((br.sh : Int) : Rat) = Y1 at *
  generalize flowD Y br.sh D = D2 at *
  have HFC : Hid (flowC Y i1 i2 C = setR (setR C i1 (C i1 + Y)) i2 (setR C i1 (C i1 + Y) i2 - Y)) := rfl
  rw [HFC.out]
  clear HFC
  obtain ⟨bnm, fr, tt, bx, btap, bsh, blim, bsho, bhold⟩ := br
  try simp only at *
  obtain ⟨na, nc, sa, sc, ba, bc, ga, gc, la, lc, ta, tc⟩ := x0
  simp only [Value.slice.injEq] at hbv
  obtain ⟨hbv1, _, hbv2⟩ := hbv
  subst hbv1; subst hbv2
  simp only [NAddr.val] at HIX1 HIX2 ⊢
  generalize n.nodes.length = nn at *
  generalize n.sws.length = sn at *
  generalize n.brs.length = bn at *
  generalize n.gens.length = gn at *
  generalize n.loads.length = lon at *
  generalize n.stores.length = tn at *
  generalize (islandsE n).length = il at *
  have HY := Lib.hid hy
  have hjj1 : j1 < 1000000 := by omega
  have hjj2 : j2 < 1000000 := by omega
  clear hr hok hok1 hbm hfr hto hj1 hj2 hb1 hb2 hbl hbus hisl huc hbc hk h1 h2 hyE hdE hcs hd1 hd2 hd3 hl hC hD hy hs ht1 ht2
  have B2 := Lib.hid (belowA (belowA (belowA (Below.refl w.heap.size w) (.cells #[.slice na nn nc, .slice sa sn sc, .slice (some ⟨bg, bo, none⟩) bn bc, .slice ga gn gc, .slice la lon lc, .slice ta tn tc] 29)) (.cells #[.slice (some ⟨ug, uo, none⟩) nn buc, .slice isa il isc] 47)) (.cells #[.string bnm, .string fr, .string tt, .int .i64 bx, .int .i64 btap, .int .i64 bsh, .int .i64 blim, .int .i64 bsho, .int .i64 bhold] 53))
  have K6 := Lib.hid (((Blk.new w #[.slice na nn nc, .slice sa sn sc, .slice (some ⟨bg, bo, none⟩) bn bc, .slice ga gn gc, .slice la lon lc, .slice ta tn tc] 29).alloc (.cells #[.slice (some ⟨ug, uo, none⟩) nn buc, .slice isa il isc] 47)).alloc (.cells #[.string bnm, .string fr, .string tt, .int .i64 bx, .int .i64 btap, .int .i64 bsh, .int .i64 blim, .int .i64 bsho, .int .i64 bhold] 53))
  have K7 := Lib.hid ((Blk.new2 w (.cells #[.slice na nn nc, .slice sa sn sc, .slice (some ⟨bg, bo, none⟩) bn bc, .slice ga gn gc, .slice la lon lc, .slice ta tn tc] 29) #[.slice (some ⟨ug, uo, none⟩) nn buc, .slice isa il isc] 47).alloc (.cells #[.string bnm, .string fr, .string tt, .int .i64 bx, .int .i64 btap, .int .i64 bsh, .int .i64 blim, .int .i64 bsho, .int .i64 bhold] 53))
  have K10 := Lib.hid (Blk.new ((w.alloc (.cells #[.slice na nn nc, .slice sa sn sc, .slice (some ⟨bg, bo, none⟩) bn bc, .slice ga gn gc, .slice la lon lc, .slice ta tn tc] 29)).alloc (.cells #[.slice (some ⟨ug, uo, none⟩) nn buc, .slice isa il isc] 47)) #[.string bnm, .string fr, .string tt, .int .i64 bx, .int .i64 btap, .int .i64 bsh, .int .i64 blim, .int .i64 bsho, .int .i64 bhold] 53)
  rw [World.size_alloc, World.size_alloc] at K10
  have A2 : Hid (∀ o u, w.cell? ⟨ug, o, none⟩ = some u → (((w.alloc (.cells #[.slice na nn nc, .slice sa sn sc, .slice (some ⟨bg, bo, none⟩) bn bc, .slice ga gn gc, .slice la lon lc, .slice ta tn tc] 29)).alloc (.cells #[.slice (some ⟨ug, uo, none⟩) nn buc, .slice isa il isc] 47)).alloc (.cells #[.string bnm, .string fr, .string tt, .int .i64 bx, .int .i64 btap, .int .i64 bsh, .int .i64 blim, .int .i64 bsho, .int .i64 bhold] 53)).cell? ⟨ug, o, none⟩ = some u) := fun o u h => (B2.out.cell (p := ⟨ug, o, none⟩) hugl).trans h
  have L2 := Lib.hid (HL.out.below B2.out)
  clear HL
  go_enter Try.func66, Try.ntmps66
  go_upto_region 2 with fail
  generalize ((w.alloc (.cells #[.slice na nn nc, .slice sa sn sc, .slice (some ⟨bg, bo, none⟩) bn bc, .slice ga gn gc, .slice la lon lc, .slice ta tn tc] 29)).alloc (.cells #[.slice (some ⟨ug, uo, none⟩) nn buc, .slice isa il isc] 47)).alloc (.cells #[.string bnm, .string fr, .string tt, .int .i64 bx, .int .i64 btap, .int .i64 bsh, .int .i64 blim, .int .i64 bsho, .int .i64 bhold] 53) = w2 at *
  have v1 := A2.out _ _ u1
  have v2 := A2.out _ _ u2
  have V1 := Lib.hid v1
  have V2 := Lib.hid v2
  have HUG : Hid (ug < w2.heap.size) := Nat.lt_of_lt_of_le hugl B2.out.size
  have HP6 : Hid (w.heap.size ≤ w.heap.size) := Nat.le_refl _
  obtain ⟨p6, hp6⟩ : ∃ p, w.heap.size = p := ⟨_, rfl⟩
  have HPE := Lib.hid hp6
  rw [hp6] at K6 K7 K10 ⊢
  clear u1 u2 v1 v2 A2 c0 c1 c2 c3 c4 c5 c6 c7 c8 hugl hbgl hp6
  go_cut [11] from 19 to 28 (fun s wx => ∃ d1 : Nat, s = .pointer (some ⟨d1, 0, none⟩) ∧ w2.heap.size ≤ d1 ∧ Hid (QM wx d1 Y) ∧ Hid (Below w2.heap.size w2 wx))
  case first =>
    have E0 := Lib.hid (below_drew0 w2.heap.size w2)
    have HSC : Hid (∀ W, Below w2.heap.size w2 W → (W.cell? ⟨p6 + 1 + 1, 3, none⟩ = some (.int .i64 bx) ∧ W.cell? ⟨p6 + 1 + 1, 4, none⟩ = some (.int .i64 btap))) := fun W hW => by
      have k' := below_blk hW K10.out K10.out.lt
      exact ⟨k'.cell 3 rfl, k'.cell 4 rfl⟩
    clear HADD HSUB HMUL HQU2 HSU2 HIX1 HIX2 V1 V2
    go_region_held3 (fun W => (W.cell? ⟨p6 + 1 + 1, 3, none⟩ = some (.int .i64 bx) ∧ W.cell? ⟨p6 + 1 + 1, 4, none⟩ = some (.int .i64 btap)))
      ((refine HSC.out _ ?_; first
        | with_reducible exact E0.out
        | with_reducible exact (belowA E0.out _)
        | with_reducible exact (belowA (Below.refl _ _) _).drew
        | exact (belowA (Below.refl _ _) _).drew
        | with_reducible exact E1.out
        | with_reducible exact (belowA E1.out _)
        | with_reducible exact E2.out
        | with_reducible exact (belowA E2.out _)
        | with_reducible exact E3.out
        | with_reducible exact (belowA E3.out _)
        | with_reducible exact ((E3.out.setCell (p := ⟨_, 0, none⟩) E0.out.size _).setCell (p := ⟨_, 1, none⟩) E0.out.size _).setCell (p := ⟨_, 2, none⟩) E0.out.size _
        | with_reducible exact ((E3.out.setCell (p := ⟨_, 0, none⟩) E1.out.size _).setCell (p := ⟨_, 1, none⟩) E1.out.size _).setCell (p := ⟨_, 2, none⟩) E1.out.size _
        | with_reducible exact ((E3.out.setCell (p := ⟨_, 0, none⟩) E2.out.size _).setCell (p := ⟨_, 1, none⟩) E2.out.size _).setCell (p := ⟨_, 2, none⟩) E2.out.size _
        | exact ((E3.out.setCell (p := ⟨_, 0, none⟩) E0.out.size _).setCell (p := ⟨_, 1, none⟩) E0.out.size _).setCell (p := ⟨_, 2, none⟩) E0.out.size _
        | exact ((E3.out.setCell (p := ⟨_, 0, none⟩) E1.out.size _).setCell (p := ⟨_, 1, none⟩) E1.out.size _).setCell (p := ⟨_, 2, none⟩) E1.out.size _
        | exact ((E3.out.setCell (p := ⟨_, 0, none⟩) E2.out.size _).setCell (p := ⟨_, 1, none⟩) E2.out.size _).setCell (p := ⟨_, 2, none⟩) E2.out.size _))
      (first
        | (go_simp; go_at_call 34; ((with_reducible refine (HINT.out (sg * 1000000) _ (by omega) (by omega)).mono ?_); rintro e w5 ⟨⟨v5, rfl, hq⟩, hb⟩; obtain ⟨i5, aa5, mm5, cc5, bb5, ll5, kk5, rfl, h5⟩ := hq.op; have E1 : Hid (Below w2.heap.size w2 w5) := (by first | exact belowT E0.out hb | exact belowT (belowA E0.out _) hb | exact belowT (belowA (Below.refl _ _) _).drew hb); have R5 := Lib.hid h5; (first | (have NB1 := Lib.hid (below_blk hb (Blk.new _ #[.bool false, .slice none 0 0, .slice none 0 0] 80) (Blk.new _ _ _).lt)) | (have NB1 := Lib.hid (below_blk hb (Blk.new w2 #[.bool false, .slice none 0 0, .slice none 0 0] 80).drew (Blk.new w2 #[.bool false, .slice none 0 0, .slice none 0 0] 80).drew.lt)) | skip); clear hb hq h5))
        | (go_simp; go_at_call 34; ((with_reducible refine (HINT.out (bx * btap) _ (by omega) (by omega)).mono ?_); rintro e w6 ⟨⟨v6, rfl, hq⟩, hb⟩; obtain ⟨i6, aa6, mm6, cc6, bb6, ll6, kk6, rfl, h6⟩ := hq.op; have E2 : Hid (Below w2.heap.size w2 w6) := (by first | exact belowT E1.out hb | exact belowT (belowA E1.out _) hb); have R6 := Lib.hid h6; have R56 : Hid (QC w6 i5 (.slice aa5 mm5 cc5) (.slice bb5 ll5 kk5) ((sg * 1000000 : Int) : Rat)) := (by first | exact R5.out.below hb | exact (R5.out.below (belowA (Below.refl _ _) _)).below hb); (first | (have NB2 := Lib.hid (below_blk hb NB1.out NB1.out.lt)) | (have NB2 := Lib.hid (below_blk hb (Blk.new _ #[.bool false, .slice none 0 0, .slice none 0 0] 80) (Blk.new _ _ _).lt)) | skip); clear hb hq h6))
        | (go_simp; go_at_call 79; ((with_reducible refine (HQUO.out _ _ _ _ _ _ _ (by first | exact R56.out | exact R56.out.below (belowA (Below.refl _ _) _)) (by first | exact R6.out | exact R6.out.below (belowA (Below.refl _ _) _))).mono ?_); rintro e w9 ⟨⟨v9, rfl, hq⟩, hb⟩; obtain ⟨i9, aa9, mm9, cc9, bb9, ll9, kk9, rfl, h9⟩ := hq.op; have E3 : Hid (Below w2.heap.size w2 w9) := (by first | exact belowT E2.out hb | exact belowT (belowA E2.out _) hb); have R9 := Lib.hid h9; (first | (have NB3 := Lib.hid (below_blk hb NB2.out NB2.out.lt)) | (have NB3 := Lib.hid (below_blk hb (Blk.new _ #[.bool false, .slice none 0 0, .slice none 0 0] 80) (Blk.new _ _ _).lt)) | skip); clear hb hq h9; (first | (have v0 := NB3.out.cell 0 rfl; have v1 := NB3.out.cell 1 rfl; have v2 := NB3.out.cell 2 rfl; have f0 := NB3.out.free 0; have f1 := NB3.out.free 1; have f2 := NB3.out.free 2; have nlt := NB3.out.lt) | skip))))
    all_goals
      go_simp
      go_wp2_with fail
      go_meet
      first
        | exact ⟨_, rfl, E3.out.size, QM.new R9.out, belowA E3.out _⟩
        | exact ⟨_, rfl, E0.out.size, QM.put NB3.out R9.out, ((E3.out.setCell (p := ⟨_, 0, none⟩) E0.out.size _).setCell (p := ⟨_, 1, none⟩) E0.out.size _).setCell (p := ⟨_, 2, none⟩) E0.out.size _⟩
        | exact ⟨_, rfl, E1.out.size, QM.put NB3.out R9.out, ((E3.out.setCell (p := ⟨_, 0, none⟩) E1.out.size _).setCell (p := ⟨_, 1, none⟩) E1.out.size _).setCell (p := ⟨_, 2, none⟩) E1.out.size _⟩
        | exact ⟨_, rfl, E2.out.size, QM.put NB3.out R9.out, ((E3.out.setCell (p := ⟨_, 0, none⟩) E2.out.size _).setCell (p := ⟨_, 1, none⟩) E2.out.size _).setCell (p := ⟨_, 2, none⟩) E2.out.size _⟩
  case rest =>
    obtain ⟨d1, rfl, hd1, hm1, hb1⟩ := hcut
    have BX := Lib.hid (belowT B2.out hb1.out)
    have BD := Lib.hid (below_drew BX.out)
    have HJ1 := Lib.hid (HIX1.out wc.drew BD.out)
    have HJ2 := Lib.hid (HIX2.out wc.drew BD.out)
    have k6 := below_blk hb1.out K6.out K6.out.lt
    have k7 := below_blk hb1.out K7.out K7.out.lt
    have k10 := below_blk hb1.out K10.out K10.out.lt
    have v1 := (hb1.out.cell (p := ⟨ug, uo + j1, none⟩) HUG.out).trans V1.out
    have v2 := (hb1.out.cell (p := ⟨ug, uo + j2, none⟩) HUG.out).trans V2.out
    have HAA : Hid (wc.drew.cell? ⟨p6, 0, none⟩ = some (.slice na nn nc) ∧ wc.drew.cell? ⟨p6 + 1, 0, none⟩ = some (.slice (some ⟨ug, uo, none⟩) nn buc) ∧ wc.drew.cell? ⟨p6 + 1 + 1, 1, none⟩ = some (.string fr) ∧ wc.drew.cell? ⟨p6 + 1 + 1, 2, none⟩ = some (.string tt) ∧ wc.drew.cell? ⟨ug, uo + j1, none⟩ = some (.int .i64 (i1 : Int)) ∧ wc.drew.cell? ⟨ug, uo + j2, none⟩ = some (.int .i64 (i2 : Int))) := ⟨k6.drew.cell 0 rfl, k7.drew.cell 0 rfl, k10.drew.cell 1 rfl, k10.drew.cell 2 rfl, v1, v2⟩
    have l4 := (L2.out.below hb1.out).below (below_drew0 wc.heap.size wc)
    have m4 := hm1.out.below (below_drew0 wc.heap.size wc)
    have k4 := k10.drew
    have s4 : ButS (fun b => b = f ∨ b = g) w wc.drew := (ButS.refl _ _).below BD.out
    have HDG : Hid (f < d1 ∧ g < d1) := by
      obtain ⟨a1, a2⟩ := HFG.out
      have := B2.out.size
      exact ⟨by omega, by omega⟩
    have HGP : Hid (f < p6 ∧ g < p6) := by
      obtain ⟨a1, a2⟩ := HFG.out
      have := HPE.out
      exact ⟨by omega, by omega⟩
    clear BX BD k6 k7 k10 v1 v2 hb1 hm1 L2 K6 K7 K10 V1 V2 HIX1 HIX2 HUG HFG HQUO hd1 B2
    go_wp2_with fail
    go_region_held3 (fun W => (W.cell? ⟨p6, 0, none⟩ = some (.slice na nn nc) ∧ W.cell? ⟨p6 + 1, 0, none⟩ = some (.slice (some ⟨ug, uo, none⟩) nn buc) ∧ W.cell? ⟨p6 + 1 + 1, 1, none⟩ = some (.string fr) ∧ W.cell? ⟨p6 + 1 + 1, 2, none⟩ = some (.string tt) ∧ W.cell? ⟨ug, uo + j1, none⟩ = some (.int .i64 (i1 : Int)) ∧ W.cell? ⟨ug, uo + j2, none⟩ = some (.int .i64 (i2 : Int))))
      (with_reducible exact HAA.out)
      (first
        | (go_at_call 62; ((with_reducible refine HJ1.out.mono ?_); rintro e w' ⟨rfl, rfl⟩))
        | (go_at_call 62; ((with_reducible refine HJ2.out.mono ?_); rintro e w' ⟨rfl, rfl⟩)))
    all_goals
      clear HAA HJ1 HJ2
      go_simp
      go_upto_region 4 with fail
      generalize wc.drew = w4 at *
      have L4 := Lib.hid l4
      have M4 := Lib.hid m4
      have K4 := Lib.hid k4
      have S4 := Lib.hid s4
      have HCALL := HADD
      clear l4 m4 k4 s4 HADD
      obtain ⟨xn, xna, xnl, xnc, xda, xdl, xdc, x0, x1, x2, hqx⟩ := L4.out.row.ent hi1
      obtain ⟨yg, ya, ym, yc, yb, yl, yk, yq, yblk⟩ := M4.out.parts
      obtain ⟨fg, fna, fn, fnc, fda, fdl, fdc, fblk, fq⟩ := L4.out.parts
      have FB := Lib.hid fblk
      have YB := Lib.hid yblk
      have FQ := Lib.hid fq
      have YQ := Lib.hid yq
      have hfl := fblk.lt
      have hyl := yblk.lt
      have hgl := L4.out.row.lt
      have hfg := L4.out.ne
      have hyg : d1 ≠ g := fun e => by have := HDG.out; omega
      have HAD : Hid (∀ W, Below w4.heap.size w4 W → Calls Try.prog 82 #[.agg #[.bool xn, .slice xna xnl xnc, .slice xda xdl xdc], .agg #[.bool yg, .slice ya ym yc, .slice yb yl yk]] W fun e w' => (∃ v, e = .returned v ∧ QV w' v (C i1 + Y)) ∧ Below W.heap.size W w') := fun W hW => HCALL.out _ _ _ _ _ _ W (hqx.below hW) (yq.below hW)
      have HSC : Hid (∀ W, Below w4.heap.size w4 W → (W.cell? ⟨f, 0, none⟩ = some (.slice (some ⟨g, 0, none⟩) m m) ∧ W.cell? ⟨d1, 0, none⟩ = some (.bool yg) ∧ W.cell? ⟨d1, 1, none⟩ = some (.slice ya ym yc) ∧ W.cell? ⟨d1, 2, none⟩ = some (.slice yb yl yk))) := fun W hW => by
        have k1 := below_blk hW FB.out FB.out.lt
        have k2 := below_blk hW YB.out YB.out.lt
        exact ⟨k1.cell 0 rfl, k2.cell 0 rfl, k2.cell 1 rfl, k2.cell 2 rfl⟩
      have HSS : Hid (∀ w5 W', But g w5 W' → Below w4.heap.size w4 w5 → (W'.cell? ⟨f, 0, none⟩ = some (.slice (some ⟨g, 0, none⟩) m m) ∧ W'.cell? ⟨d1, 0, none⟩ = some (.bool yg) ∧ W'.cell? ⟨d1, 1, none⟩ = some (.slice ya ym yc) ∧ W'.cell? ⟨d1, 2, none⟩ = some (.slice yb yl yk))) := fun w5 W' hb hW => by
        have k1 := hb.blk (below_blk hW FB.out FB.out.lt) hfg
        have k2 := hb.blk (below_blk hW YB.out YB.out.lt) hyg
        exact ⟨k1.cell 0 rfl, k2.cell 0 rfl, k2.cell 1 rfl, k2.cell 2 rfl⟩
      have E0 := Lib.hid (below_drew0 w4.heap.size w4)
      have hlc : i1 < 1000000 := by omega
      obtain ⟨T, hT⟩ : ∃ q, C i1 + Y = q := ⟨_, rfl⟩
      have HTE := Lib.hid hT
      rw [hT] at HAD
      clear hT hqx yq yblk fblk fq
      rw [show Op.load 80 (.tmp 57) = hideLoad 80 (.tmp 57) from rfl]
      go_region_held3 (fun W => (W.cell? ⟨f, 0, none⟩ = some (.slice (some ⟨g, 0, none⟩) m m) ∧ W.cell? ⟨d1, 0, none⟩ = some (.bool yg) ∧ W.cell? ⟨d1, 1, none⟩ = some (.slice ya ym yc) ∧ W.cell? ⟨d1, 2, none⟩ = some (.slice yb yl yk)))
        (first
          | exact HSC.out _ E0.out
          | exact HSC.out _ E1.out
          | exact HSF.out)
        (first
          | (go_simp; go_at_call 82; ((with_reducible refine (HAD.out _ E0.out).mono ?_); rintro e w5 ⟨⟨v5, rfl, rg, rn, rd, rfl, hqc⟩, hb5⟩; obtain ⟨ra, rca, rda, rdl, rdc, rfl, rfl, _⟩ := hqc.parts; have E1 := Lib.hid (belowT E0.out hb5); have HQC := Lib.hid hqc; obtain ⟨rl, hrl⟩ : ∃ l, ln T.num.natAbs = l := ⟨_, rfl⟩; rw [hrl] at HQC ⊢; have l5 := L4.out.below E1.out; have L5 := Lib.hid l5; obtain ⟨_, _, _, _, _, _, _, z0, z1, z2, _⟩ := l5.row.ent hi1; have f0 := l5.row.free (i1 * 3); have f1 := l5.row.free (i1 * 3 + 1); have f2 := l5.row.free (i1 * 3 + 2); have hgl5 := l5.row.lt; have HSF := Lib.hid (HSS.out w5 _ (but_putQ w5 g (i1 * 3) rg (.slice ra rl rca) (.slice rda rdl rdc)) E1.out); clear hb5 hqc hrl l5)))
      all_goals
        obtain ⟨cur5, hcur5⟩ := L5.out.row.blk
        have l6 := L5.out.put hi1 HQC.out
        have m6 := (M4.out.below E1.out).other hcur5 (but_putQ w5 g (i1 * 3) rg (.slice ra rl rca) (.slice rda rdl rdc)) hyg
        have k6 := (but_putQ w5 g (i1 * 3) rg (.slice ra rl rca) (.slice rda rdl rdc)).blk (below_blk E1.out K4.out K4.out.lt) (fun e => by have := HGP.out; omega)
        have s6 : ButS (fun b => b = f ∨ b = g) w (putQ w5 g (i1 * 3) rg (.slice ra rl rca) (.slice rda rdl rdc)) := (((S4.out.below E1.out).set (a := ⟨g, i1 * 3, none⟩) (Or.inl (Or.inr rfl)) (.bool rg)).set (a := ⟨g, i1 * 3 + 1, none⟩) (Or.inl (Or.inr rfl)) (.slice ra rl rca)).set (a := ⟨g, i1 * 3 + 2, none⟩) (Or.inl (Or.inr rfl)) (.slice rda rdl rdc)
        rw [← HTE.out] at l6
        clear hcur5 x0 x1 x2 z0 z1 z2 f0 f1 f2 hgl5 HSF HSS HSC HAD FB YB FQ YQ hfl hyl hgl hyg HQC E0 E1 L4 M4 K4 S4 L5 hlc HTE HCALL
        go_simp
        go_upto_region 5 with fail
        obtain ⟨w6, hw6⟩ : ∃ W, putQ w5 g (i1 * 3) rg (.slice ra rl rca) (.slice rda rdl rdc) = W := ⟨_, rfl⟩
        rw [hw6] at l6 m6 k6 s6
        unfold putQ at hw6
        rw [hw6]
        clear hw6
        have L4 := Lib.hid l6
        have M4 := Lib.hid m6
        have K4 := Lib.hid k6
        have S4 := Lib.hid s6
        clear l6 m6 k6 s6
        have HCALL := HSUB
        clear HSUB
        generalize hC1 : setR C i1 (C i1 + Y) = C1 at HCALL L4
        have HC1 := Lib.hid hC1
        clear hC1
        obtain ⟨xn, xna, xnl, xnc, xda, xdl, xdc, x0, x1, x2, hqx⟩ := L4.out.row.ent hi2
        obtain ⟨yg, ya, ym, yc, yb, yl, yk, yq, yblk⟩ := M4.out.parts
        obtain ⟨fg, fna, fn, fnc, fda, fdl, fdc, fblk, fq⟩ := L4.out.parts
        have FB := Lib.hid fblk
        have YB := Lib.hid yblk
        have FQ := Lib.hid fq
        have YQ := Lib.hid yq
        have hfl := fblk.lt
        have hyl := yblk.lt
        have hgl := L4.out.row.lt
        have hfg := L4.out.ne
        have hyg : d1 ≠ g := fun e => by have := HDG.out; omega
        have HAD : Hid (∀ W, Below w6.heap.size w6 W → Calls Try.prog 80 #[.agg #[.bool xn, .slice xna xnl xnc, .slice xda xdl xdc], .agg #[.bool yg, .slice ya ym yc, .slice yb yl yk]] W fun e w' => (∃ v, e = .returned v ∧ QV w' v (C1 i2 - Y)) ∧ Below W.heap.size W w') := fun W hW => HCALL.out _ _ _ _ _ _ W (hqx.below hW) (yq.below hW)
        have HSC : Hid (∀ W, Below w6.heap.size w6 W → (W.cell? ⟨f, 0, none⟩ = some (.slice (some ⟨g, 0, none⟩) m m) ∧ W.cell? ⟨d1, 0, none⟩ = some (.bool yg) ∧ W.cell? ⟨d1, 1, none⟩ = some (.slice ya ym yc) ∧ W.cell? ⟨d1, 2, none⟩ = some (.slice yb yl yk))) := fun W hW => by
          have k1 := below_blk hW FB.out FB.out.lt
          have k2 := below_blk hW YB.out YB.out.lt
          exact ⟨k1.cell 0 rfl, k2.cell 0 rfl, k2.cell 1 rfl, k2.cell 2 rfl⟩
        have HSS : Hid (∀ w7 W', But g w7 W' → Below w6.heap.size w6 w7 → (W'.cell? ⟨f, 0, none⟩ = some (.slice (some ⟨g, 0, none⟩) m m) ∧ W'.cell? ⟨d1, 0, none⟩ = some (.bool yg) ∧ W'.cell? ⟨d1, 1, none⟩ = some (.slice ya ym yc) ∧ W'.cell? ⟨d1, 2, none⟩ = some (.slice yb yl yk))) := fun w7 W' hb hW => by
          have k1 := hb.blk (below_blk hW FB.out FB.out.lt) hfg
          have k2 := hb.blk (below_blk hW YB.out YB.out.lt) hyg
          exact ⟨k1.cell 0 rfl, k2.cell 0 rfl, k2.cell 1 rfl, k2.cell 2 rfl⟩
        have E0 := Lib.hid (below_drew0 w6.heap.size w6)
        have hlc : i2 < 1000000 := by omega
        obtain ⟨T, hT⟩ : ∃ q, C1 i2 - Y = q := ⟨_, rfl⟩
        have HTE := Lib.hid hT
        rw [hT] at HAD
        clear hT hqx yq yblk fblk fq
        rw [show Op.load 80 (.tmp 72) = hideLoad 80 (.tmp 72) from rfl]
        go_region_held3 (fun W => (W.cell? ⟨f, 0, none⟩ = some (.slice (some ⟨g, 0, none⟩) m m) ∧ W.cell? ⟨d1, 0, none⟩ = some (.bool yg) ∧ W.cell? ⟨d1, 1, none⟩ = some (.slice ya ym yc) ∧ W.cell? ⟨d1, 2, none⟩ = some (.slice yb yl yk)))
          (first
            | exact HSC.out _ E0.out
            | exact HSC.out _ E1.out
            | exact HSF.out)
          (first
            | (go_simp; go_at_call 80; ((with_reducible refine (HAD.out _ E0.out).mono ?_); rintro e w7 ⟨⟨v5, rfl, rg, rn, rd, rfl, hqc⟩, hb5⟩; obtain ⟨ra, rca, rda, rdl, rdc, rfl, rfl, _⟩ := hqc.parts; have E1 := Lib.hid (belowT E0.out hb5); have HQC := Lib.hid hqc; obtain ⟨rl, hrl⟩ : ∃ l, ln T.num.natAbs = l := ⟨_, rfl⟩; rw [hrl] at HQC ⊢; have l5 := L4.out.below E1.out; have L5 := Lib.hid l5; obtain ⟨_, _, _, _, _, _, _, z0, z1, z2, _⟩ := l5.row.ent hi2; have f0 := l5.row.free (i2 * 3); have f1 := l5.row.free (i2 * 3 + 1); have f2 := l5.row.free (i2 * 3 + 2); have hgl5 := l5.row.lt; have HSF := Lib.hid (HSS.out w7 _ (but_putQ w7 g (i2 * 3) rg (.slice ra rl rca) (.slice rda rdl rdc)) E1.out); clear hb5 hqc hrl l5)))
        all_goals
          obtain ⟨cur5, hcur5⟩ := L5.out.row.blk
          have l6 := L5.out.put hi2 HQC.out
          have m6 := (M4.out.below E1.out).other hcur5 (but_putQ w7 g (i2 * 3) rg (.slice ra rl rca) (.slice rda rdl rdc)) hyg
          have k6 := (but_putQ w7 g (i2 * 3) rg (.slice ra rl rca) (.slice rda rdl rdc)).blk (below_blk E1.out K4.out K4.out.lt) (fun e => by have := HGP.out; omega)
          have s6 : ButS (fun b => b = f ∨ b = g) w (putQ w7 g (i2 * 3) rg (.slice ra rl rca) (.slice rda rdl rdc)) := (((S4.out.below E1.out).set (a := ⟨g, i2 * 3, none⟩) (Or.inl (Or.inr rfl)) (.bool rg)).set (a := ⟨g, i2 * 3 + 1, none⟩) (Or.inl (Or.inr rfl)) (.slice ra rl rca)).set (a := ⟨g, i2 * 3 + 2, none⟩) (Or.inl (Or.inr rfl)) (.slice rda rdl rdc)
          rw [← HTE.out] at l6
          clear hcur5 x0 x1 x2 z0 z1 z2 f0 f1 f2 hgl5 HSF HSS HSC HAD FB YB FQ YQ hfl hyl hgl hyg HQC E0 E1 L4 M4 K4 S4 L5 hlc HTE HCALL
          go_simp
          go_upto_region 6 with fail
          obtain ⟨w8, hw6⟩ : ∃ W, putQ w7 g (i2 * 3) rg (.slice ra rl rca) (.slice rda rdl rdc) = W := ⟨_, rfl⟩
          rw [hw6] at l6 m6 k6 s6
          unfold putQ at hw6
          rw [hw6]
          clear hw6
          have L4 := Lib.hid l6
          have M4 := Lib.hid m6
          have K4 := Lib.hid k6
          have S4 := Lib.hid s6
          clear l6 m6 k6 s6
          obtain ⟨yg, ya, ym, yc, yb, yl, yk, yq, yblk⟩ := M4.out.parts
          obtain ⟨fg, fna, fn, fnc, fda, fdl, fdc, fblk, fq⟩ := L4.out.parts
          have FB := Lib.hid fblk
          have YB := Lib.hid yblk
          have FQ := Lib.hid fq
          have YQ := Lib.hid yq
          have hfl := fblk.lt
          have hyl := yblk.lt
          have t1 := fblk.cell 1 rfl
          have t2 := fblk.cell 2 rfl
          have t3 := fblk.cell 3 rfl
          have hyf : d1 ≠ f := fun e => by have := HDG.out; omega
          have hbf : p6 + 1 + 1 ≠ f := fun e => by have := HGP.out; omega
          have HSC : Hid (∀ W, Below w8.heap.size w8 W → (W.cell? ⟨p6 + 1 + 1, 5, none⟩ = some (.int .i64 bsh) ∧ W.cell? ⟨d1, 0, none⟩ = some (.bool yg) ∧ W.cell? ⟨d1, 1, none⟩ = some (.slice ya ym yc) ∧ W.cell? ⟨d1, 2, none⟩ = some (.slice yb yl yk))) := fun W hW => by
            have k1 := below_blk hW K4.out K4.out.lt
            have k2 := below_blk hW YB.out YB.out.lt
            exact ⟨k1.cell 5 rfl, k2.cell 0 rfl, k2.cell 1 rfl, k2.cell 2 rfl⟩
          have HSS : Hid (∀ w9 W', But f w9 W' → Below w8.heap.size w8 w9 → (W'.cell? ⟨p6 + 1 + 1, 5, none⟩ = some (.int .i64 bsh) ∧ W'.cell? ⟨d1, 0, none⟩ = some (.bool yg) ∧ W'.cell? ⟨d1, 1, none⟩ = some (.slice ya ym yc) ∧ W'.cell? ⟨d1, 2, none⟩ = some (.slice yb yl yk))) := fun w9 W' hb hW => by
            have k1 := hb.blk (below_blk hW K4.out K4.out.lt) hbf
            have k2 := hb.blk (below_blk hW YB.out YB.out.lt) hyf
            exact ⟨k1.cell 5 rfl, k2.cell 0 rfl, k2.cell 1 rfl, k2.cell 2 rfl⟩
          have E0 := Lib.hid (below_drew0 w8.heap.size w8)
          clear yq yblk fblk fq
          rw [show Op.load 80 (.tmp 80) = hideLoad 80 (.tmp 80) from rfl]
          go_region_held3 (fun W => (W.cell? ⟨p6 + 1 + 1, 5, none⟩ = some (.int .i64 bsh) ∧ W.cell? ⟨d1, 0, none⟩ = some (.bool yg) ∧ W.cell? ⟨d1, 1, none⟩ = some (.slice ya ym yc) ∧ W.cell? ⟨d1, 2, none⟩ = some (.slice yb yl yk)))
            (first
              | with_reducible exact HSC.out _ E0.out
              | with_reducible exact HSC.out _ E1.out
              | with_reducible exact HSC.out _ E2.out
              | with_reducible exact HSC.out _ E3.out
              | with_reducible exact HSC.out _ E4.out
              | with_reducible exact HSC.out _ E5.out
              | exact HSF.out)
            (first
              | (go_simp; go_at_call 34; ((with_reducible refine (HINT.out bsh _ (by omega) (by omega)).mono ?_); rintro e u1 ⟨⟨v1, rfl, hq⟩, hb⟩; obtain ⟨i11, aa1, mm1, cc1, bb1, ll1, kk1, rfl, h1⟩ := hq.op; have E1 := Lib.hid (belowT E0.out hb); have R1 := Lib.hid h1; have fk := below_blk E1.out FB.out FB.out.lt; have t11 := fk.cell 1 rfl; have t12 := fk.cell 2 rfl; have t13 := fk.cell 3 rfl; have tl1 := fk.lt; clear hb hq h1 fk))
              | (go_simp; go_at_call 81; ((with_reducible refine (HMUL.out _ _ _ _ _ _ _ (YQ.out.below E1.out) R1.out).mono ?_); rintro e u2 ⟨⟨v2, rfl, hq⟩, hb⟩; obtain ⟨i12, aa2, mm2, cc2, bb2, ll2, kk2, rfl, h2⟩ := hq.op; have E2 := Lib.hid (belowT E1.out hb); have R2 := Lib.hid h2; have fk := below_blk E2.out FB.out FB.out.lt; have t21 := fk.cell 1 rfl; have t22 := fk.cell 2 rfl; have t23 := fk.cell 3 rfl; have tl2 := fk.lt; clear hb hq h2 fk))
              | (go_simp; go_at_call 34; ((with_reducible refine (HINT.out 1000 _ (by omega) (by omega)).mono ?_); rintro e u3 ⟨⟨v3, rfl, hq⟩, hb⟩; obtain ⟨i13, aa3, mm3, cc3, bb3, ll3, kk3, rfl, h3⟩ := hq.op; have E3 := Lib.hid (belowT E2.out hb); have R3 := Lib.hid h3; have R23 := Lib.hid (R2.out.below hb); have fk := below_blk E3.out FB.out FB.out.lt; have t31 := fk.cell 1 rfl; have t32 := fk.cell 2 rfl; have t33 := fk.cell 3 rfl; have tl3 := fk.lt; clear hb hq h3 fk))
              | (go_simp; go_at_call 79; ((with_reducible refine (HQU2.out _ _ _ _ _ _ _ R23.out R3.out).mono ?_); rintro e u4 ⟨⟨v4, rfl, hq⟩, hb⟩; obtain ⟨i14, aa4, mm4, cc4, bb4, ll4, kk4, rfl, h4⟩ := hq.op; have E4 := Lib.hid (belowT E3.out hb); have R4 := Lib.hid h4; have fk := below_blk E4.out FB.out FB.out.lt; have t41 := fk.cell 1 rfl; have t42 := fk.cell 2 rfl; have t43 := fk.cell 3 rfl; have tl4 := fk.lt; clear hb hq h4 fk))
              | (go_simp; go_at_call 80; ((with_reducible refine (HSU2.out _ _ _ _ _ _ _ (FQ.out.below E4.out) R4.out).mono ?_); rintro e u5 ⟨⟨v5, rfl, hq⟩, hb⟩; obtain ⟨i15, aa5, mm5, cc5, bb5, ll5, kk5, rfl, h5⟩ := hq.op; have E5 := Lib.hid (belowT E4.out hb); have R5 := Lib.hid h5; have fk := below_blk E5.out FB.out FB.out.lt; have t51 := fk.cell 1 rfl; have t52 := fk.cell 2 rfl; have t53 := fk.cell 3 rfl; have tl5 := fk.lt; have f51 := fk.free 1; have f52 := fk.free 2; have f53 := fk.free 3; have HSF := Lib.hid (HSS.out u5 _ (but_setD u5 f (.bool i15) (.slice aa5 mm5 cc5) (.slice bb5 ll5 kk5)) E5.out); clear hb hq h5 fk)))
          all_goals
            have l9 := Lib.hid ((L4.out.below E5.out).putD R5.out)
            have s9 : Hid (ButS (fun b => b = f ∨ b = g) w (setD u5 f (.bool i15) (.slice aa5 mm5 cc5) (.slice bb5 ll5 kk5))) := (((S4.out.below E5.out).set (a := ⟨f, 1, none⟩) (Or.inl (Or.inl rfl)) (.bool i15)).set (a := ⟨f, 2, none⟩) (Or.inl (Or.inl rfl)) (.slice aa5 mm5 cc5)).set (a := ⟨f, 3, none⟩) (Or.inl (Or.inl rfl)) (.slice bb5 ll5 kk5)
            clear HSF HSS HSC E0 E1 E2 E3 E4 E5 L4 M4 K4 S4
            go_simp
            go_wp2_with fail
            go_end0
            exact ⟨rfl, by rw [HC1.out]; exact l9.out, s9.out⟩
end Go.Proofs.Ythcddboeejbncaa
