/- zone.distance. -/
import Derived.Test.YtplebibabcdipaaZon6
import Derived.Deep.CutRange
import Derived.Deep.RegionHeld3
namespace Go.Proofs.Ytplebibabcdipaa
open Go.RowKit

theorem ite_cases {c : Prop} [Decidable c] {a b : ByteArray} {nl : List ByteArray} (h1 : hasS a nl = true) (h2 : hasS b nl = true) : hasS (if c then a else b) nl = true := by
  split
  · exact h1
  · exact h2
set_option maxHeartbeats 8000000 in
set_option maxRecDepth 100000 in
theorem distance_c (x0 : NAddr) (n : Net) (node rbr pbr : ByteArray) (za : Option Addr) (zn zc : Nat) (part : Int) (k1 k2 : Nat) (b c : NBr) (w : World) (hr : NetR w x0 n) (hok : n.Ok)
    (hk1 : brAt n rbr = k1) (hb : n.brs[k1]? = some b) (hk2 : brAt n pbr = k2) (hc : n.brs[k2]? = some c) (hp0 : 0 ≤ part) (hp1 : part ≤ 1000) :
    Calls Try.prog 38 #[x0.val n, .agg #[.string node, .string rbr, .slice za zn zc], .agg #[.string pbr, .int .i64 part]] w fun e w' =>
      e = .returned (.tuple #[.int .i64 (distB n node b c k1 k2 part).1, .bool (distB n node b c k1 k2 part).2]) ∧ Below w.heap.size w w' := by
  have HBR : Hid (∀ nm W, Below w.heap.size w W → Calls Try.prog 36 #[x0.val n, .string nm] W fun e w' => e = .returned (.int .i64 (brAt n nm)) ∧ Below W.heap.size W w') := fun nm W hW => zbr_c x0 n nm W (hr.below hW)
  have HED : Hid (∀ out v W, Below w.heap.size w W → IVal W v out → Calls Try.prog 86 #[x0.val n, v] W fun e w' => ∃ lv, e = .returned lv ∧ Reads w' lv (edgesR n out).length (flat Edg.cells (edgesR n out)) ∧ Below W.heap.size W w') := fun out v W hW hv =>
    edges_c x0 n out v W (hr.below hW) hok.ns hok.nb (fun b hb => ⟨by have := (hok.br b hb).2.2.1; omega, (hok.br b hb).2.2.2⟩) hv
  have HLE : Hid (∀ (s : Nat) (ev : Value) (out : List Int) (W : World), s < n.nodes.length → Reads W ev (edgesR n out).length (flat Edg.cells (edgesR n out)) → Calls Try.prog 85 #[.int .i64 n.nodes.length, ev, .int .i64 s] W fun e w' => ∃ lv, e = .returned lv ∧ Reads w' lv n.nodes.length (ints (lens (edgesR n out) (len0 n.nodes.length s))) ∧ Below W.heap.size W w') := fun s ev out W hs hv =>
    lengths_c n.nodes.length s (edgesR n out) ev W hok.nn hs (edgesR_ok hok out) hv
  have hob := hok.br b (List.mem_of_getElem? hb)
  have hoc := hok.br c (List.mem_of_getElem? hc)
  have HDD : Hid (distB n node b c k1 k2 part = if (k1 : Int) = k2 then (if sameB node b.fr = true then (b.x * part, true) else (b.x * (1000 - part), true)) else
    (1000 * b.x + (bestS n.nodes (lensR n node b k1 k2) (bestS n.nodes (lensR n node b k1 k2) (0, false) c.fr (c.x * part)) c.to (c.x * (1000 - part))).1, (bestS n.nodes (lensR n node b k1 k2) (bestS n.nodes (lensR n node b k1 k2) (0, false) c.fr (c.x * part)) c.to (c.x * (1000 - part))).2)) := rfl
  generalize distB n node b c k1 k2 part = DD at *
  have HB1 := Lib.hid (HBR.out rbr)
  have HB2 := Lib.hid (HBR.out pbr)
  rw [hk1] at HB1
  rw [hk2] at HB2
  have HLR : Hid (lensR n node b k1 k2 = lens (edgesR n [(k1 : Int), k2]) (len0 n.nodes.length (idxS (otherR node b) n.nodes 0).toNat)) := rfl
  have HED2 := Lib.hid (HED.out [(k1 : Int), k2])
  have HLE2 := Lib.hid (fun s ev W => HLE.out s ev [(k1 : Int), k2] W)
  have HLD : Hid (∀ s, s < n.nodes.length → DOk n.nodes.length (lens (edgesR n [(k1 : Int), k2]) (len0 n.nodes.length s))) := fun s hs => lens_ok hok.nn _ (edgesR_ok hok _) _ (len0_ok hs)
  have h24 := hok.nn
  have hR0 := hr.nodes
  have hR2 := hr.brs
  clear HBR HED HLE hok hr
  generalize lensR n node b k1 k2 = LL at *
  generalize edgesR n [(k1 : Int), k2] = ER at *
  obtain ⟨na, nc, sa, sc, ba, bc, ga, gc, la, lc, ta, tc⟩ := x0
  obtain ⟨nl, sws, brs, gens, loads, stores⟩ := n
  simp only [NAddr.val] at HB1 HB2 HED2 HLE2 HLD h24 hR0 hR2 hb hc hk1 hk2 HDD HLR hob hoc ⊢
  obtain ⟨nn, hN⟩ : ∃ n, nl.length = n := ⟨_, rfl⟩
  obtain ⟨bn, hB⟩ : ∃ n, brs.length = n := ⟨_, rfl⟩
  have HNN := Lib.hid hN
  have HBN := Lib.hid hB
  generalize sws.length = sn at *
  generalize gens.length = gn at *
  generalize loads.length = ln at *
  generalize stores.length = tn at *
  rw [hN] at HB1 HB2 HED2 HLE2 HLD h24 hR0 HLR
  rw [hB] at HB1 HB2 HED2 hR2
  rw [hN, hB]
  have hl1 : k1 < bn := by rw [← hB]; exact (List.getElem?_eq_some_iff.1 hb).1
  have hl2 : k2 < bn := by rw [← hB]; exact (List.getElem?_eq_some_iff.1 hc).1
  clear hN hB hk1 hk2
  have B1 := belowA (Below.refl w.heap.size w) (.cells #[.slice na nn nc, .slice sa sn sc, .slice ba bn bc, .slice ga gn gc, .slice la ln lc, .slice ta tn tc] 29)
  have K1 := Blk.new w #[.slice na nn nc, .slice sa sn sc, .slice ba bn bc, .slice ga gn gc, .slice la ln lc, .slice ta tn tc] 29
  generalize hW1 : w.alloc (.cells #[.slice na nn nc, .slice sa sn sc, .slice ba bn bc, .slice ga gn gc, .slice la ln lc, .slice ta tn tc] 29) = W1 at *
  have B2 := belowA B1 (.cells #[.string node, .string rbr, .slice za zn zc] 44)
  have K2 := K1.alloc (.cells #[.string node, .string rbr, .slice za zn zc] 44)
  have L2 := Blk.new W1 #[.string node, .string rbr, .slice za zn zc] 44
  generalize hW2 : W1.alloc (.cells #[.string node, .string rbr, .slice za zn zc] 44) = W2 at *
  have B3 := Lib.hid (belowA B2 (.cells #[.string pbr, .int .i64 part] 31))
  have K3 := K2.alloc (.cells #[.string pbr, .int .i64 part] 31)
  have L3 := L2.alloc (.cells #[.string pbr, .int .i64 part] 31)
  have M3 := Blk.new W2 #[.string pbr, .int .i64 part] 31
  generalize hW3 : W2.alloc (.cells #[.string pbr, .int .i64 part] 31) = W3 at *
  have KK := Lib.hid K3
  have LK := Lib.hid L3
  have MK := Lib.hid M3
  clear B1 K1 B2 K2 L2
  have HSB : Hid (∀ W, Below W3.heap.size W3 W → (W.cell? ⟨w.heap.size, 0, none⟩ = some (.slice na nn nc) ∧ W.cell? ⟨w.heap.size, 1, none⟩ = some (.slice sa sn sc) ∧ W.cell? ⟨w.heap.size, 2, none⟩ = some (.slice ba bn bc) ∧ W.cell? ⟨w.heap.size, 3, none⟩ = some (.slice ga gn gc) ∧ W.cell? ⟨w.heap.size, 4, none⟩ = some (.slice la ln lc) ∧ W.cell? ⟨w.heap.size, 5, none⟩ = some (.slice ta tn tc) ∧ W.cell? ⟨W1.heap.size, 1, none⟩ = some (.string rbr) ∧ W.cell? ⟨W2.heap.size, 0, none⟩ = some (.string pbr))) := fun W hW => by
    have k := below_blk hW KK.out KK.out.lt
    have l := below_blk hW LK.out LK.out.lt
    have m := below_blk hW MK.out MK.out.lt
    exact ⟨k.cell 0 rfl, k.cell 1 rfl, k.cell 2 rfl, k.cell 3 rfl, k.cell 4 rfl, k.cell 5 rfl, l.cell 1 rfl, m.cell 0 rfl⟩
  clear K3 L3 M3
  go_enter Try.func38, Try.ntmps38
  go_upto_region 1 with fail
  go_cut [8, 9] from 19 to 26 (fun s8 s9 wx => s8 = .int .i64 k1 ∧ s9 = .int .i64 k2 ∧ Hid (Below W3.heap.size W3 wx))
  case first =>
    have D0 : Hid (Below W3.heap.size W3 W3.drew) := ⟨rfl, rfl, rfl, Nat.le_refl _, fun _ _ => rfl⟩
    go_region_held3 (fun W => (W.cell? ⟨w.heap.size, 0, none⟩ = some (.slice na nn nc) ∧ W.cell? ⟨w.heap.size, 1, none⟩ = some (.slice sa sn sc) ∧ W.cell? ⟨w.heap.size, 2, none⟩ = some (.slice ba bn bc) ∧ W.cell? ⟨w.heap.size, 3, none⟩ = some (.slice ga gn gc) ∧ W.cell? ⟨w.heap.size, 4, none⟩ = some (.slice la ln lc) ∧ W.cell? ⟨w.heap.size, 5, none⟩ = some (.slice ta tn tc) ∧ W.cell? ⟨W1.heap.size, 1, none⟩ = some (.string rbr) ∧ W.cell? ⟨W2.heap.size, 0, none⟩ = some (.string pbr)))
      (first
        | exact HSB.out _ D0.out
        | exact HSB.out _ D1.out
        | exact HSB.out _ D2.out)
      (first
        | (refine (HB1.out W3.drew (belowT B3.out D0.out)).mono ?_; rintro e w1 ⟨rfl, hb1⟩; have D1 := Lib.hid (belowT D0.out hb1); clear hb1)
        | (refine (HB2.out w1 (belowT B3.out D1.out)).mono ?_; rintro e w2 ⟨rfl, hb2⟩; have D2 := Lib.hid (belowT D1.out hb2); clear hb2))
    all_goals
      go_simp
      go_wp2_with fail
      go_meet
      exact ⟨rfl, rfl, D2⟩
  case rest =>
    obtain ⟨rfl, rfl, hbc⟩ := hcut
    have HBC := Lib.hid (belowT B3.out hbc.out)
    have KC := below_blk hbc.out KK.out KK.out.lt
    have LC := Lib.hid (below_blk hbc.out LK.out LK.out.lt)
    have MC := Lib.hid (below_blk hbc.out MK.out MK.out.lt)
    have KC' := Lib.hid KC
    have x2 : wc.cell? ⟨w.heap.size, 2, none⟩ = some (.slice ba bn bc) := KC.cell 2 rfl
    obtain ⟨g, off, cap', hvv, _, _, hgl, hcc⟩ := (hR2.below HBC.out).addr (by omega)
    simp only [Value.slice.injEq] at hvv
    obtain ⟨rfl, _, rfl⟩ := hvv
    obtain ⟨y0, y1, y2, y3, y4, y5, y6, y7, y8⟩ := br_cells hcc hb
    obtain ⟨z0, z1, z2, z3, z4, z5, z6, z7, z8⟩ := br_cells hcc hc
    obtain ⟨bn0, bfr, bto, bx, b4, b5, b6, b7, b8⟩ := b
    obtain ⟨cn0, cfr, cto, cx, c4, c5, c6, c7, c8⟩ := c
    simp only at y0 y1 y2 y3 y4 y5 y6 y7 y8 z0 z1 z2 z3 z4 z5 z6 z7 z8 HDD hob hoc HLR
    have HCC := Lib.hid hcc
    have lw0 : w.heap.size < wc.heap.size := KC.lt
    have lw1 : w.heap.size < wc.heap.size + 1 := by omega
    have lw2 : w.heap.size < wc.heap.size + 1 + 1 := by omega
    have lg1 : g < wc.heap.size + 1 := by omega
    have lg2 : g < wc.heap.size + 1 + 1 := by omega
    clear hb hc hcc HB1 HB2 KC HSB hW3 hW2 hW1
    go_upto_region 2 with fail
    go_cut [10, 11] from 27 to 36 (fun s10 s11 wx => ∃ d1 d2 : Nat, s10 = .pointer (some ⟨d1, 0, none⟩) ∧ s11 = .pointer (some ⟨d2, 0, none⟩) ∧ Hid (Blk wx d1 #[.string bn0, .string bfr, .string bto, .int .i64 bx, .int .i64 b4, .int .i64 b5, .int .i64 b6, .int .i64 b7, .int .i64 b8] 36) ∧ Hid (Blk wx d2 #[.string cn0, .string cfr, .string cto, .int .i64 cx, .int .i64 c4, .int .i64 c5, .int .i64 c6, .int .i64 c7, .int .i64 c8] 36) ∧ Hid (Below wc.heap.size wc wx))
    case first =>
      go_region
      all_goals
        go_wp2_with fail
        go_meet
        first
          | exact ⟨wc.heap.size, wc.heap.size + 1, rfl, rfl, ((Blk.new _ _ _).alloc _).drew, (Blk.new2 _ _ _ _).drew, ⟨rfl, rfl, rfl, (belowA (belowA (Below.refl _ wc) _) _).size, (belowA (belowA (Below.refl _ wc) _) _).block⟩⟩
          | exact ⟨wc.heap.size + 1, wc.heap.size, rfl, rfl, (Blk.new2 _ _ _ _).drew, ((Blk.new _ _ _).alloc _).drew, ⟨rfl, rfl, rfl, (belowA (belowA (Below.refl _ wc) _) _).size, (belowA (belowA (Below.refl _ wc) _) _).block⟩⟩
    case rest =>
      obtain ⟨d1, d2, rfl, rfl, hd1, hd2, hbc2⟩ := hcut
      have HBX := Lib.hid (belowT HBC.out hbc2.out)
      have KX := Lib.hid (below_blk hbc2.out KC'.out KC'.out.lt)
      have LX := Lib.hid (below_blk hbc2.out LC.out LC.out.lt)
      have MX := Lib.hid (below_blk hbc2.out MC.out MC.out.lt)
      clear hbc2 hbc HBC KC' LC MC x2 y0 y1 y2 y3 y4 y5 y6 y7 y8 z0 z1 z2 z3 z4 z5 z6 z7 z8 HCC lw0 lw1 lw2 lg1 lg2 hgl KK LK MK B3
      have r0 := LX.out.cell 0 rfl
      have p1 := MX.out.cell 1 rfl
      have y1 := hd1.out.cell 1 rfl
      have y2 := hd1.out.cell 2 rfl
      have y3 := hd1.out.cell 3 rfl
      have z1 := hd2.out.cell 1 rfl
      have z2 := hd2.out.cell 2 rfl
      have z3 := hd2.out.cell 3 rfl
      have x0 := KX.out.cell 0 rfl
      have x1 := KX.out.cell 1 rfl
      have x2 := KX.out.cell 2 rfl
      have x3 := KX.out.cell 3 rfl
      have x4 := KX.out.cell 4 rfl
      have x5 := KX.out.cell 5 rfl
      have HOT : Hid (otherR node ⟨bn0, bfr, bto, bx, b4, b5, b6, b7, b8⟩ = if (node.toList == bto.toList) = true then bfr else bto) := rfl
      have hoth : hasS (otherR node ⟨bn0, bfr, bto, bx, b4, b5, b6, b7, b8⟩) nl = true := by rw [HOT.out]; exact ite_cases hob.1 hob.2.1
      generalize otherR node ⟨bn0, bfr, bto, bx, b4, b5, b6, b7, b8⟩ = OT at *
      go_upto_if 43 with fail
      go_cut [12] from 37 to 45 (fun s12 wx => s12 = .string OT ∧ wc = wx)
      case first =>
        cases hq : (node.toList == bto.toList)
        · have HO2 : Hid (OT = bto) := by show _ = _; rw [HOT.out, hq]; rfl
          clear HOT
          go_wp2_with fail
          go_meet
          exact ⟨by rw [HO2.out], rfl⟩
        · have HO2 : Hid (OT = bfr) := by show _ = _; rw [HOT.out, hq]; rfl
          clear HOT
          go_wp2_with fail
          go_meet
          exact ⟨by rw [HO2.out], rfl⟩
      case rest =>
        obtain ⟨rfl, rfl⟩ := hcut
        clear HOT
        have hm1 : 0 ≤ bx * part ∧ bx * part ≤ 10000000 := by
          have h1 : 0 ≤ bx * part := Int.mul_nonneg (by omega) hp0
          have h2 : bx * part ≤ 10000 * 1000 := Int.mul_le_mul hob.2.2.2 hp1 hp0 (by omega)
          omega
        have hm2 : 0 ≤ bx * (1000 - part) ∧ bx * (1000 - part) ≤ 10000000 := by
          have h1 : 0 ≤ bx * (1000 - part) := Int.mul_nonneg (by omega) (by omega)
          have h2 : bx * (1000 - part) ≤ 10000 * 1000 := Int.mul_le_mul hob.2.2.2 (by omega) (by omega) (by omega)
          omega
        have ws := IntWalk.i64_in (1000 - part) (by omega)
        have w1 := IntWalk.i64_in (bx * part) (by omega)
        have w2 := IntWalk.i64_in (bx * (1000 - part)) (by omega)
        by_cases hkk : k1 = k2
        ·
          have g1 : ((k1 : Int) == (k2 : Int)) = true := by simp [hkk]
          have HD2 := Lib.hid (HDD.out.trans (if_pos (by rw [hkk])))
          cases hq : (node.toList == bfr.toList)
          · have HR : Hid (DD = (bx * (1000 - part), true)) := by show _ = _; rw [HD2.out]; unfold sameB; rw [hq]; rfl
            clear HDD HD2 hkk
            go_wp2_with fail
            go_ret2
            exact ⟨by rw [HR.out]; rfl, HBX.out⟩
          · have HR : Hid (DD = (bx * part, true)) := by show _ = _; rw [HD2.out]; unfold sameB; rw [hq]; rfl
            clear HDD HD2 hkk
            go_wp2_with fail
            go_ret2
            exact ⟨by rw [HR.out]; rfl, HBX.out⟩
        ·
          have g1 : ((k1 : Int) == (k2 : Int)) = false := by simp; omega
          have HD2 := Lib.hid (HDD.out.trans (if_neg (fun h => hkk (by omega))))
          clear HDD hkk
          obtain ⟨so, hso, hsl⟩ := idxS_nat hoth
          have HSO := Lib.hid hso
          have HLL : Hid (LL = lens ER (len0 nn so)) := by show _ = _; rw [HLR.out, hso]; rfl
          have hsl' : so < nn := by rw [← HNN.out]; exact hsl
          clear HLR hso
          have D0 : Hid (Below wc.heap.size wc wc.drew) := ⟨rfl, rfl, rfl, Nat.le_refl _, fun _ _ => rfl⟩
          have D1 : Hid (Below wc.heap.size wc (wc.drew.alloc (.cells #[.int .i64 k1, .int .i64 k2] 3))) := D0.out.alloc (Nat.le_refl _) _
          have I1 : Hid (IVal (wc.drew.alloc (.cells #[.int .i64 k1, .int .i64 k2] 3)) (.slice (some ⟨wc.heap.size, 0, none⟩) 2 2) [(k1 : Int), k2]) :=
            Or.inr ⟨_, 0, 2, rfl, Nat.le_refl _, by simp, (Blk.new wc.drew _ _).lt, fun j u hj => by rw [Nat.zero_add]; exact (Blk.new wc.drew #[.int .i64 (k1 : Int), .int .i64 (k2 : Int)] 3).cell j (by simpa [ints] using hj)⟩
          have HE1 := Lib.hid (HED2.out _ _ (belowT HBX.out D1.out) I1.out)
          have HI1 : Hid (∀ W, Below wc.heap.size wc W → Calls Try.prog 52 #[.slice na nn nc, .string OT] W fun e w' => e = .returned (.int .i64 so) ∧ W = w') := fun W hW => by
            rw [← HSO.out]; exact index_c (.slice na nn nc) nl OT W (by show Reads _ _ _ _; rw [HNN.out]; exact hR0.below (belowT HBX.out hW))
          have HSB : Hid (∀ W, Below wc.heap.size wc W → (W.cell? ⟨w.heap.size, 0, none⟩ = some (.slice na nn nc) ∧ W.cell? ⟨w.heap.size, 1, none⟩ = some (.slice sa sn sc) ∧ W.cell? ⟨w.heap.size, 2, none⟩ = some (.slice (some ⟨g, off, none⟩) bn bc) ∧ W.cell? ⟨w.heap.size, 3, none⟩ = some (.slice ga gn gc) ∧ W.cell? ⟨w.heap.size, 4, none⟩ = some (.slice la ln lc) ∧ W.cell? ⟨w.heap.size, 5, none⟩ = some (.slice ta tn tc))) := fun W hW => by
            have k := below_blk hW KX.out KX.out.lt
            exact ⟨k.cell 0 rfl, k.cell 1 rfl, k.cell 2 rfl, k.cell 3 rfl, k.cell 4 rfl, k.cell 5 rfl⟩
          clear w1 w2 hm1 hm2
          go_upto_region 10 with fail
          go_cut [13] from 65 to 77 (fun s13 wx => ∃ da dc, s13 = .slice da nn dc ∧ Hid (Reads wx (.slice da nn dc) nn (ints LL)) ∧ Hid (Below wc.heap.size wc wx))
          case first =>
            go_region_held3 (fun W => (W.cell? ⟨w.heap.size, 0, none⟩ = some (.slice na nn nc) ∧ W.cell? ⟨w.heap.size, 1, none⟩ = some (.slice sa sn sc) ∧ W.cell? ⟨w.heap.size, 2, none⟩ = some (.slice (some ⟨g, off, none⟩) bn bc) ∧ W.cell? ⟨w.heap.size, 3, none⟩ = some (.slice ga gn gc) ∧ W.cell? ⟨w.heap.size, 4, none⟩ = some (.slice la ln lc) ∧ W.cell? ⟨w.heap.size, 5, none⟩ = some (.slice ta tn tc)))
              (first
                | exact HSB.out _ D0.out
                | exact HSB.out _ D1.out
                | exact HSB.out _ D2.out
                | exact HSB.out _ D3.out)
              (first
                | (go_at_call 86; refine HE1.out.mono ?_; rintro e w1 ⟨lv, rfl, hrd, hb1⟩; obtain ⟨ea, ec, rfl⟩ := hrd.slice; have D2 := Lib.hid (belowT D1.out hb1); have RD2 := Lib.hid hrd; clear hb1 hrd)
                | (go_at_call 52; refine (HI1.out w1 D2.out).mono ?_; rintro e w2 ⟨rfl, rfl⟩)
                | (go_at_call 85; refine (HLE2.out so _ w1 hsl' RD2.out).mono ?_; rintro e w3 ⟨lv, rfl, hrd, hb3⟩; obtain ⟨da, dc, rfl⟩ := hrd.slice; have D3 := Lib.hid (belowT D2.out hb3); have RD3 := Lib.hid hrd; clear hb3 hrd))
            all_goals
              go_simp
              go_wp2_with fail
              go_meet
              exact ⟨da, dc, rfl, by show Reads _ _ _ _; rw [HLL.out]; exact RD3.out, D3⟩
          case rest =>
            obtain ⟨da, dc, rfl, hrd, hbd⟩ := hcut
            have hn0 : 0 < nn := Nat.lt_of_le_of_lt (Nat.zero_le _) hsl'
            have HLX : Hid (DOk nn LL) := by show DOk _ _; rw [HLL.out]; exact HLD.out so hsl'
            have HLLEN := Lib.hid HLX.out.1
            have HLBD : Hid (∀ i, i < nn → LL.getD i 0 < 0 ∨ LL.getD i 0 ≤ 240000000) := fun i hi => HLX.out.bound h24 i hi
            have HBD := Lib.hid (belowT HBX.out hbd.out)
            have KD := Lib.hid (below_blk hbd.out KX.out KX.out.lt)
            have MD := Lib.hid (below_blk hbd.out MX.out MX.out.lt)
            have E1 := Lib.hid (below_blk hbd.out hd1.out hd1.out.lt)
            have E2 := Lib.hid (below_blk hbd.out hd2.out hd2.out.lt)
            clear D0 D1 I1 HE1 HI1 HSB HED2 HLE2 HLD HLL hbd hd1 hd2 KX LX MX HBX r0 p1 y1 y2 y3 z1 z2 z3 x0 x1 x2 x3 x4 x5 hsl hsl' HSO
            obtain ⟨dg, doff, dcap', hvv, _, _, hdl, hdc⟩ := hrd.out.addr (by omega)
            simp only [Value.slice.injEq] at hvv
            obtain ⟨rfl, _, rfl⟩ := hvv
            have HDC : Hid (∀ i, i < LL.length → ∀ W, Below (wc.alloc (.cells #[.string cfr, .int .i64 (cx * part), .string cto, .int .i64 (cx * (1000 - part))] 151)).heap.size (wc.alloc (.cells #[.string cfr, .int .i64 (cx * part), .string cto, .int .i64 (cx * (1000 - part))] 151)) W → W.cell? ⟨dg, doff + i, none⟩ = some (.int .i64 (LL.getD i 0))) := fun i hi W hW => by
              rw [hW.cell (p := ⟨dg, doff + i, none⟩) (Nat.lt_of_lt_of_le hdl (belowA (Below.refl _ wc) _).size), (belowA (Below.refl _ wc) _).cell (p := ⟨dg, doff + i, none⟩) hdl]
              exact hdc i _ (ints_get hi)
            have hdl6 : dg < (wc.alloc (.cells #[.string cfr, .int .i64 (cx * part), .string cto, .int .i64 (cx * (1000 - part))] 151)).heap.size := Nat.lt_of_lt_of_le hdl (belowA (Below.refl _ wc) _).size
            obtain ⟨sf, hsf, hsfl⟩ := idxS_nat hoc.1
            obtain ⟨st, hst, hstl⟩ := idxS_nat hoc.2.1
            rw [HNN.out] at hsfl hstl
            have hm1 : 0 ≤ cx * part ∧ cx * part ≤ 10000000 := by
              have h1 : 0 ≤ cx * part := Int.mul_nonneg (by omega) hp0
              have h2 : cx * part ≤ 10000 * 1000 := Int.mul_le_mul hoc.2.2.2 hp1 hp0 (by omega)
              omega
            have hm2 : 0 ≤ cx * (1000 - part) ∧ cx * (1000 - part) ≤ 10000000 := by
              have h1 : 0 ≤ cx * (1000 - part) := Int.mul_nonneg (by omega) (by omega)
              have h2 : cx * (1000 - part) ≤ 10000 * 1000 := Int.mul_le_mul hoc.2.2.2 (by omega) (by omega) (by omega)
              omega
            have w1 := IntWalk.i64_in (cx * part) (by omega)
            have w2 := IntWalk.i64_in (cx * (1000 - part)) (by omega)
            have HIX : Hid (∀ o W, Below (wc.alloc (.cells #[.string cfr, .int .i64 (cx * part), .string cto, .int .i64 (cx * (1000 - part))] 151)).heap.size (wc.alloc (.cells #[.string cfr, .int .i64 (cx * part), .string cto, .int .i64 (cx * (1000 - part))] 151)) W → Calls Try.prog 52 #[.slice na nn nc, .string o] W fun e w' => e = .returned (.int .i64 (idxS o nl 0)) ∧ W = w') := fun o W hW =>
              index_c (.slice na nn nc) nl o W (by show Reads _ _ _ _; rw [HNN.out]; exact hR0.below (belowT (belowA HBD.out _) hW))
            have HG : Hid (Blk (wc.alloc (.cells #[.string cfr, .int .i64 (cx * part), .string cto, .int .i64 (cx * (1000 - part))] 151)) wc.heap.size #[.string cfr, .int .i64 (cx * part), .string cto, .int .i64 (cx * (1000 - part))] 151) := Blk.new _ _ _
            have KZ : Hid (Blk (wc.alloc (.cells #[.string cfr, .int .i64 (cx * part), .string cto, .int .i64 (cx * (1000 - part))] 151)) w.heap.size #[.slice na nn nc, .slice sa sn sc, .slice (some ⟨g, off, none⟩) bn bc, .slice ga gn gc, .slice la ln lc, .slice ta tn tc] 29) := KD.out.alloc _
            have E1Z := Lib.hid (E1.out.alloc (.cells #[.string cfr, .int .i64 (cx * part), .string cto, .int .i64 (cx * (1000 - part))] 151))
            have HBZ := Lib.hid (belowA HBD.out (.cells #[.string cfr, .int .i64 (cx * part), .string cto, .int .i64 (cx * (1000 - part))] 151))
            have p1 := MD.out.cell 1 rfl
            have y3 := E1.out.cell 3 rfl
            have z1 := E2.out.cell 1 rfl
            have z2 := E2.out.cell 2 rfl
            have z3 := E2.out.cell 3 rfl
            obtain ⟨S1, hS1⟩ : ∃ S, bestS nl LL (0, false) cfr (cx * part) = S := ⟨_, rfl⟩
            obtain ⟨S2, hS2⟩ : ∃ S, bestS nl LL S1 cto (cx * (1000 - part)) = S := ⟨_, rfl⟩
            have HS1 := Lib.hid hS1
            have HS2 := Lib.hid hS2
            have HDE : Hid (DD = (1000 * bx + S2.1, S2.2)) := by show _ = _; rw [HD2.out, hS1, hS2]
            clear hS1 hS2 HD2 hdc hrd
            go_wp2_with fail
            clear p1 z1 z2 z3 w1 w2 ws
            generalize wc.alloc (.cells #[.string cfr, .int .i64 (cx * part), .string cto, .int .i64 (cx * (1000 - part))] 151) = W6 at *
            generalize cx * part = r1 at *
            generalize cx * (1000 - part) = r2 at *
            go_loopw [97, 14, 15] (fun i bs fs wr => ∃ (j : Nat) (best : Int) (found : Bool), i = .int .i64 j ∧ bs = .int .i64 best ∧ fs = .bool found ∧ Hid ((j = 0 ∧ (best, found) = (0, false)) ∨ (j = 1 ∧ (best, found) = S1) ∨ (j = 2 ∧ (best, found) = S2)) ∧ (0 ≤ best ∧ best ≤ 250000000) ∧ Hid (Below W6.heap.size W6 wr)) (fun i _ _ _ => 2 - (intOf i).toNat)
            case atStart => exact ⟨0, 0, false, rfl, rfl, rfl, Or.inl ⟨rfl, rfl⟩, by omega, Below.refl _ _⟩
            case round =>
              obtain ⟨j, best, found, rfl, rfl, rfl, hj, hbb, hbw⟩ := hrel
              rcases hj.out with ⟨rfl, h⟩ | ⟨rfl, h⟩ | ⟨rfl, h⟩
              ·
                have HSD : Hid (∀ (j : Nat), j = 1 → ∀ z, bestS nl LL (best, found) cfr r1 = z → (j = 0 ∧ z = (0, false)) ∨ (j = 1 ∧ z = S1) ∨ (j = 2 ∧ z = S2)) := fun j hj z hz => Or.inr (Or.inl ⟨hj, by rw [← HS1.out, ← h]; exact hz.symm⟩)
                have HH := Lib.hid h
                clear h
                have HNX : Hid (bestS nl LL (best, found) cfr r1 = if 0 ≤ LL.getD sf 0 ∧ (found = false ∨ LL.getD sf 0 + r1 < best) then (LL.getD sf 0 + r1, true) else (best, found)) := by
                  show _ = _; unfold bestS; rw [hsf]; rfl
                have e0 := (below_blk hbw.out HG.out HG.out.lt).cell (0 * 2) rfl
                have e1 := (below_blk hbw.out HG.out HG.out.lt).cell (0 * 2 + 1) rfl
                have hcx := HDC.out (sf) (by rw [HLLEN.out]; exact hsfl) wr hbw.out
                have hbx := HLBD.out sf hsfl
                have hxx : Hid (LL.getD sf 0 = LL.getD sf 0) := rfl
                obtain ⟨X, hX⟩ : ∃ X, LL.getD sf 0 = X := ⟨_, rfl⟩
                rw [hX] at hcx hbx HNX
                clear hX
                have n0 := (below_blk hbw.out KZ.out KZ.out.lt).cell 0 rfl
                have ln0 : w.heap.size < wr.heap.size := Nat.lt_of_lt_of_le KZ.out.lt hbw.out.size
                have HCI := Lib.hid (HIX.out cfr (wr.alloc (.cells #[.string cfr, .int .i64 r1] 151)) (belowA hbw.out _))
                rw [hsf] at HCI
                have ldg : dg < wr.heap.size := Nat.lt_of_lt_of_le hdl6 hbw.out.size
                cases hc1 : decide (0 ≤ X)
                ·
                  have HNV : Hid (bestS nl LL (best, found) cfr r1 = (best, found)) := HNX.out.trans (if_neg (fun h => by have := of_decide_eq_false hc1; exact this h.1))
                  go_wp2_with fail
                  refine HCI.out.mono ?_; rintro e w1 ⟨rfl, rfl⟩
                  go_wp2_with fail
                  go_roundw
                  case rel => exact ⟨0 + 1, _, _, by go_num, rfl, rfl, HSD.out _ rfl _ HNV.out, by omega, belowA hbw.out _⟩
                  case measure => simp [intOf]
                ·
                  have hxp := of_decide_eq_true hc1
                  have hw := IntWalk.i64_in (X + r1) (by omega)
                  cases found
                  ·
                    have HNV : Hid (bestS nl LL (best, false) cfr r1 = (X + r1, true)) := HNX.out.trans (if_pos ⟨hxp, Or.inl rfl⟩)
                    go_wp2_with fail
                    refine HCI.out.mono ?_; rintro e w1 ⟨rfl, rfl⟩
                    go_wp2_with fail
                    go_roundw
                    case rel => exact ⟨0 + 1, _, _, by go_num, rfl, rfl, HSD.out _ rfl _ HNV.out, by omega, belowA hbw.out _⟩
                    case measure => simp [intOf]
                  ·
                    cases hc3 : decide (X + r1 < best)
                    ·
                      have HNV : Hid (bestS nl LL (best, true) cfr r1 = (best, true)) := HNX.out.trans (if_neg (fun h => by have := of_decide_eq_false hc3; rcases h.2 with h | h; cases h; exact this h))
                      go_wp2_with fail
                      refine HCI.out.mono ?_; rintro e w1 ⟨rfl, rfl⟩
                      go_wp2_with fail
                      go_roundw
                      case rel => exact ⟨0 + 1, _, _, by go_num, rfl, rfl, HSD.out _ rfl _ HNV.out, by omega, belowA hbw.out _⟩
                      case measure => simp [intOf]
                    ·
                      have HNV : Hid (bestS nl LL (best, true) cfr r1 = (X + r1, true)) := HNX.out.trans (if_pos ⟨hxp, Or.inr (of_decide_eq_true hc3)⟩)
                      go_wp2_with fail
                      refine HCI.out.mono ?_; rintro e w1 ⟨rfl, rfl⟩
                      go_wp2_with fail
                      go_roundw
                      case rel => exact ⟨0 + 1, _, _, by go_num, rfl, rfl, HSD.out _ rfl _ HNV.out, by omega, belowA hbw.out _⟩
                      case measure => simp [intOf]
              ·
                have HSD : Hid (∀ (j : Nat), j = 2 → ∀ z, bestS nl LL (best, found) cto r2 = z → (j = 0 ∧ z = (0, false)) ∨ (j = 1 ∧ z = S1) ∨ (j = 2 ∧ z = S2)) := fun j hj z hz => Or.inr (Or.inr ⟨hj, by rw [← HS2.out, ← h]; exact hz.symm⟩)
                have HH := Lib.hid h
                clear h
                have HNX : Hid (bestS nl LL (best, found) cto r2 = if 0 ≤ LL.getD st 0 ∧ (found = false ∨ LL.getD st 0 + r2 < best) then (LL.getD st 0 + r2, true) else (best, found)) := by
                  show _ = _; unfold bestS; rw [hst]; rfl
                have e0 := (below_blk hbw.out HG.out HG.out.lt).cell (1 * 2) rfl
                have e1 := (below_blk hbw.out HG.out HG.out.lt).cell (1 * 2 + 1) rfl
                have hcx := HDC.out (st) (by rw [HLLEN.out]; exact hstl) wr hbw.out
                have hbx := HLBD.out st hstl
                have hxx : Hid (LL.getD st 0 = LL.getD st 0) := rfl
                obtain ⟨X, hX⟩ : ∃ X, LL.getD st 0 = X := ⟨_, rfl⟩
                rw [hX] at hcx hbx HNX
                clear hX
                have n0 := (below_blk hbw.out KZ.out KZ.out.lt).cell 0 rfl
                have ln0 : w.heap.size < wr.heap.size := Nat.lt_of_lt_of_le KZ.out.lt hbw.out.size
                have HCI := Lib.hid (HIX.out cto (wr.alloc (.cells #[.string cto, .int .i64 r2] 151)) (belowA hbw.out _))
                rw [hst] at HCI
                have ldg : dg < wr.heap.size := Nat.lt_of_lt_of_le hdl6 hbw.out.size
                cases hc1 : decide (0 ≤ X)
                ·
                  have HNV : Hid (bestS nl LL (best, found) cto r2 = (best, found)) := HNX.out.trans (if_neg (fun h => by have := of_decide_eq_false hc1; exact this h.1))
                  go_wp2_with fail
                  refine HCI.out.mono ?_; rintro e w1 ⟨rfl, rfl⟩
                  go_wp2_with fail
                  go_roundw
                  case rel => exact ⟨1 + 1, _, _, by go_num, rfl, rfl, HSD.out _ rfl _ HNV.out, by omega, belowA hbw.out _⟩
                  case measure => simp [intOf]
                ·
                  have hxp := of_decide_eq_true hc1
                  have hw := IntWalk.i64_in (X + r2) (by omega)
                  cases found
                  ·
                    have HNV : Hid (bestS nl LL (best, false) cto r2 = (X + r2, true)) := HNX.out.trans (if_pos ⟨hxp, Or.inl rfl⟩)
                    go_wp2_with fail
                    refine HCI.out.mono ?_; rintro e w1 ⟨rfl, rfl⟩
                    go_wp2_with fail
                    go_roundw
                    case rel => exact ⟨1 + 1, _, _, by go_num, rfl, rfl, HSD.out _ rfl _ HNV.out, by omega, belowA hbw.out _⟩
                    case measure => simp [intOf]
                  ·
                    cases hc3 : decide (X + r2 < best)
                    ·
                      have HNV : Hid (bestS nl LL (best, true) cto r2 = (best, true)) := HNX.out.trans (if_neg (fun h => by have := of_decide_eq_false hc3; rcases h.2 with h | h; cases h; exact this h))
                      go_wp2_with fail
                      refine HCI.out.mono ?_; rintro e w1 ⟨rfl, rfl⟩
                      go_wp2_with fail
                      go_roundw
                      case rel => exact ⟨1 + 1, _, _, by go_num, rfl, rfl, HSD.out _ rfl _ HNV.out, by omega, belowA hbw.out _⟩
                      case measure => simp [intOf]
                    ·
                      have HNV : Hid (bestS nl LL (best, true) cto r2 = (X + r2, true)) := HNX.out.trans (if_pos ⟨hxp, Or.inr (of_decide_eq_true hc3)⟩)
                      go_wp2_with fail
                      refine HCI.out.mono ?_; rintro e w1 ⟨rfl, rfl⟩
                      go_wp2_with fail
                      go_roundw
                      case rel => exact ⟨1 + 1, _, _, by go_num, rfl, rfl, HSD.out _ rfl _ HNV.out, by omega, belowA hbw.out _⟩
                      case measure => simp [intOf]
              ·
                have HDF : Hid (DD = (1000 * bx + best, found)) := by show _ = _; rw [HDE.out, ← h]
                clear h hj HDE
                have v1 := IntWalk.i64_in (1000 * bx) (by omega)
                have v2 := IntWalk.i64_in (1000 * bx + best) (by omega)
                have y3 := (below_blk hbw.out E1Z.out E1Z.out.lt).cell 3 rfl
                go_wp2_with fail
                go_ret2
                exact ⟨by rw [HDF.out]; rfl, belowT HBZ.out hbw.out⟩
end Go.Proofs.Ytplebibabcdipaa
