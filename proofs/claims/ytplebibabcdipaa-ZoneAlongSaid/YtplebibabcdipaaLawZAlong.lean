/- The law ZoneAlong walked. -/
import Derived.Test.YtplebibabcdipaaZAl
namespace Go.Proofs.Ytplebibabcdipaa
open Go.RowKit

theorem blk_setRow {w : World} {g : Nat} {c c' : Array Value} {t : TypeId} (h : Blk w g c t) : Blk (w.setRow g c') g c' t := by
  have hlt := h.lt
  unfold Blk at h ⊢
  have h' : w.heap[g] = .cells c t := by simpa [Array.getElem?_eq_getElem hlt] using h
  show (w.heap.modify g _)[g]? = _
  rw [Array.getElem?_eq_getElem (by simpa using hlt), Array.getElem_modify_self, h']
theorem below_setRow {B g : Nat} {a w : World} {c' : Array Value} (h : Below B a w) (hg : B ≤ g) : Below B a (w.setRow g c') :=
  h.trans ⟨rfl, rfl, rfl, by simp [World.setRow], fun k hk => by
    show (w.heap.modify g _)[k]? = _
    rw [Array.getElem?_modify, if_neg (by omega)]⟩
theorem below_setAt {B j : Nat} {a w : World} {u : Value} (h : Below B a w) : Below B a (w.setCell ⟨B, j, none⟩ u) := Below.setCell h (Nat.le_refl _) u
theorem set9 {w : World} {g : Nat} {a0 a1 a2 a3 a4 a5 a6 a7 a8 : Value} {t : TypeId} (h : Blk w g #[a0, a1, a2, a3, a4, a5, a6, a7, a8] t) (c0 c1 c2 c3 c4 c5 c6 c7 c8 : Value) :
    Blk (((((((((w.setCell ⟨g, 0, none⟩ c0).setCell ⟨g, 1, none⟩ c1).setCell ⟨g, 2, none⟩ c2).setCell ⟨g, 3, none⟩ c3).setCell ⟨g, 4, none⟩ c4).setCell ⟨g, 5, none⟩ c5).setCell ⟨g, 6, none⟩ c6).setCell ⟨g, 7, none⟩ c7).setCell ⟨g, 8, none⟩ c8) g #[c0, c1, c2, c3, c4, c5, c6, c7, c8] t :=
  (((((((((h.set 0 c0).set 1 c1).set 2 c2).set 3 c3).set 4 c4).set 5 c5).set 6 c6).set 7 c7).set 8 c8).congr (by simp)
theorem storeAt_row (w : World) (g : Nat) (t ty : TypeId) (old cells : Array Value) (hg : w.heap[g]? = some (.cells old t (0, 0))) (hi : (Try.prog.info? ty).map (·.size) = some cells.size)
    (ho : old.size = cells.size) (h1 : cells.all (·.oneCell') = true) : (Instr.storeAt ty (.pointer (some ⟨g, 0, none⟩)) (.agg cells)).run Try.prog w = .ok () (w.setRow g cells) := by
  simp only [Instr.storeAt, Instr.sureAddr, Sem.run_bind, Sem.run_pure, Result.andThen_ok, run_storeVar_row w g t ty old cells hg hi ho h1]
set_option maxHeartbeats 8000000 in
set_option maxRecDepth 100000 in
theorem zoneAlong_c (x0 : NAddr) (n : Net) (pbr : ByteArray) (part : Int) (w : World) (hr : NetR w x0 n) (hwf : n.Wf) :
    Calls Try.prog 3 #[x0.val n, .agg #[.string pbr, .int .i64 part]] w fun e w' => e = .returned (.bool true) ∧ Below w.heap.size w w' := by
  have HPL := Lib.hid (fun W (hW : Below w.heap.size w W) => place_c x0 n pbr part W (hr.below hW) hwf)
  have HBR := Lib.hid (fun W (hW : Below w.heap.size w W) => refBranch_c x0 n pbr W (hr.below hW))
  have HDD := Lib.hid (fun node rbr za zc zs W (hW : Below w.heap.size w W) hz => dist_c x0 n node rbr pbr za zc zs part W (hr.below hW) hwf hz)
  have HAL : Hid (placeE n ⟨pbr, part⟩ = 0 → ∃ (k : Nat) (b : NBr), brAt n pbr = k ∧ n.brs[k]? = some b ∧ 1 ≤ b.x ∧ b.x ≤ 10000 ∧ 0 ≤ part ∧ part ≤ 1000 ∧ distE n ⟨b.fr, b.name, [⟨1, 0⟩]⟩ ⟨pbr, part⟩ = (b.x * part, 0) ∧ distE n ⟨b.to, b.name, [⟨1, 0⟩]⟩ ⟨pbr, part⟩ = (b.x * (1000 - part), 0)) := fun h => by
    have hpo := placeE_ok h
    obtain ⟨k, b, h1, h2, _⟩ := hpo.br
    have hob := (netE_ok hpo.net).br b (List.mem_of_getElem? h2)
    have ha := along h h1 h2
    exact ⟨k, b, h1, h2, hob.2.2.1, hob.2.2.2, hpo.part.1, hpo.part.2, ha.1, ha.2⟩
  have hR2 := hr.brs
  generalize placeE n ⟨pbr, part⟩ = PE at *
  clear hr hwf
  obtain ⟨na, nc, sa, sc, ba, bc, ga, gc, la, lc, ta, tc⟩ := x0
  obtain ⟨nl, sws, brs, gens, loads, stores⟩ := n
  simp only [NAddr.val] at HPL HBR HDD HAL hR2 ⊢
  generalize nl.length = nn at *
  generalize sws.length = sn at *
  obtain ⟨bn, hB⟩ : ∃ n, brs.length = n := ⟨_, rfl⟩
  have HB := Lib.hid hB
  rw [hB] at HPL HBR HDD hR2 ⊢
  generalize gens.length = gn at *
  generalize loads.length = ln at *
  generalize stores.length = tn at *
  clear hB
  have B1 := belowA (Below.refl w.heap.size w) (.cells #[.slice na nn nc, .slice sa sn sc, .slice ba bn bc, .slice ga gn gc, .slice la ln lc, .slice ta tn tc] 29)
  have K1 := Blk.new w #[.slice na nn nc, .slice sa sn sc, .slice ba bn bc, .slice ga gn gc, .slice la ln lc, .slice ta tn tc] 29
  generalize hW1 : w.alloc (.cells #[.slice na nn nc, .slice sa sn sc, .slice ba bn bc, .slice ga gn gc, .slice la ln lc, .slice ta tn tc] 29) = W1 at *
  have B2 := Lib.hid (belowA B1 (.cells #[.string pbr, .int .i64 part] 31))
  have K2 := Lib.hid (K1.alloc (.cells #[.string pbr, .int .i64 part] 31))
  have M2 := Lib.hid (Blk.new W1 #[.string pbr, .int .i64 part] 31)
  generalize hW2 : W1.alloc (.cells #[.string pbr, .int .i64 part] 31) = W2 at *
  clear B1 K1
  go_enter Try.func3, Try.ntmps3
  go_wp2_with fail
  refine (zoneWorks_c W2).mono ?_; rintro e w3 ⟨rfl, hb3⟩
  have B3 := Lib.hid (belowT B2.out hb3)
  have K3 := Lib.hid (below_blk hb3 K2.out K2.out.lt)
  have M3 := Lib.hid (below_blk hb3 M2.out M2.out.lt)
  have x0 := K3.out.cell 0 rfl
  have x1 := K3.out.cell 1 rfl
  have x2 := K3.out.cell 2 rfl
  have x3 := K3.out.cell 3 rfl
  have x4 := K3.out.cell 4 rfl
  have x5 := K3.out.cell 5 rfl
  have p0 := M3.out.cell 0 rfl
  have p1 := M3.out.cell 1 rfl
  clear hb3 B2 K2 M2 hW1 hW2
  go_wp2_with fail
  refine (HPL.out w3 B3.out).mono ?_; rintro e w4 ⟨rfl, hb4⟩
  have B4 := Lib.hid (belowT B3.out hb4)
  have K4 := Lib.hid (below_blk hb4 K3.out K3.out.lt)
  have M4 := Lib.hid (below_blk hb4 M3.out M3.out.lt)
  clear x0 x1 x2 x3 x4 x5 p0 p1 hb4 B3 K3 M3 HPL
  by_cases hP : PE = 0
  · have g1 : (PE != 0) = false := by simp [hP]
    obtain ⟨k, b, hk, hbk, hx1, hx2, hp0, hp1, ha1, ha2⟩ := HAL.out hP
    have hlt : k < bn := by rw [← HB.out]; exact (List.getElem?_eq_some_iff.1 hbk).1
    obtain ⟨g, off, cap', hvv, _, _, hgl, hcc⟩ := (hR2.below B4.out).addr (by omega)
    simp only [Value.slice.injEq] at hvv
    obtain ⟨rfl, _, rfl⟩ := hvv
    have hcells := br_cells hcc hbk
    have HCL := Lib.hid hcells
    rw [hk] at HBR
    obtain ⟨bn0, bfr, bto, bx, b4, b5, b6, b7, b8⟩ := b
    simp only at hcells hx1 hx2 ha1 ha2
    have HA1 := Lib.hid ha1
    have HA2 := Lib.hid ha2
    clear hcc hbk hk ha1 ha2 HAL hR2 hP
    have HSB : Hid (∀ W, Below w4.heap.size w4 W → (W.cell? ⟨w.heap.size, 0, none⟩ = some (.slice na nn nc) ∧ W.cell? ⟨w.heap.size, 1, none⟩ = some (.slice sa sn sc) ∧ W.cell? ⟨w.heap.size, 2, none⟩ = some (.slice (some ⟨g, off, none⟩) bn bc) ∧ W.cell? ⟨w.heap.size, 3, none⟩ = some (.slice ga gn gc) ∧ W.cell? ⟨w.heap.size, 4, none⟩ = some (.slice la ln lc) ∧ W.cell? ⟨w.heap.size, 5, none⟩ = some (.slice ta tn tc) ∧ W.cell? ⟨W1.heap.size, 0, none⟩ = some (.string pbr) ∧ W.cell? ⟨g, off + k * 9, none⟩ = some (.string bn0) ∧ W.cell? ⟨g, off + k * 9 + 1, none⟩ = some (.string bfr) ∧ W.cell? ⟨g, off + k * 9 + 2, none⟩ = some (.string bto) ∧ W.cell? ⟨g, off + k * 9 + 3, none⟩ = some (.int .i64 bx) ∧ W.cell? ⟨g, off + k * 9 + 4, none⟩ = some (.int .i64 b4) ∧ W.cell? ⟨g, off + k * 9 + 5, none⟩ = some (.int .i64 b5) ∧ W.cell? ⟨g, off + k * 9 + 6, none⟩ = some (.int .i64 b6) ∧ W.cell? ⟨g, off + k * 9 + 7, none⟩ = some (.int .i64 b7) ∧ W.cell? ⟨g, off + k * 9 + 8, none⟩ = some (.int .i64 b8))) := fun W hW => by
      have kk := below_blk hW K4.out K4.out.lt
      have mm := below_blk hW M4.out M4.out.lt
      have cc : ∀ j, W.cell? ⟨g, j, none⟩ = w4.cell? ⟨g, j, none⟩ := fun j => hW.cell (p := ⟨g, j, none⟩) hgl
      obtain ⟨y0, y1, y2, y3, y4, y5, y6, y7, y8⟩ := HCL.out
      exact ⟨kk.cell 0 rfl, kk.cell 1 rfl, kk.cell 2 rfl, kk.cell 3 rfl, kk.cell 4 rfl, kk.cell 5 rfl, mm.cell 0 rfl, (cc _).trans y0, (cc _).trans y1, (cc _).trans y2, (cc _).trans y3, (cc _).trans y4, (cc _).trans y5, (cc _).trans y6, (cc _).trans y7, (cc _).trans y8⟩
    clear hcells
    go_upto_region 5 with fail
    go_cut [5] from 17 to 24 (fun s5 wx => ∃ d1 : Nat, s5 = .pointer (some ⟨d1, 0, none⟩) ∧ Hid (Blk wx d1 #[.string bn0, .string bfr, .string bto, .int .i64 bx, .int .i64 b4, .int .i64 b5, .int .i64 b6, .int .i64 b7, .int .i64 b8] 36) ∧ Hid (Below w4.heap.size w4 wx))
    case first =>
      have D0 : Hid (Below w4.heap.size w4 w4.drew) := ⟨rfl, rfl, rfl, Nat.le_refl _, fun _ _ => rfl⟩
      have DA : Hid (Below w4.heap.size w4 (w4.alloc (.cells #[.string {data := #[]}, .string {data := #[]}, .string {data := #[]}, .int .i64 0, .int .i64 0, .int .i64 0, .int .i64 0, .int .i64 0, .int .i64 0] 36)).drew) := D0.out.alloc (Nat.le_refl _) (.cells #[.string {data := #[]}, .string {data := #[]}, .string {data := #[]}, .int .i64 0, .int .i64 0, .int .i64 0, .int .i64 0, .int .i64 0, .int .i64 0] 36)
      have BA : Hid (Blk (w4.alloc (.cells #[.string {data := #[]}, .string {data := #[]}, .string {data := #[]}, .int .i64 0, .int .i64 0, .int .i64 0, .int .i64 0, .int .i64 0, .int .i64 0] 36)).drew w4.heap.size #[.string {data := #[]}, .string {data := #[]}, .string {data := #[]}, .int .i64 0, .int .i64 0, .int .i64 0, .int .i64 0, .int .i64 0, .int .i64 0] 36) := (Blk.new w4 _ _).drew
      go_region_held3 (fun W => (W.cell? ⟨w.heap.size, 0, none⟩ = some (.slice na nn nc) ∧ W.cell? ⟨w.heap.size, 1, none⟩ = some (.slice sa sn sc) ∧ W.cell? ⟨w.heap.size, 2, none⟩ = some (.slice (some ⟨g, off, none⟩) bn bc) ∧ W.cell? ⟨w.heap.size, 3, none⟩ = some (.slice ga gn gc) ∧ W.cell? ⟨w.heap.size, 4, none⟩ = some (.slice la ln lc) ∧ W.cell? ⟨w.heap.size, 5, none⟩ = some (.slice ta tn tc) ∧ W.cell? ⟨W1.heap.size, 0, none⟩ = some (.string pbr) ∧ W.cell? ⟨g, off + k * 9, none⟩ = some (.string bn0) ∧ W.cell? ⟨g, off + k * 9 + 1, none⟩ = some (.string bfr) ∧ W.cell? ⟨g, off + k * 9 + 2, none⟩ = some (.string bto) ∧ W.cell? ⟨g, off + k * 9 + 3, none⟩ = some (.int .i64 bx) ∧ W.cell? ⟨g, off + k * 9 + 4, none⟩ = some (.int .i64 b4) ∧ W.cell? ⟨g, off + k * 9 + 5, none⟩ = some (.int .i64 b5) ∧ W.cell? ⟨g, off + k * 9 + 6, none⟩ = some (.int .i64 b6) ∧ W.cell? ⟨g, off + k * 9 + 7, none⟩ = some (.int .i64 b7) ∧ W.cell? ⟨g, off + k * 9 + 8, none⟩ = some (.int .i64 b8)))
        ((refine HSB.out _ ?_; first
          | with_reducible exact D0.out
          | with_reducible exact DA.out
          | with_reducible exact D1.out
          | with_reducible exact (belowA D1.out _)
          | with_reducible exact D2.out
          | (repeat (with_reducible refine below_setAt ?_)
             with_reducible exact D2.out)
          | exact (belowA D1.out _)))
        (first
          | (go_at_call 15; refine (HBR.out w4.drew (belowT B4.out D0.out)).mono ?_; rintro e w5 ⟨rfl, hb5⟩; have D1 := Lib.hid (belowT D0.out hb5); have D2 := D1; clear hb5)
          | (go_at_call 15; refine (HBR.out (w4.alloc (.cells #[.string {data := #[]}, .string {data := #[]}, .string {data := #[]}, .int .i64 0, .int .i64 0, .int .i64 0, .int .i64 0, .int .i64 0, .int .i64 0] 36)).drew (belowT B4.out DA.out)).mono ?_; rintro e w5 ⟨rfl, hb5⟩; have D2 := Lib.hid (belowT DA.out hb5); have D1 := D2; have BA1 := Lib.hid (below_blk hb5 BA.out BA.out.lt); have v0 := BA1.out.cell 0 rfl; have f0 := BA1.out.free 0; have v1 := BA1.out.cell 1 rfl; have f1 := BA1.out.free 1; have v2 := BA1.out.cell 2 rfl; have f2 := BA1.out.free 2; have v3 := BA1.out.cell 3 rfl; have f3 := BA1.out.free 3; have v4 := BA1.out.cell 4 rfl; have f4 := BA1.out.free 4; have v5 := BA1.out.cell 5 rfl; have f5 := BA1.out.free 5; have v6 := BA1.out.cell 6 rfl; have f6 := BA1.out.free 6; have v7 := BA1.out.cell 7 rfl; have f7 := BA1.out.free 7; have v8 := BA1.out.cell 8 rfl; have f8 := BA1.out.free 8; clear hb5))
      · go_wp2_with fail
        go_meet
        exact ⟨w5.heap.size, rfl, Blk.new _ _ _, belowA D1.out _⟩
      · go_wp2_with fail
        go_meet
        exact ⟨w4.heap.size, rfl, set9 BA1.out _ _ _ _ _ _ _ _ _, below_setAt (below_setAt (below_setAt (below_setAt (below_setAt (below_setAt (below_setAt (below_setAt (below_setAt D2.out))))))))⟩
    case rest =>
      obtain ⟨d1, rfl, hd1, hbd⟩ := hcut
      have BX := Lib.hid (belowT B4.out hbd.out)
      have KX := Lib.hid (below_blk hbd.out K4.out K4.out.lt)
      have MX := Lib.hid (below_blk hbd.out M4.out M4.out.lt)
      clear hbd B4 K4 M4 HSB HBR HCL
      have BY := Lib.hid (belowA BX.out (.cells #[.int .i64 1, .int .i64 0] 39))
      have KY := Lib.hid (KX.out.alloc (.cells #[.int .i64 1, .int .i64 0] 39))
      have MY := Lib.hid (MX.out.alloc (.cells #[.int .i64 1, .int .i64 0] 39))
      have DY := Lib.hid (hd1.out.alloc (.cells #[.int .i64 1, .int .i64 0] 39))
      have ZY : Hid (Blk (wc.alloc (.cells #[.int .i64 1, .int .i64 0] 39)) wc.heap.size #[.int .i64 1, .int .i64 0] 39) := Blk.new _ _ _
      generalize hW6 : wc.alloc (.cells #[.int .i64 1, .int .i64 0] 39) = W6 at *
      generalize hzb : wc.heap.size = zb at *
      have HZS : Hid (∀ W, Below W6.heap.size W6 W → Reads W (.slice (some ⟨zb, 0, none⟩) 1 1) 1 (flat ZSt.cells [⟨1, 0⟩])) := fun W hW => reads_blk (t := 39) (below_blk hW ZY.out ZY.out.lt) (by decide)
      have HC1 : Hid (∀ W, Below W6.heap.size W6 W → Calls Try.prog 16 #[netV na nn nc sa sn sc (some ⟨g, off, none⟩) bn bc ga gn gc la ln lc ta tn tc, .agg #[.string bfr, .string bn0, .slice (some ⟨zb, 0, none⟩) 1 1], .agg #[.string pbr, .int .i64 part]] W fun e w' => e = .returned (.tuple #[.int .i64 (bx * part), .int .i64 0]) ∧ Below W.heap.size W w') := fun W hW => by
        have := HDD.out bfr bn0 (some ⟨zb, 0, none⟩) 1 [⟨1, 0⟩] W (belowT BY.out hW) (HZS.out W hW)
        rw [HA1.out] at this
        exact this
      have HC2 : Hid (∀ W, Below W6.heap.size W6 W → Calls Try.prog 16 #[netV na nn nc sa sn sc (some ⟨g, off, none⟩) bn bc ga gn gc la ln lc ta tn tc, .agg #[.string bto, .string bn0, .slice (some ⟨zb, 0, none⟩) 1 1], .agg #[.string pbr, .int .i64 part]] W fun e w' => e = .returned (.tuple #[.int .i64 (bx * (1000 - part)), .int .i64 0]) ∧ Below W.heap.size W w') := fun W hW => by
        have := HDD.out bto bn0 (some ⟨zb, 0, none⟩) 1 [⟨1, 0⟩] W (belowT BY.out hW) (HZS.out W hW)
        rw [HA2.out] at this
        exact this
      have hm1 : 0 ≤ bx * part ∧ bx * part ≤ 10000000 := by
        have h1 : 0 ≤ bx * part := Int.mul_nonneg (by omega) hp0
        have h2 : bx * part ≤ 10000 * 1000 := Int.mul_le_mul hx2 hp1 hp0 (by omega)
        omega
      have hsum : bx * part + bx * (1000 - part) = 1000 * bx := by rw [Int.mul_sub, Int.mul_comm bx 1000]; omega
      have w1 := IntWalk.i64_in (bx * part) (by omega)
      have w2 : IntKind.i64.wrap (bx * part + bx * (1000 - part)) = 1000 * bx := by rw [hsum]; exact IntWalk.i64_in _ (by omega)
      have w3 := IntWalk.i64_in (1000 * bx) (by omega)
      clear HDD HA1 HA2 hsum hm1
      have x0 := KY.out.cell 0 rfl
      have x1 := KY.out.cell 1 rfl
      have x2 := KY.out.cell 2 rfl
      have x3 := KY.out.cell 3 rfl
      have x4 := KY.out.cell 4 rfl
      have x5 := KY.out.cell 5 rfl
      have p0 := MY.out.cell 0 rfl
      have p1 := MY.out.cell 1 rfl
      have y0 := DY.out.cell 0 rfl
      have y1 := DY.out.cell 1 rfl
      go_wp2_with fail
      refine (HC1.out W6 (Below.refl _ _)).mono ?_; rintro e w7 ⟨rfl, hb7⟩
      clear x0 x1 x2 x3 x4 x5 p0 p1 y0 y1
      have K7 := Lib.hid (below_blk hb7 KY.out KY.out.lt)
      have M7 := Lib.hid (below_blk hb7 MY.out MY.out.lt)
      have D7 := Lib.hid (below_blk hb7 DY.out DY.out.lt)
      have x0 := K7.out.cell 0 rfl
      have x1 := K7.out.cell 1 rfl
      have x2 := K7.out.cell 2 rfl
      have x3 := K7.out.cell 3 rfl
      have x4 := K7.out.cell 4 rfl
      have x5 := K7.out.cell 5 rfl
      have p0 := M7.out.cell 0 rfl
      have p1 := M7.out.cell 1 rfl
      have y0 := D7.out.cell 0 rfl
      have y2 := D7.out.cell 2 rfl
      have HB7 := Lib.hid hb7
      clear hb7
      go_wp2_with fail
      refine (HC2.out w7 HB7.out).mono ?_; rintro e w8 ⟨rfl, hb8⟩
      clear x0 x1 x2 x3 x4 x5 p0 p1 y0 y2
      have y3 := (below_blk hb8 D7.out D7.out.lt).cell 3 rfl
      have p1 := (below_blk hb8 M7.out M7.out.lt).cell 1 rfl
      have B8 := Lib.hid (belowT BY.out (belowT HB7.out hb8))
      clear hb8
      go_wp2_with fail
      go_ret
      exact ⟨rfl, B8.out⟩
  · have g1 : (PE != 0) = true := by simp [hP]
    clear hP
    go_wp2_with fail
    go_ret
    exact ⟨rfl, B4.out⟩
end Go.Proofs.Ytplebibabcdipaa
