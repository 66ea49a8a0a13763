/- The law ZoneReaches walked. -/
import Derived.Test.YtplebibabcdipaaLawZFinds
namespace Go.Proofs.Ytplebibabcdipaa
open Go.RowKit

set_option maxHeartbeats 4000000 in
set_option maxRecDepth 100000 in
theorem zoneReaches_c (x0 : NAddr) (n : Net) (node rbr : ByteArray) (za : Option Addr) (zc : Nat) (zs : List ZSt) (pbr : ByteArray) (part : Int) (qbr : ByteArray) (qart : Int) (w : World) (hr : NetR w x0 n) (hwf : n.Wf) (hz : Reads w (.slice za zs.length zc) zs.length (flat ZSt.cells zs)) :
    Calls Try.prog 4 #[x0.val n, .agg #[.string node, .string rbr, .slice za zs.length zc], .agg #[.string pbr, .int .i64 part], .agg #[.string qbr, .int .i64 qart]] w fun e w' => e = .returned (.bool true) ∧ Below w.heap.size w w' := by
  have HD1 := Lib.hid (fun W (hW : Below w.heap.size w W) => dist_c x0 n node rbr pbr za zc zs part W (hr.below hW) hwf (hz.below hW))
  have HD2 := Lib.hid (fun W (hW : Below w.heap.size w W) => dist_c x0 n node rbr qbr za zc zs qart W (hr.below hW) hwf (hz.below hW))
  have HF1 := Lib.hid (fun W (hW : Below w.heap.size w W) => find_c x0 n node rbr pbr za zc zs part W (hr.below hW) hwf (hz.below hW))
  have HF2 := Lib.hid (fun W (hW : Below w.heap.size w W) => find_c x0 n node rbr qbr za zc zs qart W (hr.below hW) hwf (hz.below hW))
  have HT1 := Lib.hid (fun W (hW : Below w.heap.size w W) => time_c x0 n node rbr pbr za zc zs part W (hr.below hW) hwf (hz.below hW))
  have HT2 := Lib.hid (fun W (hW : Below w.heap.size w W) => time_c x0 n node rbr qbr za zc zs qart W (hr.below hW) hwf (hz.below hW))
  have e1 := timeE_find n ⟨node, rbr, zs⟩ ⟨pbr, part⟩
  have e2 := timeE_find n ⟨node, rbr, zs⟩ ⟨qbr, qart⟩
  have c1 : (distE n ⟨node, rbr, zs⟩ ⟨pbr, part⟩).2 ≠ 0 → (findE n ⟨node, rbr, zs⟩ ⟨pbr, part⟩).2 = (distE n ⟨node, rbr, zs⟩ ⟨pbr, part⟩).2 := fun h => by unfold findE; rw [if_pos h]
  have c2 : (distE n ⟨node, rbr, zs⟩ ⟨qbr, qart⟩).2 ≠ 0 → (findE n ⟨node, rbr, zs⟩ ⟨qbr, qart⟩).2 = (distE n ⟨node, rbr, zs⟩ ⟨qbr, qart⟩).2 := fun h => by unfold findE; rw [if_pos h]
  have hls := @reaches n ⟨node, rbr, zs⟩ ⟨pbr, part⟩ ⟨qbr, qart⟩
  generalize distE n ⟨node, rbr, zs⟩ ⟨pbr, part⟩ = D1 at *
  generalize distE n ⟨node, rbr, zs⟩ ⟨qbr, qart⟩ = D2 at *
  generalize findE n ⟨node, rbr, zs⟩ ⟨pbr, part⟩ = F1 at *
  generalize findE n ⟨node, rbr, zs⟩ ⟨qbr, qart⟩ = F2 at *
  generalize timeE n ⟨node, rbr, zs⟩ ⟨pbr, part⟩ = T1 at *
  generalize timeE n ⟨node, rbr, zs⟩ ⟨qbr, qart⟩ = T2 at *
  obtain ⟨x, EE⟩ := D1
  obtain ⟨y, f⟩ := D2
  obtain ⟨i, g⟩ := F1
  obtain ⟨k, h⟩ := F2
  obtain ⟨t, a⟩ := T1
  obtain ⟨u, b⟩ := T2
  simp only at HD1 HD2 HF1 HF2 HT1 HT2 e1 e2 c1 c2 hls
  subst e1 e2
  have HC1 := Lib.hid c1
  have HC2 := Lib.hid c2
  have HLS := Lib.hid hls
  clear hr hwf hz c1 c2 hls
  generalize zs.length = zn at *
  obtain ⟨na, nc, sa, sc, ba, bc, ga, gc, la, lc, ta, tc⟩ := x0
  obtain ⟨nl, sws, brs, gens, loads, stores⟩ := n
  simp only [NAddr.val] at HD1 HD2 HF1 HF2 HT1 HT2 ⊢
  generalize nl.length = nn at *
  generalize sws.length = sn at *
  generalize brs.length = bn at *
  generalize gens.length = gn at *
  generalize loads.length = ln at *
  generalize stores.length = tn at *
  have B1 := belowA (Below.refl w.heap.size w) (.cells #[.slice na nn nc, .slice sa sn sc, .slice ba bn bc, .slice ga gn gc, .slice la ln lc, .slice ta tn tc] 29)
  have K1 := Blk.new w #[.slice na nn nc, .slice sa sn sc, .slice ba bn bc, .slice ga gn gc, .slice la ln lc, .slice ta tn tc] 29
  generalize hW1 : w.alloc (.cells #[.slice na nn nc, .slice sa sn sc, .slice ba bn bc, .slice ga gn gc, .slice la ln lc, .slice ta tn tc] 29) = W1 at *
  have B2 := belowA B1 (.cells #[.string node, .string rbr, .slice za zn zc] 44)
  have K2 := K1.alloc (.cells #[.string node, .string rbr, .slice za zn zc] 44)
  have L2 := Blk.new W1 #[.string node, .string rbr, .slice za zn zc] 44
  generalize hW2 : W1.alloc (.cells #[.string node, .string rbr, .slice za zn zc] 44) = W2 at *
  have B3 := belowA B2 (.cells #[.string pbr, .int .i64 part] 31)
  have K3 := K2.alloc (.cells #[.string pbr, .int .i64 part] 31)
  have L3 := L2.alloc (.cells #[.string pbr, .int .i64 part] 31)
  have M3 := Blk.new W2 #[.string pbr, .int .i64 part] 31
  generalize hW3 : W2.alloc (.cells #[.string pbr, .int .i64 part] 31) = W3 at *
  have B0 := Lib.hid (belowA B3 (.cells #[.string qbr, .int .i64 qart] 31))
  have K0 := Lib.hid (K3.alloc (.cells #[.string qbr, .int .i64 qart] 31))
  have L0 := Lib.hid (L3.alloc (.cells #[.string qbr, .int .i64 qart] 31))
  have M0 := Lib.hid (M3.alloc (.cells #[.string qbr, .int .i64 qart] 31))
  have N0 := Lib.hid (Blk.new W3 #[.string qbr, .int .i64 qart] 31)
  generalize hW0 : W3.alloc (.cells #[.string qbr, .int .i64 qart] 31) = W0 at *
  clear B1 K1 B2 K2 L2 B3 K3 L3 M3
  go_enter Try.func4, Try.ntmps4
  go_wp2_with fail
  refine (zoneWorks_c W0).mono ?_; rintro e w4 ⟨rfl, hb4⟩
  have B4 := Lib.hid (belowT B0.out hb4)
  have K4 := Lib.hid (below_blk hb4 K0.out K0.out.lt)
  have L4 := Lib.hid (below_blk hb4 L0.out L0.out.lt)
  have M4 := Lib.hid (below_blk hb4 M0.out M0.out.lt)
  have N4 := Lib.hid (below_blk hb4 N0.out N0.out.lt)
  clear hb4 B0 K0 L0 M0 N0 hW0 hW1 hW2 hW3
  have x0 := K4.out.cell 0 rfl
  have x1 := K4.out.cell 1 rfl
  have x2 := K4.out.cell 2 rfl
  have x3 := K4.out.cell 3 rfl
  have x4 := K4.out.cell 4 rfl
  have x5 := K4.out.cell 5 rfl
  have r0 := L4.out.cell 0 rfl
  have r1 := L4.out.cell 1 rfl
  have r2 := L4.out.cell 2 rfl
  have p0 := M4.out.cell 0 rfl
  have p1 := M4.out.cell 1 rfl
  have q0 := N4.out.cell 0 rfl
  have q1 := N4.out.cell 1 rfl
  go_wp2_with fail
  refine (HD1.out _ B4.out).mono ?_; rintro e w5 ⟨rfl, hb4⟩
  clear x0 x1 x2 x3 x4 x5 r0 r1 r2 p0 p1 q0 q1
  have B5 := Lib.hid (belowT B4.out hb4)
  have K5 := Lib.hid (below_blk hb4 K4.out K4.out.lt)
  have L5 := Lib.hid (below_blk hb4 L4.out L4.out.lt)
  have M5 := Lib.hid (below_blk hb4 M4.out M4.out.lt)
  have N5 := Lib.hid (below_blk hb4 N4.out N4.out.lt)
  clear hb4 B4 K4 L4 M4 N4
  have B4 := B5
  have K4 := K5
  have L4 := L5
  have M4 := M5
  have N4 := N5
  clear B5 K5 L5 M5 N5
  have x0 := K4.out.cell 0 rfl
  have x1 := K4.out.cell 1 rfl
  have x2 := K4.out.cell 2 rfl
  have x3 := K4.out.cell 3 rfl
  have x4 := K4.out.cell 4 rfl
  have x5 := K4.out.cell 5 rfl
  have r0 := L4.out.cell 0 rfl
  have r1 := L4.out.cell 1 rfl
  have r2 := L4.out.cell 2 rfl
  have p0 := M4.out.cell 0 rfl
  have p1 := M4.out.cell 1 rfl
  have q0 := N4.out.cell 0 rfl
  have q1 := N4.out.cell 1 rfl
  go_wp2_with fail
  refine (HD2.out _ B4.out).mono ?_; rintro e w5 ⟨rfl, hb4⟩
  clear x0 x1 x2 x3 x4 x5 r0 r1 r2 p0 p1 q0 q1
  have B5 := Lib.hid (belowT B4.out hb4)
  have K5 := Lib.hid (below_blk hb4 K4.out K4.out.lt)
  have L5 := Lib.hid (below_blk hb4 L4.out L4.out.lt)
  have M5 := Lib.hid (below_blk hb4 M4.out M4.out.lt)
  have N5 := Lib.hid (below_blk hb4 N4.out N4.out.lt)
  clear hb4 B4 K4 L4 M4 N4
  have B4 := B5
  have K4 := K5
  have L4 := L5
  have M4 := M5
  have N4 := N5
  clear B5 K5 L5 M5 N5
  have x0 := K4.out.cell 0 rfl
  have x1 := K4.out.cell 1 rfl
  have x2 := K4.out.cell 2 rfl
  have x3 := K4.out.cell 3 rfl
  have x4 := K4.out.cell 4 rfl
  have x5 := K4.out.cell 5 rfl
  have r0 := L4.out.cell 0 rfl
  have r1 := L4.out.cell 1 rfl
  have r2 := L4.out.cell 2 rfl
  have p0 := M4.out.cell 0 rfl
  have p1 := M4.out.cell 1 rfl
  have q0 := N4.out.cell 0 rfl
  have q1 := N4.out.cell 1 rfl
  go_wp2_with fail
  refine (HF1.out _ B4.out).mono ?_; rintro e w5 ⟨rfl, hb4⟩
  clear x0 x1 x2 x3 x4 x5 r0 r1 r2 p0 p1 q0 q1
  have B5 := Lib.hid (belowT B4.out hb4)
  have K5 := Lib.hid (below_blk hb4 K4.out K4.out.lt)
  have L5 := Lib.hid (below_blk hb4 L4.out L4.out.lt)
  have M5 := Lib.hid (below_blk hb4 M4.out M4.out.lt)
  have N5 := Lib.hid (below_blk hb4 N4.out N4.out.lt)
  clear hb4 B4 K4 L4 M4 N4
  have B4 := B5
  have K4 := K5
  have L4 := L5
  have M4 := M5
  have N4 := N5
  clear B5 K5 L5 M5 N5
  have x0 := K4.out.cell 0 rfl
  have x1 := K4.out.cell 1 rfl
  have x2 := K4.out.cell 2 rfl
  have x3 := K4.out.cell 3 rfl
  have x4 := K4.out.cell 4 rfl
  have x5 := K4.out.cell 5 rfl
  have r0 := L4.out.cell 0 rfl
  have r1 := L4.out.cell 1 rfl
  have r2 := L4.out.cell 2 rfl
  have p0 := M4.out.cell 0 rfl
  have p1 := M4.out.cell 1 rfl
  have q0 := N4.out.cell 0 rfl
  have q1 := N4.out.cell 1 rfl
  go_wp2_with fail
  refine (HF2.out _ B4.out).mono ?_; rintro e w5 ⟨rfl, hb4⟩
  clear x0 x1 x2 x3 x4 x5 r0 r1 r2 p0 p1 q0 q1
  have B5 := Lib.hid (belowT B4.out hb4)
  have K5 := Lib.hid (below_blk hb4 K4.out K4.out.lt)
  have L5 := Lib.hid (below_blk hb4 L4.out L4.out.lt)
  have M5 := Lib.hid (below_blk hb4 M4.out M4.out.lt)
  have N5 := Lib.hid (below_blk hb4 N4.out N4.out.lt)
  clear hb4 B4 K4 L4 M4 N4
  have B4 := B5
  have K4 := K5
  have L4 := L5
  have M4 := M5
  have N4 := N5
  clear B5 K5 L5 M5 N5
  have x0 := K4.out.cell 0 rfl
  have x1 := K4.out.cell 1 rfl
  have x2 := K4.out.cell 2 rfl
  have x3 := K4.out.cell 3 rfl
  have x4 := K4.out.cell 4 rfl
  have x5 := K4.out.cell 5 rfl
  have r0 := L4.out.cell 0 rfl
  have r1 := L4.out.cell 1 rfl
  have r2 := L4.out.cell 2 rfl
  have p0 := M4.out.cell 0 rfl
  have p1 := M4.out.cell 1 rfl
  have q0 := N4.out.cell 0 rfl
  have q1 := N4.out.cell 1 rfl
  go_wp2_with fail
  refine (HT1.out _ B4.out).mono ?_; rintro e w5 ⟨rfl, hb4⟩
  clear x0 x1 x2 x3 x4 x5 r0 r1 r2 p0 p1 q0 q1
  have B5 := Lib.hid (belowT B4.out hb4)
  have K5 := Lib.hid (below_blk hb4 K4.out K4.out.lt)
  have L5 := Lib.hid (below_blk hb4 L4.out L4.out.lt)
  have M5 := Lib.hid (below_blk hb4 M4.out M4.out.lt)
  have N5 := Lib.hid (below_blk hb4 N4.out N4.out.lt)
  clear hb4 B4 K4 L4 M4 N4
  have B4 := B5
  have K4 := K5
  have L4 := L5
  have M4 := M5
  have N4 := N5
  clear B5 K5 L5 M5 N5
  have x0 := K4.out.cell 0 rfl
  have x1 := K4.out.cell 1 rfl
  have x2 := K4.out.cell 2 rfl
  have x3 := K4.out.cell 3 rfl
  have x4 := K4.out.cell 4 rfl
  have x5 := K4.out.cell 5 rfl
  have r0 := L4.out.cell 0 rfl
  have r1 := L4.out.cell 1 rfl
  have r2 := L4.out.cell 2 rfl
  have p0 := M4.out.cell 0 rfl
  have p1 := M4.out.cell 1 rfl
  have q0 := N4.out.cell 0 rfl
  have q1 := N4.out.cell 1 rfl
  go_wp2_with fail
  refine (HT2.out _ B4.out).mono ?_; rintro e w5 ⟨rfl, hb4⟩
  clear x0 x1 x2 x3 x4 x5 r0 r1 r2 p0 p1 q0 q1
  have B5 := Lib.hid (belowT B4.out hb4)
  have K5 := Lib.hid (below_blk hb4 K4.out K4.out.lt)
  have L5 := Lib.hid (below_blk hb4 L4.out L4.out.lt)
  have M5 := Lib.hid (below_blk hb4 M4.out M4.out.lt)
  have N5 := Lib.hid (below_blk hb4 N4.out N4.out.lt)
  clear hb4 B4 K4 L4 M4 N4
  have B4 := B5
  have K4 := K5
  have L4 := L5
  have M4 := M5
  have N4 := N5
  clear B5 K5 L5 M5 N5
  clear HD1 HD2 HF1 HF2 HT1 HT2 K4 L4 M4 N4
  by_cases he : EE = 0
  · have g1 : (EE != 0) = false := by simp [he]
    by_cases hf : f = 0
    · have g2 : (f != 0) = false := by simp [hf]
      by_cases hxy : x ≤ y
      · have g3 : decide (y < x) = false := decide_eq_false (by omega)
        by_cases hh : b = 0
        · have g4 : (b != 0) = false := by simp [hh]
          obtain ⟨q1, q2, q3⟩ := HLS.out he hf hxy hh
          have g5 : (a == 0) = true := by simp [q1]
          have g6 : decide (i ≤ k) = true := decide_eq_true q2
          have g7 : decide (t ≤ u) = true := decide_eq_true q3
          clear he hf hxy hh q1 q2 q3 HC1 HC2
          clear HLS
          go_wp2_with fail
          go_ret
          exact ⟨rfl, B4.out⟩
        · have g4 : (b != 0) = true := by simp [hh]
          clear he hf hxy hh HC1 HC2
          clear HLS
          go_wp2_with fail
          go_ret
          exact ⟨rfl, B4.out⟩
      · have g3 : decide (y < x) = true := decide_eq_true (by omega)
        clear he hf hxy HC1 HC2
        clear HLS
        go_wp2_with fail
        go_ret
        exact ⟨rfl, B4.out⟩
    · have g2 : (f != 0) = true := by simp [hf]
      have hcf := HC2.out hf
      subst hcf
      clear he hf HC1 HC2
      clear HLS
      go_wp2_with fail
      go_ret
      exact ⟨rfl, B4.out⟩
  · have g1 : (EE != 0) = true := by simp [he]
    have hce := HC1.out he
    subst hce
    by_cases hf : f = 0
    · have g2 : (f != 0) = false := by simp [hf]
      clear he hf HC1 HC2
      clear HLS
      go_wp2_with fail
      go_ret
      exact ⟨rfl, B4.out⟩
    · have g2 : (f != 0) = true := by simp [hf]
      have hcf := HC2.out hf
      subst hcf
      clear he hf HC1 HC2
      clear HLS
      go_wp2_with fail
      go_ret
      exact ⟨rfl, B4.out⟩
end Go.Proofs.Ytplebibabcdipaa
