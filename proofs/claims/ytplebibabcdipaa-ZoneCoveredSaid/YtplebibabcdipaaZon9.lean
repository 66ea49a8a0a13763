/- zone.Find, Time. -/
import Derived.Test.YtplebibabcdipaaZon8
namespace Go.Proofs.Ytplebibabcdipaa
open Go.RowKit

theorem distE_ok {n : Net} {r : ZRel} {p : Plc} (h : (distE n r p).2 = 0) : RelOk n r ∧ PlOk n p ∧ (distR n r p).2 = true ∧ (distE n r p).1 = (distR n r p).1 := by
  unfold distE at h ⊢
  split at h
  · rename_i hc; exact absurd h hc
  · rename_i hc
    have hc0 : chkE n r p = 0 := by simpa using hc
    split at h
    · rename_i hd
      refine ⟨(chkE_ok hc0).1, (chkE_ok hc0).2, hd, ?_⟩
      rw [if_neg hc, if_pos hd]
    · cases h
theorem findE_ok {n : Net} {r : ZRel} {p : Plc} (h : (findE n r p).2 = 0) : (distE n r p).2 = 0 ∧ ∃ (k : Nat) (z : ZSt), (findE n r p).1 = k ∧ r.zones[k]? = some z ∧ (distE n r p).1 ≤ 1000 * z.reach ∧ ∀ j y, j < k → r.zones[j]? = some y → 1000 * y.reach < (distE n r p).1 := by
  unfold findE at h ⊢
  split at h
  · rename_i hc; exact absurd h hc
  · rename_i hc
    have hc0 : (distE n r p).2 = 0 := by simpa using hc
    refine ⟨hc0, ?_⟩
    rw [if_neg hc]
    split at h
    · cases h
    · rename_i hk
      rw [if_neg hk]
      rcases idxP_range (fun z : ZSt => decide ((distE n r p).1 ≤ 1000 * z.reach)) r.zones 0 with h1 | ⟨k, z, h1, h2, h3, h4⟩
      · exact absurd (by rw [h1]; decide) hk
      · exact ⟨k, z, by show idxP _ _ _ = _; rw [h1]; omega, h2, of_decide_eq_true h3, fun j y hj hy => by have := of_decide_eq_false (h4 j y hj hy); omega⟩

set_option maxHeartbeats 1000000 in
theorem find1_c (z : ZSt) (d : Int) (db : Nat) (w : World) (c0 : w.cell? ⟨db, 0, none⟩ = some (.int .i64 d)) (hdb : db < w.heap.size) (h1 : 1 ≤ z.reach) (h2 : z.reach ≤ 1000000) :
    Calls Try.prog 40 #[.agg z.cells.toArray, .pointer (some ⟨db, 0, none⟩)] w fun e w' => e = .returned (.bool (decide (d ≤ 1000 * z.reach))) ∧ Below w.heap.size w w' := by
  obtain ⟨re, de⟩ := z
  show Calls _ _ #[.agg #[.int .i64 re, .int .i64 de], _] _ _
  simp only at h1 h2 ⊢
  have hw := IntWalk.i64_in (1000 * re) (by omega)
  have B : Hid (Below w.heap.size w (w.alloc (.cells #[.int .i64 re, .int .i64 de] 39))) := belowA (Below.refl _ _) _
  obtain ⟨E, hE⟩ : ∃ E, decide (d ≤ 1000 * re) = E := ⟨_, rfl⟩
  have HE := Lib.hid hE
  rw [hE]
  clear hE
  go_enter Try.func40, Try.ntmps40
  go_wp2_with fail
  go_ret
  exact ⟨by rw [← HE.out]; rfl, B.out⟩

set_option maxHeartbeats 2000000 in
theorem find_c (x0 : NAddr) (n : Net) (node rbr pbr : ByteArray) (za : Option Addr) (zc : Nat) (zs : List ZSt) (part : Int) (w : World) (hr : NetR w x0 n) (hwf : n.Wf) (hz : Reads w (.slice za zs.length zc) zs.length (flat ZSt.cells zs)) :
    Calls Try.prog 17 #[x0.val n, .agg #[.string node, .string rbr, .slice za zs.length zc], .agg #[.string pbr, .int .i64 part]] w fun e w' =>
      e = .returned (.tuple #[.int .i64 (findE n ⟨node, rbr, zs⟩ ⟨pbr, part⟩).1, .int .i64 (findE n ⟨node, rbr, zs⟩ ⟨pbr, part⟩).2]) ∧ Below w.heap.size w w' := by
  have HA := Lib.hid (fun W (hW : Below w.heap.size w W) => dist_c x0 n node rbr pbr za zc zs part W (hr.below hW) hwf (hz.below hW))
  have HZR : Hid ((distE n ⟨node, rbr, zs⟩ ⟨pbr, part⟩).2 = 0 → ∀ z ∈ zs, 1 ≤ z.reach ∧ z.reach ≤ 1000000) := fun h z hzz => by
    have := zBad_range (zonesE_ok _ _ (distE_ok h).1.zs z hzz)
    exact ⟨this.1, this.2.1⟩
  have HE : Hid (findE n ⟨node, rbr, zs⟩ ⟨pbr, part⟩ = if (distE n ⟨node, rbr, zs⟩ ⟨pbr, part⟩).2 ≠ 0 then (0, (distE n ⟨node, rbr, zs⟩ ⟨pbr, part⟩).2) else
    if idxP (fun z : ZSt => decide ((distE n ⟨node, rbr, zs⟩ ⟨pbr, part⟩).1 ≤ 1000 * z.reach)) zs 0 < 0 then (0, 8) else (idxP (fun z : ZSt => decide ((distE n ⟨node, rbr, zs⟩ ⟨pbr, part⟩).1 ≤ 1000 * z.reach)) zs 0, 0)) := rfl
  generalize findE n ⟨node, rbr, zs⟩ ⟨pbr, part⟩ = E at *
  generalize distE n ⟨node, rbr, zs⟩ ⟨pbr, part⟩ = D at *
  obtain ⟨d, dq⟩ := D
  simp only at HA HZR HE
  have HIF : Hid (∀ W g caps P, Below w.heap.size w W → (∀ (args : Array Value) (w : World), (callFunc g args).run Try.prog w = .ok (.enter g args) w) → TellsE W g caps (fun a : ZSt => .agg a.cells.toArray) zs P →
      Calls Try.prog 39 #[.slice za zs.length zc, .func (.func g) #[] caps] W fun e w' => e = .returned (.int .i64 (idxP P zs 0)) ∧ Below W.heap.size W w') := by
    intro W g caps P hb eg hf
    exact indexZs_c (.slice za zs.length zc) zs P g caps W (hz.below hb) eg hf
  clear hr hwf hz
  obtain ⟨K0, hK0⟩ : ∃ K, idxP (fun z : ZSt => decide (d ≤ 1000 * z.reach)) zs 0 = K := ⟨_, rfl⟩
  have HK0 := Lib.hid hK0
  rw [hK0] at HE
  clear hK0
  generalize zs.length = zn at *
  obtain ⟨na, nc, sa, sc, ba, bc, ga, gc, la, lc, ta, tc⟩ := x0
  obtain ⟨nl, sws, brs, gens, loads, stores⟩ := n
  simp only [NAddr.val] at HA HIF ⊢
  generalize nl.length = nn at *
  generalize sws.length = sn at *
  generalize brs.length = bn at *
  generalize gens.length = gn at *
  generalize loads.length = ln at *
  generalize stores.length = tn at *
  have B1 := belowA (Below.refl w.heap.size w) (.cells #[.slice na nn nc, .slice sa sn sc, .slice ba bn bc, .slice ga gn gc, .slice la ln lc, .slice ta tn tc] 29)
  have K1 := Blk.new w #[.slice na nn nc, .slice sa sn sc, .slice ba bn bc, .slice ga gn gc, .slice la ln lc, .slice ta tn tc] 29
  generalize hW1 : w.alloc (.cells #[.slice na nn nc, .slice sa sn sc, .slice ba bn bc, .slice ga gn gc, .slice la ln lc, .slice ta tn tc] 29) = W1 at *
  have B2 := belowA B1 (.cells #[.string node, .string rbr, .slice za zn zc] 44)
  have K2 := K1.alloc (.cells #[.string node, .string rbr, .slice za zn zc] 44)
  have L2 := Blk.new W1 #[.string node, .string rbr, .slice za zn zc] 44
  generalize hW2 : W1.alloc (.cells #[.string node, .string rbr, .slice za zn zc] 44) = W2 at *
  have B3 := Lib.hid (belowA B2 (.cells #[.string pbr, .int .i64 part] 31))
  have K3 := Lib.hid (K2.alloc (.cells #[.string pbr, .int .i64 part] 31))
  have L3 := Lib.hid (L2.alloc (.cells #[.string pbr, .int .i64 part] 31))
  have M3 := Lib.hid (Blk.new W2 #[.string pbr, .int .i64 part] 31)
  generalize hW3 : W2.alloc (.cells #[.string pbr, .int .i64 part] 31) = W3 at *
  clear B1 K1 B2 K2 L2
  have x0 := K3.out.cell 0 rfl
  have x1 := K3.out.cell 1 rfl
  have x2 := K3.out.cell 2 rfl
  have x3 := K3.out.cell 3 rfl
  have x4 := K3.out.cell 4 rfl
  have x5 := K3.out.cell 5 rfl
  have r0 := L3.out.cell 0 rfl
  have r1 := L3.out.cell 1 rfl
  have r2 := L3.out.cell 2 rfl
  have p0 := M3.out.cell 0 rfl
  have p1 := M3.out.cell 1 rfl
  have HA1 := Lib.hid (HA.out W3 B3.out)
  go_enter Try.func17, Try.ntmps17
  go_wp2_with fail
  refine HA1.out.mono ?_; rintro e w4 ⟨rfl, hb4⟩
  have B4 := Lib.hid (belowT B3.out hb4)
  have K4 := Lib.hid (below_blk hb4 K3.out K3.out.lt)
  have L4 := Lib.hid (below_blk hb4 L3.out L3.out.lt)
  have M4 := Lib.hid (below_blk hb4 M3.out M3.out.lt)
  clear x0 x1 x2 x3 x4 x5 r0 r1 r2 p0 p1
  clear HA HA1 hb4
  have B5 := Lib.hid (belowA B4.out (.cells #[.int .i64 d] 3))
  have D5 := Lib.hid (Blk.new w4 #[.int .i64 d] 3)
  have L5 := Lib.hid (L4.out.alloc (.cells #[.int .i64 d] 3))
  generalize hW5 : w4.alloc (.cells #[.int .i64 d] 3) = W5 at *
  by_cases hF : dq = 0
  · have g1 : (dq != 0) = false := by simp [hF]
    have HR := Lib.hid (HE.out.trans (if_neg (fun h => h hF)))
    have hzr := HZR.out hF
    have HI1 := Lib.hid (HIF.out W5 40 #[.pointer (some ⟨w4.heap.size, 0, none⟩)] (fun z => decide (d ≤ 1000 * z.reach)) B5.out (fun a w' => enters_of Try.func40 (by kernel_rfl) rfl a w')
      (fun a W ha hW => (find1_c a d w4.heap.size W (by rw [hW.cell (p := ⟨w4.heap.size, 0, none⟩) D5.out.lt]; exact D5.out.cell 0 rfl) (Nat.lt_of_lt_of_le D5.out.lt hW.size) (hzr a ha).1 (hzr a ha).2).mono fun e w' ⟨he, hw⟩ => ⟨he, hW.trans (hw.mono hW.size)⟩))
    rw [HK0.out] at HI1
    have r2 := L5.out.cell 2 rfl
    clear hF HE HIF HZR hzr
    go_wp2_with fail
    refine HI1.out.mono ?_; rintro e w6 ⟨rfl, hb6⟩
    have B6 := Lib.hid (belowT B5.out hb6)
    clear hb6 r2
    by_cases hk : K0 < 0
    · have g2 : decide (K0 < 0) = true := decide_eq_true hk
      have HR2 := Lib.hid (HR.out.trans (if_pos hk))
      clear hk HR
      go_wp2_with fail
      go_ret2
      exact ⟨by rw [HR2.out]; rfl, B6.out⟩
    · have g2 : decide (K0 < 0) = false := decide_eq_false hk
      have HR2 := Lib.hid (HR.out.trans (if_neg hk))
      clear hk HR
      go_wp2_with fail
      go_ret2
      exact ⟨by rw [HR2.out]; rfl, B6.out⟩
  · have g1 : (dq != 0) = true := by simp [hF]
    have HR := Lib.hid (HE.out.trans (if_pos hF))
    clear hF HE HIF
    go_wp2_with fail
    go_ret2
    exact ⟨by rw [HR.out]; rfl, B5.out⟩

set_option maxHeartbeats 2000000 in
theorem time_c (x0 : NAddr) (n : Net) (node rbr pbr : ByteArray) (za : Option Addr) (zc : Nat) (zs : List ZSt) (part : Int) (w : World) (hr : NetR w x0 n) (hwf : n.Wf) (hz : Reads w (.slice za zs.length zc) zs.length (flat ZSt.cells zs)) :
    Calls Try.prog 18 #[x0.val n, .agg #[.string node, .string rbr, .slice za zs.length zc], .agg #[.string pbr, .int .i64 part]] w fun e w' =>
      e = .returned (.tuple #[.int .i64 (timeE n ⟨node, rbr, zs⟩ ⟨pbr, part⟩).1, .int .i64 (timeE n ⟨node, rbr, zs⟩ ⟨pbr, part⟩).2]) ∧ Below w.heap.size w w' := by
  have HA := Lib.hid (fun W (hW : Below w.heap.size w W) => find_c x0 n node rbr pbr za zc zs part W (hr.below hW) hwf (hz.below hW))
  have HFK : Hid ((findE n ⟨node, rbr, zs⟩ ⟨pbr, part⟩).2 = 0 → ∃ (k : Nat) (z : ZSt), (findE n ⟨node, rbr, zs⟩ ⟨pbr, part⟩).1 = k ∧ zs[k]? = some z) := fun h => by
    obtain ⟨_, k, z, h1, h2, _⟩ := findE_ok h
    exact ⟨k, z, h1, h2⟩
  have HE : Hid (timeE n ⟨node, rbr, zs⟩ ⟨pbr, part⟩ = if (findE n ⟨node, rbr, zs⟩ ⟨pbr, part⟩).2 ≠ 0 then (0, (findE n ⟨node, rbr, zs⟩ ⟨pbr, part⟩).2) else ((zs.getD (findE n ⟨node, rbr, zs⟩ ⟨pbr, part⟩).1.toNat ⟨0, 0⟩).delay, 0)) := rfl
  generalize timeE n ⟨node, rbr, zs⟩ ⟨pbr, part⟩ = E at *
  generalize findE n ⟨node, rbr, zs⟩ ⟨pbr, part⟩ = D at *
  obtain ⟨d, dq⟩ := D
  simp only at HA HFK HE
  clear hr hwf
  obtain ⟨zn, hzn⟩ : ∃ k, zs.length = k := ⟨_, rfl⟩
  have HZN := Lib.hid hzn
  rw [hzn] at HA hz ⊢
  have HZ := Lib.hid hz
  clear hz hzn
  obtain ⟨na, nc, sa, sc, ba, bc, ga, gc, la, lc, ta, tc⟩ := x0
  obtain ⟨nl, sws, brs, gens, loads, stores⟩ := n
  simp only [NAddr.val] at HA ⊢
  generalize nl.length = nn at *
  generalize sws.length = sn at *
  generalize brs.length = bn at *
  generalize gens.length = gn at *
  generalize loads.length = ln at *
  generalize stores.length = tn at *
  have B1 := belowA (Below.refl w.heap.size w) (.cells #[.slice na nn nc, .slice sa sn sc, .slice ba bn bc, .slice ga gn gc, .slice la ln lc, .slice ta tn tc] 29)
  have K1 := Blk.new w #[.slice na nn nc, .slice sa sn sc, .slice ba bn bc, .slice ga gn gc, .slice la ln lc, .slice ta tn tc] 29
  generalize hW1 : w.alloc (.cells #[.slice na nn nc, .slice sa sn sc, .slice ba bn bc, .slice ga gn gc, .slice la ln lc, .slice ta tn tc] 29) = W1 at *
  have B2 := belowA B1 (.cells #[.string node, .string rbr, .slice za zn zc] 44)
  have K2 := K1.alloc (.cells #[.string node, .string rbr, .slice za zn zc] 44)
  have L2 := Blk.new W1 #[.string node, .string rbr, .slice za zn zc] 44
  generalize hW2 : W1.alloc (.cells #[.string node, .string rbr, .slice za zn zc] 44) = W2 at *
  have B3 := Lib.hid (belowA B2 (.cells #[.string pbr, .int .i64 part] 31))
  have K3 := Lib.hid (K2.alloc (.cells #[.string pbr, .int .i64 part] 31))
  have L3 := Lib.hid (L2.alloc (.cells #[.string pbr, .int .i64 part] 31))
  have M3 := Lib.hid (Blk.new W2 #[.string pbr, .int .i64 part] 31)
  generalize hW3 : W2.alloc (.cells #[.string pbr, .int .i64 part] 31) = W3 at *
  clear B1 K1 B2 K2 L2
  have x0 := K3.out.cell 0 rfl
  have x1 := K3.out.cell 1 rfl
  have x2 := K3.out.cell 2 rfl
  have x3 := K3.out.cell 3 rfl
  have x4 := K3.out.cell 4 rfl
  have x5 := K3.out.cell 5 rfl
  have r0 := L3.out.cell 0 rfl
  have r1 := L3.out.cell 1 rfl
  have r2 := L3.out.cell 2 rfl
  have p0 := M3.out.cell 0 rfl
  have p1 := M3.out.cell 1 rfl
  have HA1 := Lib.hid (HA.out W3 B3.out)
  go_enter Try.func18, Try.ntmps18
  go_wp2_with fail
  refine HA1.out.mono ?_; rintro e w4 ⟨rfl, hb4⟩
  have B4 := Lib.hid (belowT B3.out hb4)
  have K4 := Lib.hid (below_blk hb4 K3.out K3.out.lt)
  have L4 := Lib.hid (below_blk hb4 L3.out L3.out.lt)
  have M4 := Lib.hid (below_blk hb4 M3.out M3.out.lt)
  clear x0 x1 x2 x3 x4 x5 r0 r1 r2 p0 p1
  clear HA HA1 hb4
  by_cases hF : dq = 0
  · have g1 : (dq != 0) = false := by simp [hF]
    obtain ⟨k, z, hk, hzk⟩ := HFK.out hF
    have HR : Hid (E = (z.delay, 0)) := by
      show _ = _
      rw [HE.out, if_neg (fun h => h hF), hk]
      simp [hzk]
    subst hk
    have hlk : k < zn := by rw [← HZN.out]; exact (List.getElem?_eq_some_iff.1 hzk).1
    obtain ⟨zg, zoff, zcap', zvv, _, _, hzgl, hzc⟩ := (HZ.out.below B4.out).addr (by omega)
    simp only [Value.slice.injEq] at zvv
    obtain ⟨rfl, _, rfl⟩ := zvv
    obtain ⟨d0, d1⟩ := zst_cells hzc hzk
    have r2 := L4.out.cell 2 rfl
    clear hF HE HFK hzc hzk
    go_wp2_with fail
    go_ret2
    exact ⟨by rw [HR.out]; rfl, B4.out⟩
  · have g1 : (dq != 0) = true := by simp [hF]
    have HR := Lib.hid (HE.out.trans (if_pos hF))
    clear hF HE HFK
    go_wp2_with fail
    go_ret2
    exact ⟨by rw [HR.out]; rfl, B4.out⟩
end Go.Proofs.Ytplebibabcdipaa
