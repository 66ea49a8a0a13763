/- zone.check, Distance, Find, Time. zone.Find, Time. cmp.Compare; slices.SortStableFunc at []int, for at most 19 numbers: what is sorted, and how. slices.insertionSortCmpFunc, stableCmpFunc, SortStableFunc at []int, for at most 19 numbers. slices.SortStableFunc at []int, for at most 19 numbers. zone.Covered, for at most six relays. -/
import Derived.Test.YtplebibabcdipaaZon7
namespace Go.Proofs.Ytplebibabcdipaa
open Go.RowKit

/-- What check, Distance, Find, Time answer. -/
def chkE (n : Net) (r : ZRel) (p : Plc) : Int := if relayE n r ≠ 0 then relayE n r else placeE n p
def distE (n : Net) (r : ZRel) (p : Plc) : Int × Int := if chkE n r p ≠ 0 then (0, chkE n r p) else if (distR n r p).2 = true then ((distR n r p).1, 0) else (0, 8)
def findE (n : Net) (r : ZRel) (p : Plc) : Int × Int :=
  if (distE n r p).2 ≠ 0 then (0, (distE n r p).2) else
  if idxP (fun z : ZSt => decide ((distE n r p).1 ≤ 1000 * z.reach)) r.zones 0 < 0 then (0, 8) else (idxP (fun z : ZSt => decide ((distE n r p).1 ≤ 1000 * z.reach)) r.zones 0, 0)
def timeE (n : Net) (r : ZRel) (p : Plc) : Int × Int := if (findE n r p).2 ≠ 0 then (0, (findE n r p).2) else ((r.zones.getD (findE n r p).1.toNat ⟨0, 0⟩).delay, 0)

theorem zonesE_ok : ∀ (l : List ZSt) (o : Option ZSt), zonesE o l = 0 → ∀ z ∈ l, zBad z = false := by
  intro l
  induction l with
  | nil => intro o _ z hz; cases hz
  | cons y ys ih =>
    intro o h z hz
    have key : zBad y = false ∧ zonesE (some y) ys = 0 := by
      cases o with
      | none =>
        unfold zonesE at h
        split at h
        · cases h
        · rename_i hb; exact ⟨by simpa using hb, h⟩
      | some p =>
        unfold zonesE at h
        split at h
        · cases h
        · rename_i hb
          split at h
          · cases h
          · exact ⟨by simpa using hb, h⟩
    rcases List.mem_cons.1 hz with rfl | hz
    · exact key.1
    · exact ih _ key.2 z hz
theorem zBad_range {z : ZSt} (h : zBad z = false) : 1 ≤ z.reach ∧ z.reach ≤ 1000000 ∧ 0 ≤ z.delay ∧ z.delay ≤ 100000 := by
  unfold zBad at h
  simp only [Bool.or_eq_false_iff, decide_eq_false_iff_not] at h
  omega
/-- What a relay and a place that are let pass have. -/
structure RelOk (n : Net) (r : ZRel) : Prop where
  net : netE n = 0
  br : ∃ (k : Nat) (x : NBr), brAt n r.branch = k ∧ n.brs[k]? = some x ∧ badEnd r.node x = false
  len : 1 ≤ r.zones.length ∧ r.zones.length ≤ 4
  zs : zonesE none r.zones = 0
theorem relayE_ok {n : Net} {r : ZRel} (h : relayE n r = 0) : RelOk n r := by
  unfold relayE at h
  split at h
  · rename_i hn; exact absurd h hn
  · rename_i hn
    split at h
    · cases h
    · rename_i hk
      split at h
      · cases h
      · rename_i hb
        rcases brAt_range n r.branch with h1 | ⟨k, x, h1, h2, _⟩
        · omega
        · rw [brOf_eq h1 h2] at hb
          refine ⟨by simpa using hn, ⟨k, x, h1, h2, ?_⟩, ?_, h⟩
          · cases hq : badEnd r.node x
            · rfl
            · exact absurd (Or.inl hq) hb
          · constructor
            · rcases Nat.lt_or_ge r.zones.length 1 with h' | h'
              · exact absurd (Or.inr (Or.inl h')) hb
              · exact h'
            · rcases Nat.lt_or_ge 4 r.zones.length with h' | h'
              · exact absurd (Or.inr (Or.inr h')) hb
              · exact h'
structure PlOk (n : Net) (p : Plc) : Prop where
  net : netE n = 0
  br : ∃ (k : Nat) (x : NBr), brAt n p.branch = k ∧ n.brs[k]? = some x ∧ sameB x.name p.branch = true
  part : 0 ≤ p.part ∧ p.part ≤ 1000
theorem placeE_ok {n : Net} {p : Plc} (h : placeE n p = 0) : PlOk n p := by
  unfold placeE at h
  split at h
  · rename_i hn; exact absurd h hn
  · rename_i hn
    split at h
    · cases h
    · rename_i hk
      split at h
      · cases h
      · rename_i hp
        rcases brAt_range n p.branch with h1 | ⟨k, x, h1, h2, h3⟩
        · omega
        · exact ⟨by simpa using hn, ⟨k, x, h1, h2, h3⟩, by omega⟩
theorem chkE_ok {n : Net} {r : ZRel} {p : Plc} (h : chkE n r p = 0) : RelOk n r ∧ PlOk n p := by
  unfold chkE at h
  split at h
  · rename_i hn; exact absurd h hn
  · rename_i hn
    exact ⟨relayE_ok (by simpa using hn), placeE_ok h⟩

set_option maxHeartbeats 2000000 in
theorem check3_c (x0 : NAddr) (n : Net) (node rbr pbr : ByteArray) (za : Option Addr) (zc : Nat) (zs : List ZSt) (part : Int) (w : World) (hr : NetR w x0 n) (hwf : n.Wf) (hz : Reads w (.slice za zs.length zc) zs.length (flat ZSt.cells zs)) :
    Calls Try.prog 37 #[x0.val n, .agg #[.string node, .string rbr, .slice za zs.length zc], .agg #[.string pbr, .int .i64 part]] w fun e w' =>
      e = .returned (.int .i64 (chkE n ⟨node, rbr, zs⟩ ⟨pbr, part⟩)) ∧ Below w.heap.size w w' := by
  have HA := Lib.hid (fun W (hW : Below w.heap.size w W) => zcheck_c x0 n node rbr za zc zs W (hr.below hW) hwf (hz.below hW))
  have HB := Lib.hid (fun W (hW : Below w.heap.size w W) => place_c x0 n pbr part W (hr.below hW) hwf)
  have HE : Hid (chkE n ⟨node, rbr, zs⟩ ⟨pbr, part⟩ = if relayE n ⟨node, rbr, zs⟩ ≠ 0 then relayE n ⟨node, rbr, zs⟩ else placeE n ⟨pbr, part⟩) := rfl
  generalize chkE n ⟨node, rbr, zs⟩ ⟨pbr, part⟩ = E at *
  generalize relayE n ⟨node, rbr, zs⟩ = F at *
  generalize placeE n ⟨pbr, part⟩ = G at *
  clear hr hwf hz
  generalize zs.length = zn at *
  obtain ⟨na, nc, sa, sc, ba, bc, ga, gc, la, lc, ta, tc⟩ := x0
  obtain ⟨nl, sws, brs, gens, loads, stores⟩ := n
  simp only [NAddr.val] at HA HB ⊢
  generalize nl.length = nn at *
  generalize sws.length = sn at *
  generalize brs.length = bn at *
  generalize gens.length = gn at *
  generalize loads.length = ln at *
  generalize stores.length = tn at *
  have B1 := belowA (Below.refl w.heap.size w) (.cells #[.slice na nn nc, .slice sa sn sc, .slice ba bn bc, .slice ga gn gc, .slice la ln lc, .slice ta tn tc] 29)
  have K1 := Blk.new w #[.slice na nn nc, .slice sa sn sc, .slice ba bn bc, .slice ga gn gc, .slice la ln lc, .slice ta tn tc] 29
  generalize hW1 : w.alloc (.cells #[.slice na nn nc, .slice sa sn sc, .slice ba bn bc, .slice ga gn gc, .slice la ln lc, .slice ta tn tc] 29) = W1 at *
  have B2 := belowA B1 (.cells #[.string node, .string rbr, .slice za zn zc] 44)
  have K2 := K1.alloc (.cells #[.string node, .string rbr, .slice za zn zc] 44)
  have L2 := Blk.new W1 #[.string node, .string rbr, .slice za zn zc] 44
  generalize hW2 : W1.alloc (.cells #[.string node, .string rbr, .slice za zn zc] 44) = W2 at *
  have B3 := Lib.hid (belowA B2 (.cells #[.string pbr, .int .i64 part] 31))
  have K3 := Lib.hid (K2.alloc (.cells #[.string pbr, .int .i64 part] 31))
  have L3 := Lib.hid (L2.alloc (.cells #[.string pbr, .int .i64 part] 31))
  have M3 := Lib.hid (Blk.new W2 #[.string pbr, .int .i64 part] 31)
  generalize hW3 : W2.alloc (.cells #[.string pbr, .int .i64 part] 31) = W3 at *
  clear B1 K1 B2 K2 L2
  have x0 := K3.out.cell 0 rfl
  have x1 := K3.out.cell 1 rfl
  have x2 := K3.out.cell 2 rfl
  have x3 := K3.out.cell 3 rfl
  have x4 := K3.out.cell 4 rfl
  have x5 := K3.out.cell 5 rfl
  have r0 := L3.out.cell 0 rfl
  have r1 := L3.out.cell 1 rfl
  have r2 := L3.out.cell 2 rfl
  have p0 := M3.out.cell 0 rfl
  have p1 := M3.out.cell 1 rfl
  have HA1 := Lib.hid (HA.out W3 B3.out)
  go_enter Try.func37, Try.ntmps37
  go_wp2_with fail
  refine HA1.out.mono ?_; rintro e w4 ⟨rfl, hb4⟩
  have B4 := Lib.hid (belowT B3.out hb4)
  have K4 := Lib.hid (below_blk hb4 K3.out K3.out.lt)
  have L4 := Lib.hid (below_blk hb4 L3.out L3.out.lt)
  have M4 := Lib.hid (below_blk hb4 M3.out M3.out.lt)
  clear x0 x1 x2 x3 x4 x5 r0 r1 r2 p0 p1
  clear HA HA1 hb4
  by_cases hF : F = 0
  · have g1 : (F != 0) = false := by simp [hF]
    have HR := Lib.hid (HE.out.trans (if_neg (fun h => h hF)))
    have HB1 := Lib.hid (HB.out w4 B4.out)
    have x0 := K4.out.cell 0 rfl
    have x1 := K4.out.cell 1 rfl
    have x2 := K4.out.cell 2 rfl
    have x3 := K4.out.cell 3 rfl
    have x4 := K4.out.cell 4 rfl
    have x5 := K4.out.cell 5 rfl
    have r0 := L4.out.cell 0 rfl
    have r1 := L4.out.cell 1 rfl
    have r2 := L4.out.cell 2 rfl
    have p0 := M4.out.cell 0 rfl
    have p1 := M4.out.cell 1 rfl
    clear hF HE HB
    go_wp2_with fail
    refine HB1.out.mono ?_; rintro e w5 ⟨rfl, hb5⟩
    have B5 := Lib.hid (belowT B4.out hb5)
    clear hb5
    go_wp2_with fail
    go_ret
    exact ⟨by rw [HR.out]; rfl, B5.out⟩
  · have g1 : (F != 0) = true := by simp [hF]
    have HR := Lib.hid (HE.out.trans (if_pos hF))
    clear hF HE HB
    go_wp2_with fail
    go_ret
    exact ⟨by rw [HR.out]; rfl, B4.out⟩

set_option maxHeartbeats 2000000 in
theorem dist_c (x0 : NAddr) (n : Net) (node rbr pbr : ByteArray) (za : Option Addr) (zc : Nat) (zs : List ZSt) (part : Int) (w : World) (hr : NetR w x0 n) (hwf : n.Wf) (hz : Reads w (.slice za zs.length zc) zs.length (flat ZSt.cells zs)) :
    Calls Try.prog 16 #[x0.val n, .agg #[.string node, .string rbr, .slice za zs.length zc], .agg #[.string pbr, .int .i64 part]] w fun e w' =>
      e = .returned (.tuple #[.int .i64 (distE n ⟨node, rbr, zs⟩ ⟨pbr, part⟩).1, .int .i64 (distE n ⟨node, rbr, zs⟩ ⟨pbr, part⟩).2]) ∧ Below w.heap.size w w' := by
  have HA := Lib.hid (fun W (hW : Below w.heap.size w W) => check3_c x0 n node rbr pbr za zc zs part W (hr.below hW) hwf (hz.below hW))
  have HB : Hid (chkE n ⟨node, rbr, zs⟩ ⟨pbr, part⟩ = 0 → ∀ W, Below w.heap.size w W → Calls Try.prog 38 #[x0.val n, .agg #[.string node, .string rbr, .slice za zs.length zc], .agg #[.string pbr, .int .i64 part]] W fun e w' =>
      e = .returned (.tuple #[.int .i64 (distR n ⟨node, rbr, zs⟩ ⟨pbr, part⟩).1, .bool (distR n ⟨node, rbr, zs⟩ ⟨pbr, part⟩).2]) ∧ Below W.heap.size W w') := fun h W hW => by
    obtain ⟨ro, po⟩ := chkE_ok h
    obtain ⟨k1, b, h1, h2, _⟩ := ro.br
    obtain ⟨k2, c, h3, h4, _⟩ := po.br
    have e1 : distR n ⟨node, rbr, zs⟩ ⟨pbr, part⟩ = distB n node b c k1 k2 part := by
      unfold distR
      simp only at h1 h3 ⊢
      rw [brOf_eq h1 h2, brOf_eq h3 h4, h1, h3]
    rw [e1]
    exact distance_c x0 n node rbr pbr za zs.length zc part k1 k2 b c W (hr.below hW) (netE_ok ro.net) h1 h2 h3 h4 po.part.1 po.part.2
  have HE : Hid (distE n ⟨node, rbr, zs⟩ ⟨pbr, part⟩ = if chkE n ⟨node, rbr, zs⟩ ⟨pbr, part⟩ ≠ 0 then (0, chkE n ⟨node, rbr, zs⟩ ⟨pbr, part⟩) else if (distR n ⟨node, rbr, zs⟩ ⟨pbr, part⟩).2 = true then ((distR n ⟨node, rbr, zs⟩ ⟨pbr, part⟩).1, 0) else (0, 8)) := rfl
  generalize distE n ⟨node, rbr, zs⟩ ⟨pbr, part⟩ = E at *
  generalize chkE n ⟨node, rbr, zs⟩ ⟨pbr, part⟩ = F at *
  generalize distR n ⟨node, rbr, zs⟩ ⟨pbr, part⟩ = G at *
  obtain ⟨gd, gq⟩ := G
  simp only at HB HE
  clear hr hwf hz
  generalize zs.length = zn at *
  obtain ⟨na, nc, sa, sc, ba, bc, ga, gc, la, lc, ta, tc⟩ := x0
  obtain ⟨nl, sws, brs, gens, loads, stores⟩ := n
  simp only [NAddr.val] at HA HB ⊢
  generalize nl.length = nn at *
  generalize sws.length = sn at *
  generalize brs.length = bn at *
  generalize gens.length = gn at *
  generalize loads.length = ln at *
  generalize stores.length = tn at *
  have B1 := belowA (Below.refl w.heap.size w) (.cells #[.slice na nn nc, .slice sa sn sc, .slice ba bn bc, .slice ga gn gc, .slice la ln lc, .slice ta tn tc] 29)
  have K1 := Blk.new w #[.slice na nn nc, .slice sa sn sc, .slice ba bn bc, .slice ga gn gc, .slice la ln lc, .slice ta tn tc] 29
  generalize hW1 : w.alloc (.cells #[.slice na nn nc, .slice sa sn sc, .slice ba bn bc, .slice ga gn gc, .slice la ln lc, .slice ta tn tc] 29) = W1 at *
  have B2 := belowA B1 (.cells #[.string node, .string rbr, .slice za zn zc] 44)
  have K2 := K1.alloc (.cells #[.string node, .string rbr, .slice za zn zc] 44)
  have L2 := Blk.new W1 #[.string node, .string rbr, .slice za zn zc] 44
  generalize hW2 : W1.alloc (.cells #[.string node, .string rbr, .slice za zn zc] 44) = W2 at *
  have B3 := Lib.hid (belowA B2 (.cells #[.string pbr, .int .i64 part] 31))
  have K3 := Lib.hid (K2.alloc (.cells #[.string pbr, .int .i64 part] 31))
  have L3 := Lib.hid (L2.alloc (.cells #[.string pbr, .int .i64 part] 31))
  have M3 := Lib.hid (Blk.new W2 #[.string pbr, .int .i64 part] 31)
  generalize hW3 : W2.alloc (.cells #[.string pbr, .int .i64 part] 31) = W3 at *
  clear B1 K1 B2 K2 L2
  have x0 := K3.out.cell 0 rfl
  have x1 := K3.out.cell 1 rfl
  have x2 := K3.out.cell 2 rfl
  have x3 := K3.out.cell 3 rfl
  have x4 := K3.out.cell 4 rfl
  have x5 := K3.out.cell 5 rfl
  have r0 := L3.out.cell 0 rfl
  have r1 := L3.out.cell 1 rfl
  have r2 := L3.out.cell 2 rfl
  have p0 := M3.out.cell 0 rfl
  have p1 := M3.out.cell 1 rfl
  have HA1 := Lib.hid (HA.out W3 B3.out)
  go_enter Try.func16, Try.ntmps16
  go_wp2_with fail
  refine HA1.out.mono ?_; rintro e w4 ⟨rfl, hb4⟩
  have B4 := Lib.hid (belowT B3.out hb4)
  have K4 := Lib.hid (below_blk hb4 K3.out K3.out.lt)
  have L4 := Lib.hid (below_blk hb4 L3.out L3.out.lt)
  have M4 := Lib.hid (below_blk hb4 M3.out M3.out.lt)
  clear x0 x1 x2 x3 x4 x5 r0 r1 r2 p0 p1
  clear HA HA1 hb4
  by_cases hF : F = 0
  · have g1 : (F != 0) = false := by simp [hF]
    have HR := Lib.hid (HE.out.trans (if_neg (fun h => h hF)))
    have HB1 := Lib.hid (HB.out hF w4 B4.out)
    have x0 := K4.out.cell 0 rfl
    have x1 := K4.out.cell 1 rfl
    have x2 := K4.out.cell 2 rfl
    have x3 := K4.out.cell 3 rfl
    have x4 := K4.out.cell 4 rfl
    have x5 := K4.out.cell 5 rfl
    have r0 := L4.out.cell 0 rfl
    have r1 := L4.out.cell 1 rfl
    have r2 := L4.out.cell 2 rfl
    have p0 := M4.out.cell 0 rfl
    have p1 := M4.out.cell 1 rfl
    clear hF HE HB
    go_wp2_with fail
    refine HB1.out.mono ?_; rintro e w5 ⟨rfl, hb5⟩
    have B5 := Lib.hid (belowT B4.out hb5)
    clear hb5
    cases gq
    · go_wp2_with fail
      go_ret2
      exact ⟨by rw [HR.out]; rfl, B5.out⟩
    · go_wp2_with fail
      go_ret2
      exact ⟨by rw [HR.out]; rfl, B5.out⟩
  · have g1 : (F != 0) = true := by simp [hF]
    have HR := Lib.hid (HE.out.trans (if_pos hF))
    clear hF HE HB
    go_wp2_with fail
    go_ret2
    exact ⟨by rw [HR.out]; rfl, B4.out⟩
end Go.Proofs.Ytplebibabcdipaa
namespace Go.Proofs.Ytplebibabcdipaa
open Go.RowKit

theorem distE_ok {n : Net} {r : ZRel} {p : Plc} (h : (distE n r p).2 = 0) : RelOk n r ∧ PlOk n p ∧ (distR n r p).2 = true ∧ (distE n r p).1 = (distR n r p).1 := by
  unfold distE at h ⊢
  split at h
  · rename_i hc; exact absurd h hc
  · rename_i hc
    have hc0 : chkE n r p = 0 := by simpa using hc
    split at h
    · rename_i hd
      refine ⟨(chkE_ok hc0).1, (chkE_ok hc0).2, hd, ?_⟩
      rw [if_neg hc, if_pos hd]
    · cases h
theorem findE_ok {n : Net} {r : ZRel} {p : Plc} (h : (findE n r p).2 = 0) : (distE n r p).2 = 0 ∧ ∃ (k : Nat) (z : ZSt), (findE n r p).1 = k ∧ r.zones[k]? = some z ∧ (distE n r p).1 ≤ 1000 * z.reach ∧ ∀ j y, j < k → r.zones[j]? = some y → 1000 * y.reach < (distE n r p).1 := by
  unfold findE at h ⊢
  split at h
  · rename_i hc; exact absurd h hc
  · rename_i hc
    have hc0 : (distE n r p).2 = 0 := by simpa using hc
    refine ⟨hc0, ?_⟩
    rw [if_neg hc]
    split at h
    · cases h
    · rename_i hk
      rw [if_neg hk]
      rcases idxP_range (fun z : ZSt => decide ((distE n r p).1 ≤ 1000 * z.reach)) r.zones 0 with h1 | ⟨k, z, h1, h2, h3, h4⟩
      · exact absurd (by rw [h1]; decide) hk
      · exact ⟨k, z, by show idxP _ _ _ = _; rw [h1]; omega, h2, of_decide_eq_true h3, fun j y hj hy => by have := of_decide_eq_false (h4 j y hj hy); omega⟩

set_option maxHeartbeats 1000000 in
theorem find1_c (z : ZSt) (d : Int) (db : Nat) (w : World) (c0 : w.cell? ⟨db, 0, none⟩ = some (.int .i64 d)) (hdb : db < w.heap.size) (h1 : 1 ≤ z.reach) (h2 : z.reach ≤ 1000000) :
    Calls Try.prog 40 #[.agg z.cells.toArray, .pointer (some ⟨db, 0, none⟩)] w fun e w' => e = .returned (.bool (decide (d ≤ 1000 * z.reach))) ∧ Below w.heap.size w w' := by
  obtain ⟨re, de⟩ := z
  show Calls _ _ #[.agg #[.int .i64 re, .int .i64 de], _] _ _
  simp only at h1 h2 ⊢
  have hw := IntWalk.i64_in (1000 * re) (by omega)
  have B : Hid (Below w.heap.size w (w.alloc (.cells #[.int .i64 re, .int .i64 de] 39))) := belowA (Below.refl _ _) _
  obtain ⟨E, hE⟩ : ∃ E, decide (d ≤ 1000 * re) = E := ⟨_, rfl⟩
  have HE := Lib.hid hE
  rw [hE]
  clear hE
  go_enter Try.func40, Try.ntmps40
  go_wp2_with fail
  go_ret
  exact ⟨by rw [← HE.out]; rfl, B.out⟩

set_option maxHeartbeats 2000000 in
theorem find_c (x0 : NAddr) (n : Net) (node rbr pbr : ByteArray) (za : Option Addr) (zc : Nat) (zs : List ZSt) (part : Int) (w : World) (hr : NetR w x0 n) (hwf : n.Wf) (hz : Reads w (.slice za zs.length zc) zs.length (flat ZSt.cells zs)) :
    Calls Try.prog 17 #[x0.val n, .agg #[.string node, .string rbr, .slice za zs.length zc], .agg #[.string pbr, .int .i64 part]] w fun e w' =>
      e = .returned (.tuple #[.int .i64 (findE n ⟨node, rbr, zs⟩ ⟨pbr, part⟩).1, .int .i64 (findE n ⟨node, rbr, zs⟩ ⟨pbr, part⟩).2]) ∧ Below w.heap.size w w' := by
  have HA := Lib.hid (fun W (hW : Below w.heap.size w W) => dist_c x0 n node rbr pbr za zc zs part W (hr.below hW) hwf (hz.below hW))
  have HZR : Hid ((distE n ⟨node, rbr, zs⟩ ⟨pbr, part⟩).2 = 0 → ∀ z ∈ zs, 1 ≤ z.reach ∧ z.reach ≤ 1000000) := fun h z hzz => by
    have := zBad_range (zonesE_ok _ _ (distE_ok h).1.zs z hzz)
    exact ⟨this.1, this.2.1⟩
  have HE : Hid (findE n ⟨node, rbr, zs⟩ ⟨pbr, part⟩ = if (distE n ⟨node, rbr, zs⟩ ⟨pbr, part⟩).2 ≠ 0 then (0, (distE n ⟨node, rbr, zs⟩ ⟨pbr, part⟩).2) else
    if idxP (fun z : ZSt => decide ((distE n ⟨node, rbr, zs⟩ ⟨pbr, part⟩).1 ≤ 1000 * z.reach)) zs 0 < 0 then (0, 8) else (idxP (fun z : ZSt => decide ((distE n ⟨node, rbr, zs⟩ ⟨pbr, part⟩).1 ≤ 1000 * z.reach)) zs 0, 0)) := rfl
  generalize findE n ⟨node, rbr, zs⟩ ⟨pbr, part⟩ = E at *
  generalize distE n ⟨node, rbr, zs⟩ ⟨pbr, part⟩ = D at *
  obtain ⟨d, dq⟩ := D
  simp only at HA HZR HE
  have HIF : Hid (∀ W g caps P, Below w.heap.size w W → (∀ (args : Array Value) (w : World), (callFunc g args).run Try.prog w = .ok (.enter g args) w) → TellsE W g caps (fun a : ZSt => .agg a.cells.toArray) zs P →
      Calls Try.prog 39 #[.slice za zs.length zc, .func (.func g) #[] caps] W fun e w' => e = .returned (.int .i64 (idxP P zs 0)) ∧ Below W.heap.size W w') := by
    intro W g caps P hb eg hf
    exact indexZs_c (.slice za zs.length zc) zs P g caps W (hz.below hb) eg hf
  clear hr hwf hz
  obtain ⟨K0, hK0⟩ : ∃ K, idxP (fun z : ZSt => decide (d ≤ 1000 * z.reach)) zs 0 = K := ⟨_, rfl⟩
  have HK0 := Lib.hid hK0
  rw [hK0] at HE
  clear hK0
  generalize zs.length = zn at *
  obtain ⟨na, nc, sa, sc, ba, bc, ga, gc, la, lc, ta, tc⟩ := x0
  obtain ⟨nl, sws, brs, gens, loads, stores⟩ := n
  simp only [NAddr.val] at HA HIF ⊢
  generalize nl.length = nn at *
  generalize sws.length = sn at *
  generalize brs.length = bn at *
  generalize gens.length = gn at *
  generalize loads.length = ln at *
  generalize stores.length = tn at *
  have B1 := belowA (Below.refl w.heap.size w) (.cells #[.slice na nn nc, .slice sa sn sc, .slice ba bn bc, .slice ga gn gc, .slice la ln lc, .slice ta tn tc] 29)
  have K1 := Blk.new w #[.slice na nn nc, .slice sa sn sc, .slice ba bn bc, .slice ga gn gc, .slice la ln lc, .slice ta tn tc] 29
  generalize hW1 : w.alloc (.cells #[.slice na nn nc, .slice sa sn sc, .slice ba bn bc, .slice ga gn gc, .slice la ln lc, .slice ta tn tc] 29) = W1 at *
  have B2 := belowA B1 (.cells #[.string node, .string rbr, .slice za zn zc] 44)
  have K2 := K1.alloc (.cells #[.string node, .string rbr, .slice za zn zc] 44)
  have L2 := Blk.new W1 #[.string node, .string rbr, .slice za zn zc] 44
  generalize hW2 : W1.alloc (.cells #[.string node, .string rbr, .slice za zn zc] 44) = W2 at *
  have B3 := Lib.hid (belowA B2 (.cells #[.string pbr, .int .i64 part] 31))
  have K3 := Lib.hid (K2.alloc (.cells #[.string pbr, .int .i64 part] 31))
  have L3 := Lib.hid (L2.alloc (.cells #[.string pbr, .int .i64 part] 31))
  have M3 := Lib.hid (Blk.new W2 #[.string pbr, .int .i64 part] 31)
  generalize hW3 : W2.alloc (.cells #[.string pbr, .int .i64 part] 31) = W3 at *
  clear B1 K1 B2 K2 L2
  have x0 := K3.out.cell 0 rfl
  have x1 := K3.out.cell 1 rfl
  have x2 := K3.out.cell 2 rfl
  have x3 := K3.out.cell 3 rfl
  have x4 := K3.out.cell 4 rfl
  have x5 := K3.out.cell 5 rfl
  have r0 := L3.out.cell 0 rfl
  have r1 := L3.out.cell 1 rfl
  have r2 := L3.out.cell 2 rfl
  have p0 := M3.out.cell 0 rfl
  have p1 := M3.out.cell 1 rfl
  have HA1 := Lib.hid (HA.out W3 B3.out)
  go_enter Try.func17, Try.ntmps17
  go_wp2_with fail
  refine HA1.out.mono ?_; rintro e w4 ⟨rfl, hb4⟩
  have B4 := Lib.hid (belowT B3.out hb4)
  have K4 := Lib.hid (below_blk hb4 K3.out K3.out.lt)
  have L4 := Lib.hid (below_blk hb4 L3.out L3.out.lt)
  have M4 := Lib.hid (below_blk hb4 M3.out M3.out.lt)
  clear x0 x1 x2 x3 x4 x5 r0 r1 r2 p0 p1
  clear HA HA1 hb4
  have B5 := Lib.hid (belowA B4.out (.cells #[.int .i64 d] 3))
  have D5 := Lib.hid (Blk.new w4 #[.int .i64 d] 3)
  have L5 := Lib.hid (L4.out.alloc (.cells #[.int .i64 d] 3))
  generalize hW5 : w4.alloc (.cells #[.int .i64 d] 3) = W5 at *
  by_cases hF : dq = 0
  · have g1 : (dq != 0) = false := by simp [hF]
    have HR := Lib.hid (HE.out.trans (if_neg (fun h => h hF)))
    have hzr := HZR.out hF
    have HI1 := Lib.hid (HIF.out W5 40 #[.pointer (some ⟨w4.heap.size, 0, none⟩)] (fun z => decide (d ≤ 1000 * z.reach)) B5.out (fun a w' => enters_of Try.func40 (by kernel_rfl) rfl a w')
      (fun a W ha hW => (find1_c a d w4.heap.size W (by rw [hW.cell (p := ⟨w4.heap.size, 0, none⟩) D5.out.lt]; exact D5.out.cell 0 rfl) (Nat.lt_of_lt_of_le D5.out.lt hW.size) (hzr a ha).1 (hzr a ha).2).mono fun e w' ⟨he, hw⟩ => ⟨he, hW.trans (hw.mono hW.size)⟩))
    rw [HK0.out] at HI1
    have r2 := L5.out.cell 2 rfl
    clear hF HE HIF HZR hzr
    go_wp2_with fail
    refine HI1.out.mono ?_; rintro e w6 ⟨rfl, hb6⟩
    have B6 := Lib.hid (belowT B5.out hb6)
    clear hb6 r2
    by_cases hk : K0 < 0
    · have g2 : decide (K0 < 0) = true := decide_eq_true hk
      have HR2 := Lib.hid (HR.out.trans (if_pos hk))
      clear hk HR
      go_wp2_with fail
      go_ret2
      exact ⟨by rw [HR2.out]; rfl, B6.out⟩
    · have g2 : decide (K0 < 0) = false := decide_eq_false hk
      have HR2 := Lib.hid (HR.out.trans (if_neg hk))
      clear hk HR
      go_wp2_with fail
      go_ret2
      exact ⟨by rw [HR2.out]; rfl, B6.out⟩
  · have g1 : (dq != 0) = true := by simp [hF]
    have HR := Lib.hid (HE.out.trans (if_pos hF))
    clear hF HE HIF
    go_wp2_with fail
    go_ret2
    exact ⟨by rw [HR.out]; rfl, B5.out⟩

set_option maxHeartbeats 2000000 in
theorem time_c (x0 : NAddr) (n : Net) (node rbr pbr : ByteArray) (za : Option Addr) (zc : Nat) (zs : List ZSt) (part : Int) (w : World) (hr : NetR w x0 n) (hwf : n.Wf) (hz : Reads w (.slice za zs.length zc) zs.length (flat ZSt.cells zs)) :
    Calls Try.prog 18 #[x0.val n, .agg #[.string node, .string rbr, .slice za zs.length zc], .agg #[.string pbr, .int .i64 part]] w fun e w' =>
      e = .returned (.tuple #[.int .i64 (timeE n ⟨node, rbr, zs⟩ ⟨pbr, part⟩).1, .int .i64 (timeE n ⟨node, rbr, zs⟩ ⟨pbr, part⟩).2]) ∧ Below w.heap.size w w' := by
  have HA := Lib.hid (fun W (hW : Below w.heap.size w W) => find_c x0 n node rbr pbr za zc zs part W (hr.below hW) hwf (hz.below hW))
  have HFK : Hid ((findE n ⟨node, rbr, zs⟩ ⟨pbr, part⟩).2 = 0 → ∃ (k : Nat) (z : ZSt), (findE n ⟨node, rbr, zs⟩ ⟨pbr, part⟩).1 = k ∧ zs[k]? = some z) := fun h => by
    obtain ⟨_, k, z, h1, h2, _⟩ := findE_ok h
    exact ⟨k, z, h1, h2⟩
  have HE : Hid (timeE n ⟨node, rbr, zs⟩ ⟨pbr, part⟩ = if (findE n ⟨node, rbr, zs⟩ ⟨pbr, part⟩).2 ≠ 0 then (0, (findE n ⟨node, rbr, zs⟩ ⟨pbr, part⟩).2) else ((zs.getD (findE n ⟨node, rbr, zs⟩ ⟨pbr, part⟩).1.toNat ⟨0, 0⟩).delay, 0)) := rfl
  generalize timeE n ⟨node, rbr, zs⟩ ⟨pbr, part⟩ = E at *
  generalize findE n ⟨node, rbr, zs⟩ ⟨pbr, part⟩ = D at *
  obtain ⟨d, dq⟩ := D
  simp only at HA HFK HE
  clear hr hwf
  obtain ⟨zn, hzn⟩ : ∃ k, zs.length = k := ⟨_, rfl⟩
  have HZN := Lib.hid hzn
  rw [hzn] at HA hz ⊢
  have HZ := Lib.hid hz
  clear hz hzn
  obtain ⟨na, nc, sa, sc, ba, bc, ga, gc, la, lc, ta, tc⟩ := x0
  obtain ⟨nl, sws, brs, gens, loads, stores⟩ := n
  simp only [NAddr.val] at HA ⊢
  generalize nl.length = nn at *
  generalize sws.length = sn at *
  generalize brs.length = bn at *
  generalize gens.length = gn at *
  generalize loads.length = ln at *
  generalize stores.length = tn at *
  have B1 := belowA (Below.refl w.heap.size w) (.cells #[.slice na nn nc, .slice sa sn sc, .slice ba bn bc, .slice ga gn gc, .slice la ln lc, .slice ta tn tc] 29)
  have K1 := Blk.new w #[.slice na nn nc, .slice sa sn sc, .slice ba bn bc, .slice ga gn gc, .slice la ln lc, .slice ta tn tc] 29
  generalize hW1 : w.alloc (.cells #[.slice na nn nc, .slice sa sn sc, .slice ba bn bc, .slice ga gn gc, .slice la ln lc, .slice ta tn tc] 29) = W1 at *
  have B2 := belowA B1 (.cells #[.string node, .string rbr, .slice za zn zc] 44)
  have K2 := K1.alloc (.cells #[.string node, .string rbr, .slice za zn zc] 44)
  have L2 := Blk.new W1 #[.string node, .string rbr, .slice za zn zc] 44
  generalize hW2 : W1.alloc (.cells #[.string node, .string rbr, .slice za zn zc] 44) = W2 at *
  have B3 := Lib.hid (belowA B2 (.cells #[.string pbr, .int .i64 part] 31))
  have K3 := Lib.hid (K2.alloc (.cells #[.string pbr, .int .i64 part] 31))
  have L3 := Lib.hid (L2.alloc (.cells #[.string pbr, .int .i64 part] 31))
  have M3 := Lib.hid (Blk.new W2 #[.string pbr, .int .i64 part] 31)
  generalize hW3 : W2.alloc (.cells #[.string pbr, .int .i64 part] 31) = W3 at *
  clear B1 K1 B2 K2 L2
  have x0 := K3.out.cell 0 rfl
  have x1 := K3.out.cell 1 rfl
  have x2 := K3.out.cell 2 rfl
  have x3 := K3.out.cell 3 rfl
  have x4 := K3.out.cell 4 rfl
  have x5 := K3.out.cell 5 rfl
  have r0 := L3.out.cell 0 rfl
  have r1 := L3.out.cell 1 rfl
  have r2 := L3.out.cell 2 rfl
  have p0 := M3.out.cell 0 rfl
  have p1 := M3.out.cell 1 rfl
  have HA1 := Lib.hid (HA.out W3 B3.out)
  go_enter Try.func18, Try.ntmps18
  go_wp2_with fail
  refine HA1.out.mono ?_; rintro e w4 ⟨rfl, hb4⟩
  have B4 := Lib.hid (belowT B3.out hb4)
  have K4 := Lib.hid (below_blk hb4 K3.out K3.out.lt)
  have L4 := Lib.hid (below_blk hb4 L3.out L3.out.lt)
  have M4 := Lib.hid (below_blk hb4 M3.out M3.out.lt)
  clear x0 x1 x2 x3 x4 x5 r0 r1 r2 p0 p1
  clear HA HA1 hb4
  by_cases hF : dq = 0
  · have g1 : (dq != 0) = false := by simp [hF]
    obtain ⟨k, z, hk, hzk⟩ := HFK.out hF
    have HR : Hid (E = (z.delay, 0)) := by
      show _ = _
      rw [HE.out, if_neg (fun h => h hF), hk]
      simp [hzk]
    subst hk
    have hlk : k < zn := by rw [← HZN.out]; exact (List.getElem?_eq_some_iff.1 hzk).1
    obtain ⟨zg, zoff, zcap', zvv, _, _, hzgl, hzc⟩ := (HZ.out.below B4.out).addr (by omega)
    simp only [Value.slice.injEq] at zvv
    obtain ⟨rfl, _, rfl⟩ := zvv
    obtain ⟨d0, d1⟩ := zst_cells hzc hzk
    have r2 := L4.out.cell 2 rfl
    clear hF HE HFK hzc hzk
    go_wp2_with fail
    go_ret2
    exact ⟨by rw [HR.out]; rfl, B4.out⟩
  · have g1 : (dq != 0) = true := by simp [hF]
    have HR := Lib.hid (HE.out.trans (if_pos hF))
    clear hF HE HFK
    go_wp2_with fail
    go_ret2
    exact ⟨by rw [HR.out]; rfl, B4.out⟩
end Go.Proofs.Ytplebibabcdipaa
namespace Go.Proofs.Ytplebibabcdipaa
open Go.RowKit

/-- A block whose first cells are the numbers r. -/
def IB (w : World) (g : Nat) (r : List Int) : Prop := ∃ cur : Array Value, Blk w g cur 3 ∧ ∀ (j : Nat) x, r[j]? = some x → cur[j]? = some (.int .i64 x)
theorem IB.cell {w : World} {g : Nat} {r : List Int} (h : IB w g r) {j : Nat} (hj : j < r.length) : w.cell? ⟨g, j, none⟩ = some (.int .i64 (r.getD j 0)) := by
  obtain ⟨cur, hb, hc⟩ := h
  exact hb.cell j (hc j _ (by rw [List.getD_eq_getElem?_getD, List.getElem?_eq_getElem hj]; rfl))
theorem IB.free {w : World} {g : Nat} {r : List Int} (h : IB w g r) (j : Nat) : w.frozen? ⟨g, j, none⟩ = false := by
  obtain ⟨cur, hb, _⟩ := h
  exact hb.free j
theorem IB.lt {w : World} {g : Nat} {r : List Int} (h : IB w g r) : g < w.heap.size := by
  obtain ⟨cur, hb, _⟩ := h
  exact hb.lt
theorem IB.set {w : World} {g : Nat} {r : List Int} (h : IB w g r) (i : Nat) (y : Int) : IB (w.setCell ⟨g, i, none⟩ (.int .i64 y)) g (r.set i y) := by
  obtain ⟨cur, hb, hc⟩ := h
  refine ⟨_, hb.set i _, fun j x hj => ?_⟩
  rw [List.getElem?_set] at hj
  rw [Array.getElem?_setIfInBounds]
  split at hj
  · rename_i hij
    subst hij
    split at hj
    · rename_i hl
      obtain rfl := Option.some.inj hj
      have := hc i (r.getD i 0) (by rw [List.getD_eq_getElem?_getD, List.getElem?_eq_getElem hl]; rfl)
      have hs := (Array.getElem?_eq_some_iff.1 this).1
      rw [if_pos rfl, if_pos hs]
    · cases hj
  · rename_i hij
    rw [if_neg hij]
    exact hc j x hj
theorem IB.drewN {w : World} {g : Nat} {r : List Int} (h : IB w g r) (n : Nat) : IB (w.drewN n) g r := h
theorem IB.drew {w : World} {g : Nat} {r : List Int} (h : IB w g r) : IB w.drew g r := h
theorem IB.below {w w' : World} {g : Nat} {r : List Int} (h : IB w g r) (k : Below w.heap.size w w') : IB w' g r := by
  obtain ⟨cur, hb, hc⟩ := h
  exact ⟨cur, below_blk k hb hb.lt, hc⟩
theorem IB.of_row {w : World} {base n : Nat} {g cap : Nat} {r : List Int} (h : w.ownsRow base 3 1 (.slice (some ⟨g, 0, none⟩) n cap) n (ints r)) : IB w g r := by
  rcases h.2 with ⟨e, _⟩ | ⟨g', cap', cur, e, hg, hh, hn, hcap, hsz, htake⟩
  · cases e
  · cases e
    refine ⟨cur, hh, fun j x hj => ?_⟩
    have hi : (ints r)[j]? = some (.int .i64 x) := by unfold ints; simp [hj]
    rw [← htake, List.getElem?_take] at hi
    split at hi
    · simpa using hi
    · cases hi

def cmpI (a b : Int) : Int := if a < b then -1 else if b < a then 1 else 0
set_option maxHeartbeats 400000 in
theorem nan_c (a : Int) (w : World) : Calls Try.prog 88 #[.int .i64 a] w fun e w' => e = .returned (.bool false) ∧ w = w' := by
  go_enter Try.func88, Try.ntmps88
  go_wp2
  go_ret
  exact ⟨rfl, rfl⟩
set_option maxHeartbeats 1000000 in
theorem compare_c (a b : Int) (w : World) : Calls Try.prog 44 #[.int .i64 a, .int .i64 b] w fun e w' => e = .returned (.int .i64 (cmpI a b)) ∧ w = w' := by
  have H1 := Lib.hid (nan_c a)
  have H2 := Lib.hid (nan_c b)
  have HE : Hid (cmpI a b = if a < b then -1 else if b < a then 1 else 0) := rfl
  generalize cmpI a b = E at *
  by_cases h1 : a < b
  · have g1 : decide (a < b) = true := decide_eq_true h1
    have HR : Hid (E = -1) := HE.out.trans (if_pos h1)
    clear h1 HE
    go_enter Try.func44, Try.ntmps44
    go_wp2_with fail
    refine (H1.out w).mono ?_; rintro e w' ⟨rfl, rfl⟩
    go_wp2_with fail
    refine (H2.out w).mono ?_; rintro e w' ⟨rfl, rfl⟩
    go_wp2_with fail
    go_ret
    exact ⟨by rw [HR.out]; rfl, rfl⟩
  · have g1 : decide (a < b) = false := decide_eq_false h1
    by_cases h2 : b < a
    · have g2 : decide (b < a) = true := decide_eq_true h2
      have HR : Hid (E = 1) := HE.out.trans ((if_neg h1).trans (if_pos h2))
      clear h1 h2 HE
      go_enter Try.func44, Try.ntmps44
      go_wp2_with fail
      refine (H1.out w).mono ?_; rintro e w' ⟨rfl, rfl⟩
      go_wp2_with fail
      refine (H2.out w).mono ?_; rintro e w' ⟨rfl, rfl⟩
      go_wp2_with fail
      go_ret
      exact ⟨by rw [HR.out]; rfl, rfl⟩
    · have g2 : decide (b < a) = false := decide_eq_false h2
      have HR : Hid (E = 0) := HE.out.trans ((if_neg h1).trans (if_neg h2))
      clear h1 h2 HE
      go_enter Try.func44, Try.ntmps44
      go_wp2_with fail
      refine (H1.out w).mono ?_; rintro e w' ⟨rfl, rfl⟩
      go_wp2_with fail
      refine (H2.out w).mono ?_; rintro e w' ⟨rfl, rfl⟩
      go_wp2_with fail
      go_ret
      exact ⟨by rw [HR.out]; rfl, rfl⟩

set_option maxHeartbeats 1000000 in
theorem cov1_c (x y : Nat) (ts : List Int) (tb tg toff tn tc : Nat) (w : World) (hx : x < tn) (hy : y < tn) (c0 : w.cell? ⟨tb, 0, none⟩ = some (.slice (some ⟨tg, toff, none⟩) tn tc))
    (ht : ∀ i, i < tn → w.cell? ⟨tg, toff + i, none⟩ = some (.int .i64 (ts.getD i 0))) :
    Calls Try.prog 43 #[.int .i64 x, .int .i64 y, .pointer (some ⟨tb, 0, none⟩)] w fun e w' => e = .returned (.int .i64 (cmpI (ts.getD x 0) (ts.getD y 0))) ∧ ∃ md, w' = w.drewN md := by
  have h0 := ht x hx
  have h1 := ht y hy
  have HI : Hid (∀ nd, Calls Try.prog 44 #[.int .i64 (ts.getD x 0), .int .i64 (ts.getD y 0)] (w.drewN nd) fun e w' => e = .returned (.int .i64 (cmpI (ts.getD x 0) (ts.getD y 0))) ∧ ∃ md, w' = w.drewN md) := fun nd =>
    Calls.quiet_of_same ((compare_c (ts.getD x 0) (ts.getD y 0) (w.drewN nd)).mono fun e w' h => ⟨h.1, h.2.symm⟩)
  generalize cmpI (ts.getD x 0) (ts.getD y 0) = E at *
  generalize ts.getD x 0 = a at *
  generalize ts.getD y 0 = b at *
  clear ht
  go_enter Try.func43, Try.ntmps43
  go_wp2_with fail
  refine wp_region_quiet_lit (by kernel_rfl) (by kernel_rfl) ?_
  repeat (first | go_big_quiet_step ((exact HI.out _)) | (go_big_quiet_want; go_simp; go_big_quiet_on))
  refine wpQuiet_nil ?_
  intro _ hw'
  obtain ⟨nq, hw''⟩ := hw'
  subst hw''
  go_wp2_with fail
  go_ret
  exact ⟨rfl, _, rfl⟩
end Go.Proofs.Ytplebibabcdipaa
namespace Go.Proofs.Ytplebibabcdipaa
open Go.RowKit

def SrtTo (key : Int → Int) (i : Nat) (r : List Int) : Prop := ∀ p q, p < q → q < i → key (r.getD p 0) ≤ key (r.getD q 0)
def Mid (key : Int → Int) (i j : Nat) (r : List Int) : Prop :=
  (∀ p q, p < q → q ≤ i → p ≠ j → q ≠ j → key (r.getD p 0) ≤ key (r.getD q 0)) ∧ ∀ q, j < q → q ≤ i → key (r.getD j 0) ≤ key (r.getD q 0)
theorem mid_start {key : Int → Int} {i : Nat} {r : List Int} (h : SrtTo key i r) : Mid key i i r :=
  ⟨fun p q h1 h2 _ h4 => h p q h1 (by omega), fun q h1 h2 => by omega⟩
theorem mid_zero {key : Int → Int} {i : Nat} {r : List Int} (h : Mid key i 0 r) : SrtTo key (i + 1) r := fun p q h1 h2 => by
  by_cases hp : p = 0
  · subst hp; exact h.2 q h1 (by omega)
  · exact h.1 p q h1 (by omega) hp (by omega)
theorem mid_stop {key : Int → Int} {i j : Nat} {r : List Int} (h : Mid key i (j + 1) r) (hj : j + 1 ≤ i) (hk : key (r.getD j 0) ≤ key (r.getD (j + 1) 0)) : SrtTo key (i + 1) r := fun p q h1 h2 => by
  by_cases hp : p = j + 1
  · subst hp; exact h.2 q h1 (by omega)
  · by_cases hq : q = j + 1
    · subst hq
      by_cases hpj : p = j
      · subst hpj; exact hk
      · exact Int.le_trans (h.1 p j (by omega) (by omega) hp (by omega)) hk
    · exact h.1 p q h1 (by omega) hp hq
def swp (r : List Int) (j : Nat) : List Int := (r.set (j + 1) (r.getD j 0)).set j (r.getD (j + 1) 0)
theorem swp_get (r : List Int) (j k : Nat) (hj : j + 1 < r.length) : (swp r j).getD k 0 = if k = j then r.getD (j + 1) 0 else if k = j + 1 then r.getD j 0 else r.getD k 0 := by
  unfold swp
  rw [List.getD_eq_getElem?_getD, List.getElem?_set, List.getElem?_set]
  by_cases h1 : k = j
  · subst h1; simp [show k < r.length from by omega]
  · rw [if_neg (fun h => h1 h.symm), if_neg h1]
    by_cases h2 : k = j + 1
    · subst h2; simp [hj]
    · rw [if_neg (fun h => h2 h.symm), if_neg h2, List.getD_eq_getElem?_getD]
theorem swp_len (r : List Int) (j : Nat) : (swp r j).length = r.length := by simp [swp]
theorem getD_mem {r : List Int} {k : Nat} (h : k < r.length) : r.getD k 0 ∈ r := by rw [List.getD_eq_getElem?_getD, List.getElem?_eq_getElem h]; exact List.getElem_mem h
theorem mem_getD {r : List Int} {x : Int} (h : x ∈ r) : ∃ k, k < r.length ∧ r.getD k 0 = x := by
  obtain ⟨k, hk⟩ := List.getElem?_of_mem h
  exact ⟨k, (List.getElem?_eq_some_iff.1 hk).1, by rw [List.getD_eq_getElem?_getD, hk]; rfl⟩
theorem swp_mem (r : List Int) (j : Nat) (hj : j + 1 < r.length) (x : Int) : x ∈ swp r j ↔ x ∈ r := by
  constructor
  · intro h
    obtain ⟨k, hk, rfl⟩ := mem_getD h
    rw [swp_get r j k hj]
    rw [swp_len] at hk
    split
    · exact getD_mem hj
    · split
      · exact getD_mem (by omega)
      · exact getD_mem hk
  · intro h
    obtain ⟨k, hk, rfl⟩ := mem_getD h
    by_cases h1 : k = j
    · have := getD_mem (r := swp r j) (k := j + 1) (by rw [swp_len]; exact hj)
      rw [swp_get r j _ hj, if_neg (by omega), if_pos rfl] at this
      rw [h1]; exact this
    · by_cases h2 : k = j + 1
      · have := getD_mem (r := swp r j) (k := j) (by rw [swp_len]; omega)
        rw [swp_get r j _ hj, if_pos rfl] at this
        rw [h2]; exact this
      · have := getD_mem (r := swp r j) (k := k) (by rw [swp_len]; exact hk)
        rw [swp_get r j _ hj, if_neg h1, if_neg h2] at this
        exact this
theorem mid_swap {key : Int → Int} {i j : Nat} {r : List Int} (h : Mid key i (j + 1) r) (hj : j + 1 ≤ i) (hi : i < r.length) (hk : key (r.getD (j + 1) 0) < key (r.getD j 0)) : Mid key i j (swp r j) := by
  have hl : j + 1 < r.length := by omega
  refine ⟨fun p q h1 h2 h3 h4 => ?_, fun q h1 h2 => ?_⟩
  · rw [swp_get r j p hl, swp_get r j q hl, if_neg h3, if_neg h4]
    by_cases hp : p = j + 1
    · rw [if_pos hp, if_neg (by omega)]
      exact h.1 j q (by omega) h2 (by omega) (by omega)
    · rw [if_neg hp]
      by_cases hq : q = j + 1
      · rw [if_pos hq]; exact h.1 p j (by omega) (by omega) hp (by omega)
      · rw [if_neg hq]; exact h.1 p q h1 h2 hp hq
  · rw [swp_get r j j hl, swp_get r j q hl, if_pos rfl, if_neg (by omega)]
    by_cases hq : q = j + 1
    · rw [if_pos hq]; omega
    · rw [if_neg hq]; exact h.2 q (by omega) h2
theorem cmpI_neg (a b : Int) : cmpI a b < 0 ↔ a < b := by
  unfold cmpI; split
  · simp; omega
  · split <;> simp <;> omega
theorem But.drewN' {b : Nat} {w w1 : World} (h : But b w w1) (n : Nat) : But b w (w1.drewN n) := h.drewN n

/-- What a comparing function answers, in worlds in which block g may have changed. -/
def CmpAt (g : Nat) (w : World) (fn : FuncId) (caps : Array Value) (key : Int → Int) (l : List Int) : Prop :=
  ∀ W, But g w W → ∀ x y : Int, x ∈ l → y ∈ l → Calls Try.prog fn (#[.int .i64 x, .int .i64 y] ++ caps) W fun e w' => e = .returned (.int .i64 (cmpI (key x) (key y))) ∧ ∃ md, w' = W.drewN md
/-- A block sorted. -/
def Sorted (g : Nat) (w : World) (key : Int → Int) (l : List Int) (m : Nat) (w' : World) : Prop :=
  ∃ r, IB w' g r ∧ r.length = m ∧ (∀ x, x ∈ r ↔ x ∈ l) ∧ SrtTo key m r ∧ But g w w'

set_option maxHeartbeats 2000000 in
theorem ins_c (g m c : Nat) (l : List Int) (key : Int → Int) (fn : FuncId) (caps : Array Value) (w : World) (hl : l.length = m) (hm : m ≤ 19) (hib : IB w g l)
    (eg : ∀ (args : Array Value) (w : World), (callFunc fn args).run Try.prog w = .ok (.enter fn args) w) (hf : Hid (CmpAt g w fn caps key l)) :
    Calls Try.prog 114 #[.slice (some ⟨g, 0, none⟩) m c, .int .i64 0, .int .i64 m, .func (.func fn) #[] caps] w fun e w' => e = .returned (.tuple #[]) ∧ Sorted g w key l m w' := by
  have HIB := Lib.hid hib
  clear hib
  have hS0 : Hid (SrtTo key 1 l) := fun p q h1 h2 => by omega
  go_enter Try.func114, Try.ntmps114
  go_wp2_with fail
  go_loopw [8] (fun i wr => ∃ (k : Nat) (r : List Int), i = .int .i64 ((k + 1 : Nat) : Int) ∧ (k + 1 ≤ m ∨ m = 0) ∧ r.length = m ∧ Hid (∀ x, x ∈ r ↔ x ∈ l) ∧ Hid (SrtTo key (k + 1) r) ∧ Hid (IB wr g r) ∧ Hid (But g w wr)) (fun i _ => m + 1 - (intOf i).toNat)
  case atStart => exact ⟨0, l, by go_num, by omega, hl, fun _ => Iff.rfl, hS0, HIB, But.refl _ _⟩
  case round =>
    obtain ⟨k, r, rfl, hk, hrl, hmem, hsr, hbr, hbw⟩ := hrel
    by_cases hlt : k + 1 < m
    ·
      have g0 : decide (((k + 1 : Nat) : Int) < (m : Int)) = true := decide_eq_true (by omega)
      have HM0 : Hid (Mid key (k + 1) (k + 1) r) := mid_start hsr.out
      go_wp2_with fail
      go_loopw [9] (fun i wr => ∃ (j : Nat) (r : List Int), i = .int .i64 (j : Int) ∧ j ≤ k + 1 ∧ r.length = m ∧ Hid (∀ x, x ∈ r ↔ x ∈ l) ∧ Hid (Mid key (k + 1) j r) ∧ Hid (IB wr g r) ∧ Hid (But g w wr)) (fun i _ => (intOf i).toNat)
      case atStart => exact ⟨k + 1, r, rfl, Nat.le_refl _, hrl, hmem, HM0, hbr, hbw⟩
      case round =>
        clear hrl hmem hsr hbr hbw HM0
        obtain ⟨j, r, rfl, hj, hrl, hmem, hmd, hbr, hbw⟩ := hrel
        cases j with
        | zero =>
          have HS1 := Lib.hid (mid_zero hmd.out)
          go_wp2_with fail
          refine wp_region_quiet_lit (by kernel_rfl) (by kernel_rfl) ?_
          repeat (first | go_big_quiet_step (fail) | (go_big_quiet_want; go_simp; go_big_quiet_on))
          refine wpQuiet_nil ?_
          intro _ hw'
          obtain ⟨nq, hw''⟩ := hw'
          subst hw''
          go_wp2_with fail
          go_roundw
          case rel => exact ⟨k + 1, r, by go_num, Or.inl hlt, hrl, hmem, HS1, hbr, hbw.out.drewN _⟩
          case measure => simp [intOf]; omega
        | succ j' =>
          have hjl : j' + 1 < m := by omega
          have hjl2 : j' < m := by omega
          have z0 := hbr.out.cell (j := j' + 1) (by omega)
          have z1 := hbr.out.cell (j := j') (by omega)
          have g1 : decide ((0 : Int) < ((j' + 1 : Nat) : Int)) = true := decide_eq_true (by omega)
          have hw : IntKind.i64.wrap (((j' + 1 : Nat) : Int) - 1) = (j' : Int) := by rw [IntWalk.i64_in _ (by omega)]; omega
          have lg := hbr.out.lt
          have HI : Hid (∀ nd, Calls Try.prog fn (#[.int .i64 (r.getD (j' + 1) 0), .int .i64 (r.getD j' 0)] ++ caps) (wr.drewN nd) fun e w' => e = .returned (.int .i64 (cmpI (key (r.getD (j' + 1) 0)) (key (r.getD j' 0)))) ∧ ∃ md, w' = wr.drewN md) := fun nd =>
            Calls.quiet_of (hf.out (wr.drewN nd) (hbw.out.drewN nd) _ _ ((hmem.out _).1 (getD_mem (by omega))) ((hmem.out _).1 (getD_mem (by omega))))
          have HCN := Lib.hid (cmpI_neg (key (r.getD (j' + 1) 0)) (key (r.getD j' 0)))
          have HSW := Lib.hid (mid_swap (key := key) hmd.out hj (by omega))
          have HST := Lib.hid (mid_stop hmd.out hj)
          have HSM := Lib.hid (swp_mem r j' (by omega))
          obtain ⟨x, hx⟩ : ∃ x, r.getD (j' + 1) 0 = x := ⟨_, rfl⟩
          obtain ⟨y, hy⟩ : ∃ y, r.getD j' 0 = y := ⟨_, rfl⟩
          have HX := Lib.hid hx
          have HY := Lib.hid hy
          rw [hx, hy] at HI HCN HSW HST
          rw [hx] at z0
          rw [hy] at z1
          clear hx hy
          generalize cmpI (key x) (key y) = C at *
          by_cases hc : C < 0
          ·
            have g2 : decide (C < 0) = true := decide_eq_true hc
            have HMD := Lib.hid (HSW.out (HCN.out.1 hc))
            clear hc HCN HST
            go_wp2_with fail
            refine wp_region_quiet_lit (by kernel_rfl) (by kernel_rfl) ?_
            repeat (first | go_big_quiet_step ((exact HI.out _)) | (go_big_quiet_want; go_simp; go_big_quiet_on))
            refine wpQuiet_nil ?_
            intro _ hw'
            obtain ⟨nq, hw''⟩ := hw'
            subst hw''
            go_wp2_with fail
            have K4 := hbr.out.drewN nq
            have BW4 := Lib.hid (hbw.out.drewN nq)
            generalize wr.drewN nq = W4 at *
            have y0 := K4.cell (j := j' + 1) (by omega)
            have y1 := K4.cell (j := j') (by omega)
            have f0 := K4.free (j' + 1)
            have f1 := K4.free j'
            rw [HX.out] at y0
            rw [HY.out] at y1
            have lg4 := K4.lt
            have KS : Hid (IB ((W4.drew.setCell ⟨g, j' + 1, none⟩ (.int .i64 y)).setCell ⟨g, j', none⟩ (.int .i64 x)) g (swp r j')) := by
              have h := (K4.drew.set (j' + 1) y).set j' x
              rw [← HX.out, ← HY.out] at h ⊢
              exact h
            have BS : Hid (But g w ((W4.drew.setCell ⟨g, j' + 1, none⟩ (.int .i64 y)).setCell ⟨g, j', none⟩ (.int .i64 x))) := (BW4.out.drew.set _ _).set _ _
            clear K4 z0 z1
            go_region
            all_goals
              go_wp2_with fail
              go_roundw
              case rel => exact ⟨j', _, by go_num, by omega, by rw [swp_len]; exact hrl, fun x => (HSM.out x).trans (hmem.out x), HMD, KS, BS⟩
              case measure => simp [intOf]
          ·
            have g2 : decide (C < 0) = false := decide_eq_false hc
            have HS1 := Lib.hid (HST.out (by have := HCN.out; omega))
            clear hc HCN HSW
            go_wp2_with fail
            refine wp_region_quiet_lit (by kernel_rfl) (by kernel_rfl) ?_
            repeat (first | go_big_quiet_step ((exact HI.out _)) | (go_big_quiet_want; go_simp; go_big_quiet_on))
            refine wpQuiet_nil ?_
            intro _ hw'
            obtain ⟨nq, hw''⟩ := hw'
            subst hw''
            go_wp2_with fail
            go_roundw
            case rel => exact ⟨k + 1, r, by go_num, Or.inl hlt, hrl, hmem, HS1, hbr, hbw.out.drewN _⟩
            case measure => simp [intOf]; omega
    ·
      have g0 : decide (((k + 1 : Nat) : Int) < (m : Int)) = false := decide_eq_false (by omega)
      have HSM : Hid (SrtTo key m r) := fun p q h1 h2 => hsr.out p q h1 (by omega)
      go_wp2_with fail
      go_end0
      exact ⟨rfl, r, hbr.out, hrl, hmem.out, HSM.out, hbw.out⟩
end Go.Proofs.Ytplebibabcdipaa
namespace Go.Proofs.Ytplebibabcdipaa
open Go.RowKit

set_option maxHeartbeats 1000000 in
theorem stable_c (sa : Option Addr) (m c : Nat) (fn : FuncId) (caps : Array Value) (w : World) (Post : World → Prop) (hm : m ≤ 19)
    (hi : Hid (Calls Try.prog 114 #[.slice sa m c, .int .i64 0, .int .i64 m, .func (.func fn) #[] caps] w fun e w' => e = .returned (.tuple #[]) ∧ Post w')) :
    Calls Try.prog 87 #[.slice sa m c, .int .i64 m, .func (.func fn) #[] caps] w fun e w' => e = .returned (.tuple #[]) ∧ Post w' := by
  have g1 : decide ((20 : Int) ≤ (m : Int)) = false := decide_eq_false (by omega)
  have g2 : decide ((20 : Int) < (m : Int)) = false := decide_eq_false (by omega)
  go_enter Try.func87, Try.ntmps87
  go_wp2_with fail
  go_loopw [7, 8] (fun a b wr => a = .int .i64 0 ∧ b = .int .i64 20 ∧ w = wr) (fun _ _ _ => 0)
  case atStart => exact ⟨rfl, rfl, rfl⟩
  case round =>
    obtain ⟨rfl, rfl, rfl⟩ := hrel
    go_wp2_with fail
    refine hi.out.mono ?_; rintro e w1 ⟨rfl, hp⟩
    have HP := Lib.hid hp
    clear hp
    go_wp2_with fail
    go_loopw [6] (fun a wr => a = .int .i64 20 ∧ w1 = wr) (fun _ _ => 0)
    case atStart => exact ⟨rfl, rfl⟩
    case round =>
      obtain ⟨rfl, rfl⟩ := hrel
      go_wp2_with fail
      go_end0
      exact ⟨rfl, HP.out⟩
set_option maxHeartbeats 1000000 in
theorem sortStable_c (sa : Option Addr) (m c : Nat) (fn : FuncId) (caps : Array Value) (w : World) (Post : World → Prop) (hm : m ≤ 19)
    (hi : Hid (Calls Try.prog 114 #[.slice sa m c, .int .i64 0, .int .i64 m, .func (.func fn) #[] caps] w fun e w' => e = .returned (.tuple #[]) ∧ Post w')) :
    Calls Try.prog 42 #[.slice sa m c, .func (.func fn) #[] caps] w fun e w' => e = .returned (.tuple #[]) ∧ Post w' := by
  have HC := Lib.hid (stable_c sa m c fn caps w Post hm hi)
  go_enter Try.func42, Try.ntmps42
  go_wp2_with fail
  refine HC.out.mono ?_; rintro e w1 ⟨rfl, hp⟩
  have HP := Lib.hid hp
  clear hp
  go_wp2_with fail
  go_end0
  exact ⟨rfl, HP.out⟩
set_option maxHeartbeats 1000000 in
theorem ins0_c (sa : Option Addr) (c : Nat) (fn : FuncId) (caps : Array Value) (w : World) :
    Calls Try.prog 114 #[.slice sa 0 c, .int .i64 0, .int .i64 (0 : Nat), .func (.func fn) #[] caps] w fun e w' => e = .returned (.tuple #[]) ∧ w = w' := by
  go_enter Try.func114, Try.ntmps114
  go_wp2_with fail
  go_loopw [8] (fun a wr => a = .int .i64 1 ∧ w = wr) (fun _ _ => 0)
  case atStart => exact ⟨rfl, rfl⟩
  case round =>
    obtain ⟨rfl, rfl⟩ := hrel
    go_wp2_with fail
    go_end0
    exact ⟨rfl, rfl⟩
end Go.Proofs.Ytplebibabcdipaa
namespace Go.Proofs.Ytplebibabcdipaa
open Go.RowKit

/-- A relay in memory. -/
structure ZRA where
  node : ByteArray
  branch : ByteArray
  za : Option Addr
  zc : Nat
  zs : List ZSt
def ZRA.cells (x : ZRA) : List Value := [.string x.node, .string x.branch, .slice x.za x.zs.length x.zc]
abbrev ZRA.rel (x : ZRA) : ZRel := ⟨x.node, x.branch, x.zs⟩
instance : Inhabited ZRA := ⟨⟨.empty, .empty, none, 0, []⟩⟩
theorem zra_cells {w : World} {b off : Nat} {l : List ZRA} (h : ∀ j u, (flat ZRA.cells l)[j]? = some u → w.cell? ⟨b, off + j, none⟩ = some u) {k : Nat} {x : ZRA} (hx : l[k]? = some x) :
    w.cell? ⟨b, off + k * 3, none⟩ = some (.string x.node) ∧ w.cell? ⟨b, off + k * 3 + 1, none⟩ = some (.string x.branch) ∧ w.cell? ⟨b, off + k * 3 + 2, none⟩ = some (.slice x.za x.zs.length x.zc) := by
  have e := fun j u hj hu => Reads.elem (sz := 3) (fun _ => rfl) h hx (j := j) (u := u) hj hu
  exact ⟨e 0 _ (by decide) rfl, by rw [Nat.add_assoc]; exact e 1 _ (by decide) rfl, by rw [Nat.add_assoc]; exact e 2 _ (by decide) rfl⟩
/-- A list of relays in memory. -/
def RelsR (w : World) (v : Value) (l : List ZRA) : Prop := Reads w v l.length (flat ZRA.cells l) ∧ ∀ r ∈ l, Reads w (.slice r.za r.zs.length r.zc) r.zs.length (flat ZSt.cells r.zs)
theorem RelsR.below {w w' : World} {v : Value} {l : List ZRA} (h : RelsR w v l) (k : Below w.heap.size w w') : RelsR w' v l := ⟨h.1.below k, fun r hr => (h.2 r hr).below k⟩
def relsE (n : Net) : List ZRA → Int
  | [] => 0
  | r :: rs => if relayE n r.rel ≠ 0 then relayE n r.rel else relsE n rs
theorem relsE_drop {n : Net} {l : List ZRA} {k : Nat} {x : ZRA} (h : l[k]? = some x) : relsE n (l.drop k) = if relayE n x.rel ≠ 0 then relayE n x.rel else relsE n (l.drop (k + 1)) := by
  obtain ⟨hk, hx⟩ := List.getElem?_eq_some_iff.1 h
  rw [List.drop_eq_getElem_cons hk, hx]; rfl
def covE (n : Net) (l : List ZRA) (p : Plc) : Int := if 24 < l.length then 2 else if placeE n p ≠ 0 then placeE n p else relsE n l
/-- The time of relay number i. -/
def timeAt (n : Net) (l : List ZRA) (p : Plc) (i : Nat) : Int × Int := timeE n (l.getD i default).rel p
/-- The relays that operate, of the first k. -/
def okL (T : Nat → Int × Int) (k : Nat) : List Int := ((List.range k).filter (fun i => decide ((T i).2 = 0))).map Int.ofNat
theorem okL_succ (T : Nat → Int × Int) (k : Nat) : okL T (k + 1) = if (T k).2 = 0 then okL T k ++ [(k : Int)] else okL T k := by
  unfold okL
  rw [List.range_succ, List.filter_append, List.map_append]
  split
  · rename_i h; simp [h]
  · rename_i h; simp [h]
theorem okL_mem {T : Nat → Int × Int} {k : Nat} {x : Int} : x ∈ okL T k ↔ ∃ i : Nat, x = i ∧ i < k ∧ (T i).2 = 0 := by
  unfold okL
  rw [List.mem_map]
  constructor
  · rintro ⟨i, hi, rfl⟩
    rw [List.mem_filter] at hi
    exact ⟨i, rfl, List.mem_range.1 hi.1, of_decide_eq_true hi.2⟩
  · rintro ⟨i, rfl, h1, h2⟩
    exact ⟨i, List.mem_filter.2 ⟨List.mem_range.2 h1, decide_eq_true h2⟩, rfl⟩
theorem okL_len (T : Nat → Int × Int) (k : Nat) : (okL T k).length ≤ k := by
  unfold okL
  rw [List.length_map]
  exact Nat.le_trans (List.length_filter_le _ _) (by simp)
/-- What Covered answers. -/
def CovIs (n : Net) (l : List ZRA) (p : Plc) (w : World) (e : Ending) (w' : World) : Prop :=
  ∃ (a : Option Addr) (m c : Nat) (r : List Int), e = .returned (.tuple #[.slice a m c, .int .i64 (covE n l p)]) ∧ Below w.heap.size w w' ∧ r.length = m ∧ Reads w' (.slice a m c) m (ints r) ∧ (covE n l p ≠ 0 → m = 0) ∧
    (covE n l p = 0 → (∀ x, x ∈ r ↔ x ∈ okL (timeAt n l p) l.length) ∧ SrtTo (fun x => (timeAt n l p x.toNat).1) m r)


theorem infoInt2 : (Try.prog.info? 3).map (fun i => (i.zero, i.size, i.bytes)) = some (some (.int .i64 0), 1, 8) := by kernel_rfl
theorem blk_grown {w w' : World} {b : Nat} {c : Array Value} {t : TypeId} {row : Option Nat} (h : Blk w b c t) (k : w.grownBy w' row) (hn : some b ≠ row) : Blk w' b c t := by
  have := k.block b h.lt hn
  unfold Blk at h ⊢; rw [this]; exact h
theorem row_len {W : World} {base : Nat} {e : TypeId} {sz n : Nat} {a : Addr} {c : Nat} {xs : List Value} (h : W.ownsRow base e sz (.slice (some a) n c) n xs) : n ≤ c := by
  rcases h.2 with ⟨e, _⟩ | ⟨g, cap, cur, e, _, _, hn, _⟩
  · cases e
  · cases e; exact hn
theorem ib_reads {w : World} {g m c : Nat} {r : List Int} (h : IB w g r) (hc : m ≤ c) (hs : m ≤ 9223372036854775807) : Reads w (.slice (some ⟨g, 0, none⟩) m c) m (ints r) :=
  Or.inr ⟨g, 0, c, rfl, hc, hs, h.lt, fun j u hj => by
    have hl : j < r.length := by have := (List.getElem?_eq_some_iff.1 hj).1; simpa [ints] using this
    rw [ints_get hl] at hj
    cases hj
    rw [Nat.zero_add]; exact h.cell hl⟩
set_option maxHeartbeats 4000000 in
set_option maxRecDepth 100000 in
theorem covered_c (x0 : NAddr) (n : Net) (l : List ZRA) (lv : Value) (pbr : ByteArray) (part : Int) (w : World) (hr : NetR w x0 n) (hwf : n.Wf) (hl : RelsR w lv l) (h6 : l.length ≤ 6) :
    Calls Try.prog 19 #[x0.val n, lv, .agg #[.string pbr, .int .i64 part]] w fun e w' => CovIs n l ⟨pbr, part⟩ w e w' := by
  obtain ⟨ra, rc, rfl⟩ := hl.1.slice
  have HPL := Lib.hid (fun W (hW : Below w.heap.size w W) => place_c x0 n pbr part W (hr.below hW) hwf)
  have HCK := Lib.hid (fun (x : ZRA) (hx : x ∈ l) W (hW : Below w.heap.size w W) => zcheck_c x0 n x.node x.branch x.za x.zc x.zs W (hr.below hW) hwf ((hl.2 x hx).below hW))
  have HTM := Lib.hid (fun (x : ZRA) (hx : x ∈ l) W (hW : Below w.heap.size w W) => time_c x0 n x.node x.branch pbr x.za x.zc x.zs part W (hr.below hW) hwf ((hl.2 x hx).below hW))
  have HBD : Hid (∀ e w' E, covE n l ⟨pbr, part⟩ = E → E ≠ 0 → e = .returned (.tuple #[.slice none 0 0, .int .i64 E]) → Below w.heap.size w w' → CovIs n l ⟨pbr, part⟩ w e w') := fun e w' E hE hE0 he hb =>
    ⟨none, 0, 0, [], by rw [hE]; exact he, hb, rfl, Or.inl ⟨rfl, rfl, none, 0, rfl⟩, fun _ => rfl, fun h => absurd (hE.symm.trans h) hE0⟩
  have HGD : Hid (∀ e w' a m c r, covE n l ⟨pbr, part⟩ = 0 → e = .returned (.tuple #[.slice a m c, .int .i64 0]) → Below w.heap.size w w' → r.length = m → Reads w' (.slice a m c) m (ints r) → (∀ x, x ∈ r ↔ x ∈ okL (timeAt n l ⟨pbr, part⟩) l.length) → SrtTo (fun x => (timeAt n l ⟨pbr, part⟩ x.toNat).1) m r → CovIs n l ⟨pbr, part⟩ w e w') := fun e w' a m c r hE he hb h1 h2 h3 h4 =>
    ⟨a, m, c, r, by rw [hE]; exact he, hb, h1, h2, fun h => absurd hE h, fun _ => ⟨h3, h4⟩⟩
  have HE : Hid (covE n l ⟨pbr, part⟩ = if placeE n ⟨pbr, part⟩ ≠ 0 then placeE n ⟨pbr, part⟩ else relsE n l) := if_neg (by omega)
  have HTA : Hid (∀ i x, l[i]? = some x → timeE n x.rel ⟨pbr, part⟩ = timeAt n l ⟨pbr, part⟩ i) := fun i x hx => by unfold timeAt; simp [hx]
  have HRD : Hid (∀ (k : Nat) x, l[k]? = some x → relsE n (l.drop k) = if relayE n x.rel ≠ 0 then relayE n x.rel else relsE n (l.drop (k + 1))) := fun k x hx => relsE_drop hx
  have HR0 : Hid (relsE n (l.drop 0) = relsE n l) := rfl
  generalize timeAt n l ⟨pbr, part⟩ = T at *
  generalize CovIs n l ⟨pbr, part⟩ = CI at *
  generalize covE n l ⟨pbr, part⟩ = E at *
  generalize placeE n ⟨pbr, part⟩ = PE at *
  have hl1 := hl.1
  clear hr hwf hl
  obtain ⟨N, hN⟩ : ∃ k, l.length = k := ⟨_, rfl⟩
  have HN := Lib.hid hN
  rw [hN] at hl1 h6 HGD ⊢
  have HL := Lib.hid hl1
  clear hN hl1
  generalize relsE n l = RE at *
  obtain ⟨na, nc, sa, sc, ba, bc, ga, gc, la, lc, ta, tc⟩ := x0
  obtain ⟨nl, sws, brs, gens, loads, stores⟩ := n
  simp only [NAddr.val] at HPL HCK HTM ⊢
  generalize nl.length = nn at *
  generalize sws.length = sn at *
  generalize brs.length = bn at *
  generalize gens.length = gn at *
  generalize loads.length = ln at *
  generalize stores.length = tn at *
  have B1 := belowA (Below.refl w.heap.size w) (.cells #[.slice na nn nc, .slice sa sn sc, .slice ba bn bc, .slice ga gn gc, .slice la ln lc, .slice ta tn tc] 29)
  have K1 := Blk.new w #[.slice na nn nc, .slice sa sn sc, .slice ba bn bc, .slice ga gn gc, .slice la ln lc, .slice ta tn tc] 29
  generalize hW1 : w.alloc (.cells #[.slice na nn nc, .slice sa sn sc, .slice ba bn bc, .slice ga gn gc, .slice la ln lc, .slice ta tn tc] 29) = W1 at *
  have B2 := Lib.hid (belowA B1 (.cells #[.string pbr, .int .i64 part] 31))
  have K2 := Lib.hid (K1.alloc (.cells #[.string pbr, .int .i64 part] 31))
  have M2 := Lib.hid (Blk.new W1 #[.string pbr, .int .i64 part] 31)
  generalize hW2 : W1.alloc (.cells #[.string pbr, .int .i64 part] 31) = W2 at *
  clear B1 K1
  have x0 := K2.out.cell 0 rfl
  have x1 := K2.out.cell 1 rfl
  have x2 := K2.out.cell 2 rfl
  have x3 := K2.out.cell 3 rfl
  have x4 := K2.out.cell 4 rfl
  have x5 := K2.out.cell 5 rfl
  have p0 := M2.out.cell 0 rfl
  have p1 := M2.out.cell 1 rfl
  have g0 : decide ((24 : Int) < (N : Int)) = false := decide_eq_false (by omega)
  have HPL1 := Lib.hid (HPL.out W2 B2.out)
  refine Calls.mono (R := fun e w' => CI w e w' ∧ True) ?_ (fun _ _ h => h.1)
  go_enter Try.func19, Try.ntmps19
  go_wp2_with fail
  refine HPL1.out.mono ?_; rintro e w4 ⟨rfl, hb4⟩
  have B4 := Lib.hid (belowT B2.out hb4)
  have K4 := Lib.hid (below_blk hb4 K2.out K2.out.lt)
  have M4 := Lib.hid (below_blk hb4 M2.out M2.out.lt)
  clear x0 x1 x2 x3 x4 x5 p0 p1 hb4 HPL1 HPL
  by_cases hP : PE = 0
  · have g1 : (PE != 0) = false := by simp [hP]
    have HE2 : Hid (E = RE) := HE.out.trans (if_neg (fun h => h hP))
    clear hP HE
    go_wp2_with fail
    go_loopw [29] (fun i wr => ∃ k : Nat, k ≤ N ∧ i = .int .i64 k ∧ Hid (relsE ⟨nl, sws, brs, gens, loads, stores⟩ (l.drop k) = RE) ∧ Hid (Below w4.heap.size w4 wr)) (fun i _ => N - (intOf i).toNat)
    case atStart => exact ⟨0, Nat.zero_le _, rfl, HR0, Below.refl _ _⟩
    case round =>
      obtain ⟨k, hk, rfl, he, hbl⟩ := hrel
      have HB5 := Lib.hid (belowT B4.out hbl.out)
      by_cases hlt : k < N
      ·
        obtain ⟨x, hx⟩ : ∃ x, l[k]? = some x := ⟨_, List.getElem?_eq_getElem (by rw [HN.out]; exact hlt)⟩
        obtain ⟨g, off, cap', hvv, _, _, hgl, hc⟩ := (HL.out.below HB5.out).addr (by omega)
        simp only [Value.slice.injEq] at hvv
        obtain ⟨rfl, _, rfl⟩ := hvv
        obtain ⟨c0, c1, c2⟩ := zra_cells hc hx
        have hmem := List.mem_of_getElem? hx
        have hrd := HRD.out k x hx
        rw [he.out] at hrd
        have HC := Lib.hid (HCK.out x hmem (wr.alloc (.cells x.cells.toArray 44)) (belowA HB5.out _))
        obtain ⟨nd, br, za, zc, zs⟩ := x
        simp only at c0 c1 c2 HC hrd
        have HC1 : Hid (Calls Try.prog 41 #[netV na nn nc sa sn sc ba bn bc ga gn gc la ln lc ta tn tc, .agg #[.string nd, .string br, .slice za zs.length zc]] (wr.alloc (.cells #[.string nd, .string br, .slice za zs.length zc] 44)) fun e w' => e = .returned (.int .i64 (relayE ⟨nl, sws, brs, gens, loads, stores⟩ ⟨nd, br, zs⟩)) ∧ Below (wr.alloc (.cells #[.string nd, .string br, .slice za zs.length zc] 44)).heap.size (wr.alloc (.cells #[.string nd, .string br, .slice za zs.length zc] 44)) w') := HC.out
        have HRDk := Lib.hid hrd
        have K5 := (below_blk hbl.out K4.out K4.out.lt).alloc (.cells #[.string nd, .string br, .slice za zs.length zc] 44)
        have BW := Lib.hid (belowA hbl.out (.cells #[.string nd, .string br, .slice za zs.length zc] 44))
        have x0 := K5.cell 0 rfl
        have x1 := K5.cell 1 rfl
        have x2 := K5.cell 2 rfl
        have x3 := K5.cell 3 rfl
        have x4 := K5.cell 4 rfl
        have x5 := K5.cell 5 rfl
        clear HC hrd hx hc hmem K5 he
        generalize relayE ⟨nl, sws, brs, gens, loads, stores⟩ ⟨nd, br, zs⟩ = D at *
        go_wp2_with fail
        refine HC1.out.mono ?_; rintro e w6 ⟨rfl, hb6⟩
        have B6 := Lib.hid (belowT BW.out hb6)
        clear hb6 HC1 x0 x1 x2 x3 x4 x5 c0 c1 c2
        by_cases hD : D = 0
        · have g2 : (D != 0) = false := by simp [hD]
          have HN2 := Lib.hid (HRDk.out.trans (if_neg (fun h => h hD))).symm
          clear hD HRDk
          go_wp2_with fail
          go_roundw
          case rel => exact ⟨k + 1, hlt, by go_num, HN2.out, B6⟩
          case measure => simp [intOf]; omega
        · have g2 : (D != 0) = true := by simp [hD]
          have HR : Hid (E = D) := HE2.out.trans (HRDk.out.trans (if_pos hD))
          have HDN := Lib.hid hD
          clear hD HRDk
          go_wp2_with fail
          go_ret2
          exact ⟨HBD.out _ _ D HR.out HDN.out rfl (belowT B4.out B6.out), trivial⟩
      ·
        have hkn : l.drop k = [] := List.drop_eq_nil_of_le (by rw [HN.out]; omega)
        have HE3 : Hid (E = 0) := by show _ = _; rw [HE2.out, ← he.out, hkn]; rfl
        clear he hkn HE2
        obtain ⟨w7, hw7⟩ : ∃ x, x = wr := ⟨_, rfl⟩
        subst hw7
        have KS := Lib.hid (below_blk hbl.out K4.out K4.out.lt)
        have MS := Lib.hid (below_blk hbl.out M4.out M4.out.lt)
        obtain ⟨i0, hi0, hz0, hz1, hz2⟩ := info_parts infoInt2
        have T6 : Hid (Blk (((w7.alloc (.cells (madeCells #[.int .i64 0] N) 3))).alloc (.cells #[.slice (some ⟨w7.heap.size, 0, none⟩) N N] 49)) w7.heap.size (ints (List.replicate N 0)).toArray 3) := by
          show Blk _ _ _ _
          rw [← made_ints]; exact (Blk.new _ _ _).alloc _
        have X6 : Hid (Blk (((w7.alloc (.cells (madeCells #[.int .i64 0] N) 3))).alloc (.cells #[.slice (some ⟨w7.heap.size, 0, none⟩) N N] 49)) (w7.heap.size + 1) #[.slice (some ⟨w7.heap.size, 0, none⟩) N N] 49) := Blk.new2 _ _ _ _
        have B6 : Hid (Below w7.heap.size w7 (((w7.alloc (.cells (madeCells #[.int .i64 0] N) 3))).alloc (.cells #[.slice (some ⟨w7.heap.size, 0, none⟩) N N] 49))) := belowA (belowA (Below.refl _ w7) _) _
        clear K4 M4 B4 hbl HCK HRD HR0 HBD
        go_wp2_with (at_make; refine wpList_make_row _ rfl _ _ 49 rfl 3 i0 (.int .i64 0) Try.underlying49 hi0 hz0 hz1 rfl .i64 .i64 N rfl rfl (by rw [hz2]; omega) (by omega) ?_)
        generalize ((w7.alloc (.cells (madeCells #[.int .i64 0] N) 3))).alloc (.cells #[.slice (some ⟨w7.heap.size, 0, none⟩) N N] 49) = W6 at *
        generalize htg : w7.heap.size = tg at *
        go_loopw [45, 12] (fun i lv wr => ∃ (k : Nat) (ts os : List Int), k ≤ N ∧ i = .int .i64 k ∧ Hid (os = okL T k) ∧ ts.length = N ∧ os.length ≤ k ∧ Hid (∀ i, i < k → (T i).2 = 0 → ts.getD i 0 = (T i).1) ∧ Hid (Blk wr tg (ints ts).toArray 3) ∧ Hid (Blk wr (tg + 1) #[.slice (some ⟨tg, 0, none⟩) N N] 49) ∧ Hid (wr.ownsRow (tg + 2) 3 1 lv os.length (ints os)) ∧ Hid (Below tg w7 wr)) (fun i _ _ => N - (intOf i).toNat)
        case atStart => exact ⟨0, List.replicate N 0, [], Nat.zero_le _, rfl, rfl, by simp, by simp, fun i hi => by omega, T6, X6, World.ownsRow_nil _ _ _ _, B6⟩
        case round =>
          clear T6 X6 B6 hk hlt
          obtain ⟨k, ts, os, hk, rfl, hos, htl, hol, hts, ht6, hx6, how, hbl⟩ := hrel
          obtain ⟨oa, oc, rfl⟩ := row_slice how.out
          obtain ⟨m, hm⟩ : ∃ m, os.length = m := ⟨_, rfl⟩
          have HM := Lib.hid hm
          rw [hm] at how hol ⊢
          clear hm
          have HBW := Lib.hid (belowT HB5.out (by rw [htg]; exact hbl.out))
          have ltb : tg + 1 < wr.heap.size := hx6.out.lt
          by_cases hlt : k < N
          ·
            obtain ⟨x, hx⟩ : ∃ x, l[k]? = some x := ⟨_, List.getElem?_eq_getElem (by rw [HN.out]; exact hlt)⟩
            obtain ⟨g, off, cap', hvv, _, _, hgl, hc⟩ := (HL.out.below HBW.out).addr (by omega)
            simp only [Value.slice.injEq] at hvv
            obtain ⟨rfl, _, rfl⟩ := hvv
            obtain ⟨c0, c1, c2⟩ := zra_cells hc hx
            have hmem := List.mem_of_getElem? hx
            have hta := HTA.out k x hx
            have HC := Lib.hid (HTM.out x hmem (wr.alloc (.cells x.cells.toArray 44)) (belowA HBW.out _))
            obtain ⟨nd, br, za, zc, zs⟩ := x
            simp only at c0 c1 c2 HC hta
            have HC1 : Hid (Calls Try.prog 18 #[netV na nn nc sa sn sc ba bn bc ga gn gc la ln lc ta tn tc, .agg #[.string nd, .string br, .slice za zs.length zc], .agg #[.string pbr, .int .i64 part]] (wr.alloc (.cells #[.string nd, .string br, .slice za zs.length zc] 44)) fun e w' =>
              e = .returned (.tuple #[.int .i64 (T k).1, .int .i64 (T k).2]) ∧ Below (wr.alloc (.cells #[.string nd, .string br, .slice za zs.length zc] 44)).heap.size (wr.alloc (.cells #[.string nd, .string br, .slice za zs.length zc] 44)) w') := by show Calls _ _ _ _ _; rw [← hta]; exact HC.out
            have hle : tg ≤ wr.heap.size := by omega
            have K5 := (below_blk (B := tg) hbl.out KS.out (by rw [← htg]; exact KS.out.lt)).alloc (.cells #[.string nd, .string br, .slice za zs.length zc] 44)
            have M5 := (below_blk (B := tg) hbl.out MS.out (by rw [← htg]; exact MS.out.lt)).alloc (.cells #[.string nd, .string br, .slice za zs.length zc] 44)
            have T5 := Lib.hid (ht6.out.alloc (.cells #[.string nd, .string br, .slice za zs.length zc] 44))
            have X5 := Lib.hid (hx6.out.alloc (.cells #[.string nd, .string br, .slice za zs.length zc] 44))
            have O5 := Lib.hid (row_alloc how.out (.cells #[.string nd, .string br, .slice za zs.length zc] 44))
            have BW := Lib.hid (hbl.out.alloc hle (.cells #[.string nd, .string br, .slice za zs.length zc] 44))
            have x0 := K5.cell 0 rfl
            have x1 := K5.cell 1 rfl
            have x2 := K5.cell 2 rfl
            have x3 := K5.cell 3 rfl
            have x4 := K5.cell 4 rfl
            have x5 := K5.cell 5 rfl
            have p0 := M5.cell 0 rfl
            have p1 := M5.cell 1 rfl
            have HOS := Lib.hid (okL_succ T k)
            have HTK : Hid (∀ i, i < k + 1 → i ≠ k → i < k) := fun i h1 h2 => by omega
            clear HC hx hc hmem K5 M5 hta how ht6 hx6 hbl
            obtain ⟨Z, hZ⟩ : ∃ Z, T k = Z := ⟨_, rfl⟩
            have HZ := Lib.hid hZ
            rw [hZ] at HC1 HOS
            clear hZ
            obtain ⟨t, tq⟩ := Z
            simp only at HC1 HOS
            go_wp2_with fail
            refine HC1.out.mono ?_; rintro e w9 ⟨rfl, hb9⟩
            have B9 := Lib.hid (BW.out.trans (hb9.mono (by have := BW.out.size; have := (World.size_alloc wr (.cells #[.string nd, .string br, .slice za zs.length zc] 44)); omega)))
            have T9 := Lib.hid (below_blk hb9 T5.out T5.out.lt)
            have X9 := Lib.hid (below_blk hb9 X5.out X5.out.lt)
            have O9 := Lib.hid (row_below O5.out hb9)
            clear hb9 HC1 x0 x1 x2 x3 x4 x5 p0 p1 c0 c1 c2 BW T5 X5 O5
            by_cases hD : tq = 0
            · have g2 : (tq == 0) = true := by simp [hD]
              have HOS2 := Lib.hid (HOS.out.trans (if_pos hD))
              have z0 := X9.out.cell 0 rfl
              have y0 := T9.out.int (i := k) (by omega)
              have yf := T9.out.free k
              have lt9 := T9.out.lt
              have lx9 := X9.out.lt
              have T10 : Hid (Blk (w9.setCell ⟨tg, k, none⟩ (.int .i64 t)) tg (ints (ts.set k t)).toArray 3) := by show Blk _ _ _ _; rw [← ints_set]; exact T9.out.set k _
              have X10 : Hid (Blk (w9.setCell ⟨tg, k, none⟩ (.int .i64 t)) (tg + 1) #[.slice (some ⟨tg, 0, none⟩) N N] 49) := X9.out.setOther ⟨tg, k, none⟩ (by show tg + 1 ≠ tg; omega) _
              have O10 := Lib.hid (row_kept O9.out ((But.refl tg w9).set k (.int .i64 t)) (by omega))
              have B10 : Hid (Below tg w7 (w9.setCell ⟨tg, k, none⟩ (.int .i64 t))) := Below.setCell B9.out (Nat.le_refl _) _
              have sz10 : (w9.setCell ⟨tg, k, none⟩ (.int .i64 t)).heap.size = w9.heap.size := by simp [World.setCell]
              have HL11 : Hid (((w9.setCell ⟨tg, k, none⟩ (.int .i64 t)).alloc (.cells #[.int .i64 k] 3)).ownsRow (tg + 2) 3 1 (.slice oa m oc) m (ints os)) := row_alloc O10.out _
              have T11 := Lib.hid (T10.out.alloc (.cells #[.int .i64 k] 3))
              have X11 := Lib.hid (X10.out.alloc (.cells #[.int .i64 k] 3))
              have B11 := Lib.hid (B10.out.alloc (by rw [sz10]; omega) (.cells #[.int .i64 k] 3))
              have sz11 : tg + 2 ≤ ((w9.setCell ⟨tg, k, none⟩ (.int .i64 t)).alloc (.cells #[.int .i64 k] 3)).heap.size := by rw [World.size_alloc, sz10]; omega
              have HTS : Hid (∀ i, i < k + 1 → (T i).2 = 0 → (ts.set k t).getD i 0 = (T i).1) := fun i h1 h2 => by
                rw [List.getD_eq_getElem?_getD, List.getElem?_set]
                by_cases hik : k = i
                · rw [if_pos hik, if_pos (by omega), ← hik, HZ.out]; rfl
                · rw [if_neg hik, ← List.getD_eq_getElem?_getD]; exact hts.out i (by omega) h2
              have HS11 := Lib.hid sz11
              clear hD HOS T10 X10 O10 B10 T9 X9 O9 B9 sz11
              go_wp2_with (at_builtin; refine wpList_append_own _ rfl _ _ 49 rfl (tg + 2) 3 i0 (.int .i64 0) 1 8 Try.underlying49 hi0 hz0 hz1 hz2 rfl (by decide) _ m (ints os) rfl HL11.out ⟨w9.heap.size, 0, none⟩ 1 1 [.int .i64 k] rfl rfl (by rw [← sz10]; exact cell_one_new _ _ _) (ints_one [(k : Int)]) (by unfold maxLen; omega) (by omega) HS11.out ?_; intro v' w3 hown' hgrow3 hnil3; obtain ⟨g3, cap3, rfl⟩ := row_succ hown'; have HOW := Lib.hid hown'; have HGR := Lib.hid hgrow3; clear hown' hgrow3 hnil3)
              go_roundw
              case rel => exact ⟨k + 1, ts.set k t, os ++ [(k : Int)], hlt, by go_num, by show _ = _; rw [hos.out, HOS2.out], by simp; exact htl, by rw [List.length_append, HM.out]; simp; omega, HTS, blk_grown T11.out HGR.out (fun h => by have := row_own HL11.out tg h.symm; omega), blk_grown X11.out HGR.out (fun h => by have := row_own HL11.out (tg + 1) h.symm; omega), by show World.ownsRow _ _ _ _ _ _ _; rw [List.length_append, HM.out]; simpa [ints] using HOW.out, Below.grown B11.out HGR.out (by have := HS11.out; omega) (fun j hj => by have := row_own HL11.out j hj; omega)⟩
              case measure => simp [intOf]; omega
            · have g2 : (tq == 0) = false := by simp [hD]
              have HOS2 := Lib.hid (HOS.out.trans (if_neg hD))
              have HTS : Hid (∀ i, i < k + 1 → (T i).2 = 0 → ts.getD i 0 = (T i).1) := fun i h1 h2 => by
                by_cases hik : i = k
                · rw [hik, HZ.out] at h2; exact absurd h2 hD
                · exact hts.out i (by omega) h2
              clear hD HOS
              go_wp2_with fail
              go_roundw
              case rel => exact ⟨k + 1, ts, os, hlt, by go_num, by show _ = _; rw [hos.out, HOS2.out], htl, by rw [HM.out]; omega, HTS, T9, X9, by rw [HM.out]; exact O9, B9⟩
              case measure => simp [intOf]; omega
          ·
            have hok : N = k := by omega
            subst hok
            by_cases hm0 : m = 0
            ·
              subst hm0
              have hos0 : os = [] := List.eq_nil_of_length_eq_zero HM.out
              have HMM : Hid (∀ x, x ∈ ([] : List Int) ↔ x ∈ okL T N) := fun x => by rw [← hos.out, hos0]
              have HSRT := Lib.hid (sortStable_c oa 0 oc 43 #[.pointer (some ⟨tg + 1, 0, none⟩)] wr (fun w' => wr = w') (by decide) (ins0_c oa oc _ _ wr))
              clear hos0 how
              go_wp2_with fail
              refine HSRT.out.mono ?_; rintro e w8 ⟨rfl, rfl⟩
              go_wp2_with fail
              go_ret2
              exact ⟨HGD.out _ _ oa 0 oc [] HE3.out rfl HBW.out rfl (Or.inl ⟨rfl, rfl, oa, oc, rfl⟩) HMM.out (fun p q h1 h2 => by omega), trivial⟩
            ·
              obtain ⟨m', rfl⟩ : ∃ m', m = m' + 1 := ⟨m - 1, by omega⟩
              obtain ⟨g3, cap3, hv3⟩ := row_succ how.out
              simp only [Value.slice.injEq] at hv3
              obtain ⟨rfl, _, rfl⟩ := hv3
              have hcap := row_len how.out
              have hib : IB wr g3 os := IB.of_row how.out
              have hg3 : tg + 2 ≤ g3 := row_own how.out g3 rfl
              have HCMP : Hid (CmpAt g3 wr 43 #[.pointer (some ⟨tg + 1, 0, none⟩)] (fun x => (T x.toNat).1) os) := fun W hW x y hx hy => by
                obtain ⟨i, rfl, hi, hti⟩ := okL_mem.1 (by rw [← hos.out]; exact hx)
                obtain ⟨j, rfl, hj, htj⟩ := okL_mem.1 (by rw [← hos.out]; exact hy)
                have := cov1_c i j ts (tg + 1) tg 0 N N W hi hj ((hW.blk hx6.out (by omega)).cell 0 rfl) (fun q hq => by rw [Nat.zero_add]; exact (hW.blk ht6.out (by omega)).int (by omega))
                rw [hts.out i hi hti, hts.out j hj htj] at this
                exact this
              have HSRT := Lib.hid (sortStable_c (some ⟨g3, 0, none⟩) (m' + 1) oc 43 #[.pointer (some ⟨tg + 1, 0, none⟩)] wr (Sorted g3 wr (fun x => (T x.toNat).1) os (m' + 1)) (by omega)
                (ins_c g3 (m' + 1) oc os (fun x => (T x.toNat).1) _ _ wr HM.out (by omega) hib (fun a w' => enters_of Try.func43 (by kernel_rfl) rfl a w') HCMP))
              have HOS := Lib.hid hos.out
              clear hib how HCMP hm0
              go_wp2_with fail
              refine HSRT.out.mono ?_; rintro e w8 ⟨rfl, hso⟩
              have HSO := Lib.hid hso
              clear hso
              go_wp2_with fail
              go_ret2
              obtain ⟨r, h1, h2, h3, h4, h5⟩ := HSO.out
              exact ⟨HGD.out _ _ (some ⟨g3, 0, none⟩) (m' + 1) oc r HE3.out rfl (But.below HBW.out h5 (by have := HBW.out.size; have := HB5.out.size; omega) (Nat.le_refl _)) h2 (ib_reads h1 hcap (by omega)) (fun x => by rw [h3 x, HOS.out]) h4, trivial⟩
  · have g1 : (PE != 0) = true := by simp [hP]
    have HR : Hid (E = PE) := HE.out.trans (if_pos hP)
    have HDN := Lib.hid hP
    clear hP HE
    go_wp2_with fail
    go_ret2
    exact ⟨HBD.out _ _ PE HR.out HDN.out rfl B4.out, trivial⟩
end Go.Proofs.Ytplebibabcdipaa
