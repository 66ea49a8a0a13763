/- zone.check, Distance, Find, Time. -/
import Derived.Test.YtplebibabcdipaaZon7
namespace Go.Proofs.Ytplebibabcdipaa
open Go.RowKit

/-- What check, Distance, Find, Time answer. -/
def chkE (n : Net) (r : ZRel) (p : Plc) : Int := if relayE n r ≠ 0 then relayE n r else placeE n p
def distE (n : Net) (r : ZRel) (p : Plc) : Int × Int := if chkE n r p ≠ 0 then (0, chkE n r p) else if (distR n r p).2 = true then ((distR n r p).1, 0) else (0, 8)
def findE (n : Net) (r : ZRel) (p : Plc) : Int × Int :=
  if (distE n r p).2 ≠ 0 then (0, (distE n r p).2) else
  if idxP (fun z : ZSt => decide ((distE n r p).1 ≤ 1000 * z.reach)) r.zones 0 < 0 then (0, 8) else (idxP (fun z : ZSt => decide ((distE n r p).1 ≤ 1000 * z.reach)) r.zones 0, 0)
def timeE (n : Net) (r : ZRel) (p : Plc) : Int × Int := if (findE n r p).2 ≠ 0 then (0, (findE n r p).2) else ((r.zones.getD (findE n r p).1.toNat ⟨0, 0⟩).delay, 0)

theorem zonesE_ok : ∀ (l : List ZSt) (o : Option ZSt), zonesE o l = 0 → ∀ z ∈ l, zBad z = false := by
  intro l
  induction l with
  | nil => intro o _ z hz; cases hz
  | cons y ys ih =>
    intro o h z hz
    have key : zBad y = false ∧ zonesE (some y) ys = 0 := by
      cases o with
      | none =>
        unfold zonesE at h
        split at h
        · cases h
        · rename_i hb; exact ⟨by simpa using hb, h⟩
      | some p =>
        unfold zonesE at h
        split at h
        · cases h
        · rename_i hb
          split at h
          · cases h
          · exact ⟨by simpa using hb, h⟩
    rcases List.mem_cons.1 hz with rfl | hz
    · exact key.1
    · exact ih _ key.2 z hz
theorem zBad_range {z : ZSt} (h : zBad z = false) : 1 ≤ z.reach ∧ z.reach ≤ 1000000 ∧ 0 ≤ z.delay ∧ z.delay ≤ 100000 := by
  unfold zBad at h
  simp only [Bool.or_eq_false_iff, decide_eq_false_iff_not] at h
  omega
/-- What a relay and a place that are let pass have. -/
structure RelOk (n : Net) (r : ZRel) : Prop where
  net : netE n = 0
  br : ∃ (k : Nat) (x : NBr), brAt n r.branch = k ∧ n.brs[k]? = some x ∧ badEnd r.node x = false
  len : 1 ≤ r.zones.length ∧ r.zones.length ≤ 4
  zs : zonesE none r.zones = 0
theorem relayE_ok {n : Net} {r : ZRel} (h : relayE n r = 0) : RelOk n r := by
  unfold relayE at h
  split at h
  · rename_i hn; exact absurd h hn
  · rename_i hn
    split at h
    · cases h
    · rename_i hk
      split at h
      · cases h
      · rename_i hb
        rcases brAt_range n r.branch with h1 | ⟨k, x, h1, h2, _⟩
        · omega
        · rw [brOf_eq h1 h2] at hb
          refine ⟨by simpa using hn, ⟨k, x, h1, h2, ?_⟩, ?_, h⟩
          · cases hq : badEnd r.node x
            · rfl
            · exact absurd (Or.inl hq) hb
          · constructor
            · rcases Nat.lt_or_ge r.zones.length 1 with h' | h'
              · exact absurd (Or.inr (Or.inl h')) hb
              · exact h'
            · rcases Nat.lt_or_ge 4 r.zones.length with h' | h'
              · exact absurd (Or.inr (Or.inr h')) hb
              · exact h'
structure PlOk (n : Net) (p : Plc) : Prop where
  net : netE n = 0
  br : ∃ (k : Nat) (x : NBr), brAt n p.branch = k ∧ n.brs[k]? = some x ∧ sameB x.name p.branch = true
  part : 0 ≤ p.part ∧ p.part ≤ 1000
theorem placeE_ok {n : Net} {p : Plc} (h : placeE n p = 0) : PlOk n p := by
  unfold placeE at h
  split at h
  · rename_i hn; exact absurd h hn
  · rename_i hn
    split at h
    · cases h
    · rename_i hk
      split at h
      · cases h
      · rename_i hp
        rcases brAt_range n p.branch with h1 | ⟨k, x, h1, h2, h3⟩
        · omega
        · exact ⟨by simpa using hn, ⟨k, x, h1, h2, h3⟩, by omega⟩
theorem chkE_ok {n : Net} {r : ZRel} {p : Plc} (h : chkE n r p = 0) : RelOk n r ∧ PlOk n p := by
  unfold chkE at h
  split at h
  · rename_i hn; exact absurd h hn
  · rename_i hn
    exact ⟨relayE_ok (by simpa using hn), placeE_ok h⟩

set_option maxHeartbeats 2000000 in
theorem check3_c (x0 : NAddr) (n : Net) (node rbr pbr : ByteArray) (za : Option Addr) (zc : Nat) (zs : List ZSt) (part : Int) (w : World) (hr : NetR w x0 n) (hwf : n.Wf) (hz : Reads w (.slice za zs.length zc) zs.length (flat ZSt.cells zs)) :
    Calls Try.prog 37 #[x0.val n, .agg #[.string node, .string rbr, .slice za zs.length zc], .agg #[.string pbr, .int .i64 part]] w fun e w' =>
      e = .returned (.int .i64 (chkE n ⟨node, rbr, zs⟩ ⟨pbr, part⟩)) ∧ Below w.heap.size w w' := by
  have HA := Lib.hid (fun W (hW : Below w.heap.size w W) => zcheck_c x0 n node rbr za zc zs W (hr.below hW) hwf (hz.below hW))
  have HB := Lib.hid (fun W (hW : Below w.heap.size w W) => place_c x0 n pbr part W (hr.below hW) hwf)
  have HE : Hid (chkE n ⟨node, rbr, zs⟩ ⟨pbr, part⟩ = if relayE n ⟨node, rbr, zs⟩ ≠ 0 then relayE n ⟨node, rbr, zs⟩ else placeE n ⟨pbr, part⟩) := rfl
  generalize chkE n ⟨node, rbr, zs⟩ ⟨pbr, part⟩ = E at *
  generalize relayE n ⟨node, rbr, zs⟩ = F at *
  generalize placeE n ⟨pbr, part⟩ = G at *
  clear hr hwf hz
  generalize zs.length = zn at *
  obtain ⟨na, nc, sa, sc, ba, bc, ga, gc, la, lc, ta, tc⟩ := x0
  obtain ⟨nl, sws, brs, gens, loads, stores⟩ := n
  simp only [NAddr.val] at HA HB ⊢
  generalize nl.length = nn at *
  generalize sws.length = sn at *
  generalize brs.length = bn at *
  generalize gens.length = gn at *
  generalize loads.length = ln at *
  generalize stores.length = tn at *
  have B1 := belowA (Below.refl w.heap.size w) (.cells #[.slice na nn nc, .slice sa sn sc, .slice ba bn bc, .slice ga gn gc, .slice la ln lc, .slice ta tn tc] 29)
  have K1 := Blk.new w #[.slice na nn nc, .slice sa sn sc, .slice ba bn bc, .slice ga gn gc, .slice la ln lc, .slice ta tn tc] 29
  generalize hW1 : w.alloc (.cells #[.slice na nn nc, .slice sa sn sc, .slice ba bn bc, .slice ga gn gc, .slice la ln lc, .slice ta tn tc] 29) = W1 at *
  have B2 := belowA B1 (.cells #[.string node, .string rbr, .slice za zn zc] 44)
  have K2 := K1.alloc (.cells #[.string node, .string rbr, .slice za zn zc] 44)
  have L2 := Blk.new W1 #[.string node, .string rbr, .slice za zn zc] 44
  generalize hW2 : W1.alloc (.cells #[.string node, .string rbr, .slice za zn zc] 44) = W2 at *
  have B3 := Lib.hid (belowA B2 (.cells #[.string pbr, .int .i64 part] 31))
  have K3 := Lib.hid (K2.alloc (.cells #[.string pbr, .int .i64 part] 31))
  have L3 := Lib.hid (L2.alloc (.cells #[.string pbr, .int .i64 part] 31))
  have M3 := Lib.hid (Blk.new W2 #[.string pbr, .int .i64 part] 31)
  generalize hW3 : W2.alloc (.cells #[.string pbr, .int .i64 part] 31) = W3 at *
  clear B1 K1 B2 K2 L2
  have x0 := K3.out.cell 0 rfl
  have x1 := K3.out.cell 1 rfl
  have x2 := K3.out.cell 2 rfl
  have x3 := K3.out.cell 3 rfl
  have x4 := K3.out.cell 4 rfl
  have x5 := K3.out.cell 5 rfl
  have r0 := L3.out.cell 0 rfl
  have r1 := L3.out.cell 1 rfl
  have r2 := L3.out.cell 2 rfl
  have p0 := M3.out.cell 0 rfl
  have p1 := M3.out.cell 1 rfl
  have HA1 := Lib.hid (HA.out W3 B3.out)
  go_enter Try.func37, Try.ntmps37
  go_wp2_with fail
  refine HA1.out.mono ?_; rintro e w4 ⟨rfl, hb4⟩
  have B4 := Lib.hid (belowT B3.out hb4)
  have K4 := Lib.hid (below_blk hb4 K3.out K3.out.lt)
  have L4 := Lib.hid (below_blk hb4 L3.out L3.out.lt)
  have M4 := Lib.hid (below_blk hb4 M3.out M3.out.lt)
  clear x0 x1 x2 x3 x4 x5 r0 r1 r2 p0 p1
  clear HA HA1 hb4
  by_cases hF : F = 0
  · have g1 : (F != 0) = false := by simp [hF]
    have HR := Lib.hid (HE.out.trans (if_neg (fun h => h hF)))
    have HB1 := Lib.hid (HB.out w4 B4.out)
    have x0 := K4.out.cell 0 rfl
    have x1 := K4.out.cell 1 rfl
    have x2 := K4.out.cell 2 rfl
    have x3 := K4.out.cell 3 rfl
    have x4 := K4.out.cell 4 rfl
    have x5 := K4.out.cell 5 rfl
    have r0 := L4.out.cell 0 rfl
    have r1 := L4.out.cell 1 rfl
    have r2 := L4.out.cell 2 rfl
    have p0 := M4.out.cell 0 rfl
    have p1 := M4.out.cell 1 rfl
    clear hF HE HB
    go_wp2_with fail
    refine HB1.out.mono ?_; rintro e w5 ⟨rfl, hb5⟩
    have B5 := Lib.hid (belowT B4.out hb5)
    clear hb5
    go_wp2_with fail
    go_ret
    exact ⟨by rw [HR.out]; rfl, B5.out⟩
  · have g1 : (F != 0) = true := by simp [hF]
    have HR := Lib.hid (HE.out.trans (if_pos hF))
    clear hF HE HB
    go_wp2_with fail
    go_ret
    exact ⟨by rw [HR.out]; rfl, B4.out⟩

set_option maxHeartbeats 2000000 in
theorem dist_c (x0 : NAddr) (n : Net) (node rbr pbr : ByteArray) (za : Option Addr) (zc : Nat) (zs : List ZSt) (part : Int) (w : World) (hr : NetR w x0 n) (hwf : n.Wf) (hz : Reads w (.slice za zs.length zc) zs.length (flat ZSt.cells zs)) :
    Calls Try.prog 16 #[x0.val n, .agg #[.string node, .string rbr, .slice za zs.length zc], .agg #[.string pbr, .int .i64 part]] w fun e w' =>
      e = .returned (.tuple #[.int .i64 (distE n ⟨node, rbr, zs⟩ ⟨pbr, part⟩).1, .int .i64 (distE n ⟨node, rbr, zs⟩ ⟨pbr, part⟩).2]) ∧ Below w.heap.size w w' := by
  have HA := Lib.hid (fun W (hW : Below w.heap.size w W) => check3_c x0 n node rbr pbr za zc zs part W (hr.below hW) hwf (hz.below hW))
  have HB : Hid (chkE n ⟨node, rbr, zs⟩ ⟨pbr, part⟩ = 0 → ∀ W, Below w.heap.size w W → Calls Try.prog 38 #[x0.val n, .agg #[.string node, .string rbr, .slice za zs.length zc], .agg #[.string pbr, .int .i64 part]] W fun e w' =>
      e = .returned (.tuple #[.int .i64 (distR n ⟨node, rbr, zs⟩ ⟨pbr, part⟩).1, .bool (distR n ⟨node, rbr, zs⟩ ⟨pbr, part⟩).2]) ∧ Below W.heap.size W w') := fun h W hW => by
    obtain ⟨ro, po⟩ := chkE_ok h
    obtain ⟨k1, b, h1, h2, _⟩ := ro.br
    obtain ⟨k2, c, h3, h4, _⟩ := po.br
    have e1 : distR n ⟨node, rbr, zs⟩ ⟨pbr, part⟩ = distB n node b c k1 k2 part := by
      unfold distR
      simp only at h1 h3 ⊢
      rw [brOf_eq h1 h2, brOf_eq h3 h4, h1, h3]
    rw [e1]
    exact distance_c x0 n node rbr pbr za zs.length zc part k1 k2 b c W (hr.below hW) (netE_ok ro.net) h1 h2 h3 h4 po.part.1 po.part.2
  have HE : Hid (distE n ⟨node, rbr, zs⟩ ⟨pbr, part⟩ = if chkE n ⟨node, rbr, zs⟩ ⟨pbr, part⟩ ≠ 0 then (0, chkE n ⟨node, rbr, zs⟩ ⟨pbr, part⟩) else if (distR n ⟨node, rbr, zs⟩ ⟨pbr, part⟩).2 = true then ((distR n ⟨node, rbr, zs⟩ ⟨pbr, part⟩).1, 0) else (0, 8)) := rfl
  generalize distE n ⟨node, rbr, zs⟩ ⟨pbr, part⟩ = E at *
  generalize chkE n ⟨node, rbr, zs⟩ ⟨pbr, part⟩ = F at *
  generalize distR n ⟨node, rbr, zs⟩ ⟨pbr, part⟩ = G at *
  obtain ⟨gd, gq⟩ := G
  simp only at HB HE
  clear hr hwf hz
  generalize zs.length = zn at *
  obtain ⟨na, nc, sa, sc, ba, bc, ga, gc, la, lc, ta, tc⟩ := x0
  obtain ⟨nl, sws, brs, gens, loads, stores⟩ := n
  simp only [NAddr.val] at HA HB ⊢
  generalize nl.length = nn at *
  generalize sws.length = sn at *
  generalize brs.length = bn at *
  generalize gens.length = gn at *
  generalize loads.length = ln at *
  generalize stores.length = tn at *
  have B1 := belowA (Below.refl w.heap.size w) (.cells #[.slice na nn nc, .slice sa sn sc, .slice ba bn bc, .slice ga gn gc, .slice la ln lc, .slice ta tn tc] 29)
  have K1 := Blk.new w #[.slice na nn nc, .slice sa sn sc, .slice ba bn bc, .slice ga gn gc, .slice la ln lc, .slice ta tn tc] 29
  generalize hW1 : w.alloc (.cells #[.slice na nn nc, .slice sa sn sc, .slice ba bn bc, .slice ga gn gc, .slice la ln lc, .slice ta tn tc] 29) = W1 at *
  have B2 := belowA B1 (.cells #[.string node, .string rbr, .slice za zn zc] 44)
  have K2 := K1.alloc (.cells #[.string node, .string rbr, .slice za zn zc] 44)
  have L2 := Blk.new W1 #[.string node, .string rbr, .slice za zn zc] 44
  generalize hW2 : W1.alloc (.cells #[.string node, .string rbr, .slice za zn zc] 44) = W2 at *
  have B3 := Lib.hid (belowA B2 (.cells #[.string pbr, .int .i64 part] 31))
  have K3 := Lib.hid (K2.alloc (.cells #[.string pbr, .int .i64 part] 31))
  have L3 := Lib.hid (L2.alloc (.cells #[.string pbr, .int .i64 part] 31))
  have M3 := Lib.hid (Blk.new W2 #[.string pbr, .int .i64 part] 31)
  generalize hW3 : W2.alloc (.cells #[.string pbr, .int .i64 part] 31) = W3 at *
  clear B1 K1 B2 K2 L2
  have x0 := K3.out.cell 0 rfl
  have x1 := K3.out.cell 1 rfl
  have x2 := K3.out.cell 2 rfl
  have x3 := K3.out.cell 3 rfl
  have x4 := K3.out.cell 4 rfl
  have x5 := K3.out.cell 5 rfl
  have r0 := L3.out.cell 0 rfl
  have r1 := L3.out.cell 1 rfl
  have r2 := L3.out.cell 2 rfl
  have p0 := M3.out.cell 0 rfl
  have p1 := M3.out.cell 1 rfl
  have HA1 := Lib.hid (HA.out W3 B3.out)
  go_enter Try.func16, Try.ntmps16
  go_wp2_with fail
  refine HA1.out.mono ?_; rintro e w4 ⟨rfl, hb4⟩
  have B4 := Lib.hid (belowT B3.out hb4)
  have K4 := Lib.hid (below_blk hb4 K3.out K3.out.lt)
  have L4 := Lib.hid (below_blk hb4 L3.out L3.out.lt)
  have M4 := Lib.hid (below_blk hb4 M3.out M3.out.lt)
  clear x0 x1 x2 x3 x4 x5 r0 r1 r2 p0 p1
  clear HA HA1 hb4
  by_cases hF : F = 0
  · have g1 : (F != 0) = false := by simp [hF]
    have HR := Lib.hid (HE.out.trans (if_neg (fun h => h hF)))
    have HB1 := Lib.hid (HB.out hF w4 B4.out)
    have x0 := K4.out.cell 0 rfl
    have x1 := K4.out.cell 1 rfl
    have x2 := K4.out.cell 2 rfl
    have x3 := K4.out.cell 3 rfl
    have x4 := K4.out.cell 4 rfl
    have x5 := K4.out.cell 5 rfl
    have r0 := L4.out.cell 0 rfl
    have r1 := L4.out.cell 1 rfl
    have r2 := L4.out.cell 2 rfl
    have p0 := M4.out.cell 0 rfl
    have p1 := M4.out.cell 1 rfl
    clear hF HE HB
    go_wp2_with fail
    refine HB1.out.mono ?_; rintro e w5 ⟨rfl, hb5⟩
    have B5 := Lib.hid (belowT B4.out hb5)
    clear hb5
    cases gq
    · go_wp2_with fail
      go_ret2
      exact ⟨by rw [HR.out]; rfl, B5.out⟩
    · go_wp2_with fail
      go_ret2
      exact ⟨by rw [HR.out]; rfl, B5.out⟩
  · have g1 : (F != 0) = true := by simp [hF]
    have HR := Lib.hid (HE.out.trans (if_pos hF))
    clear hF HE HB
    go_wp2_with fail
    go_ret2
    exact ⟨by rw [HR.out]; rfl, B4.out⟩
end Go.Proofs.Ytplebibabcdipaa
