/- The law RecloseLocks: for every input; no condition. -/
import Derived.Test.YtjkgkoedkphnjaaRec7
namespace Go.Proofs.Ytjkgkoedkphnjaa
open Go.RowKit

/-- What the rounds of the law carry. -/
structure LInv (rc : Int) (k : Nat) (now : Int) (s : RS) : Prop where
  att : s.att = k
  rc : s.rc = rc
  le : s.now ≤ now
  n1 : s.state ≠ 1
  n3 : s.state ≠ 3
  til : s.state = 2 → now < s.til
  now0 : 0 ≤ now
  now1 : now ≤ 600000 * k
theorem LInv.pass {rc : Int} {k : Nat} {now : Int} {s : RS} (h : LInv rc k now s) : s.pass now = { s with now := now } := by
  unfold RS.pass
  rw [if_neg (fun c => by have := h.til c.1; omega)]
theorem LInv.ok {rc : Int} {k : Nat} {now : Int} {s : RS} (h : LInv rc k now s) (hk : k ≤ 4) : s.ok now = true := by
  have := h.le; have := h.now1
  unfold RS.ok; simp; omega
theorem lock_step {l : List Int} {rc : Int} {k : Nat} {now : Int} {s : RS} (h : LInv rc k now s) (hk : k < l.length) (h4 : l.length ≤ 4) (r1 : 1 ≤ rc) (d1 : 1 ≤ l.getD k 0) (d2 : l.getD k 0 ≤ 600000) :
    (s.trip l now).1 = 0 ∧ (s.trip l now).2.1 = 0 ∧ ((s.trip l now).2.2.tick (now + l.getD k 0 - 1)).1 = 0 ∧ ((s.trip l now).2.2.tick (now + l.getD k 0 - 1)).2.1 = 0 ∧
    (((s.trip l now).2.2.tick (now + l.getD k 0 - 1)).2.2.tick (now + l.getD k 0)).1 = 1 ∧ (((s.trip l now).2.2.tick (now + l.getD k 0 - 1)).2.2.tick (now + l.getD k 0)).2.1 = 0 ∧
    LInv rc (k + 1) (now + l.getD k 0) (((s.trip l now).2.2.tick (now + l.getD k 0 - 1)).2.2.tick (now + l.getD k 0)).2.2 := by
  have hm := h.now1
  have h0 := h.now0
  have hp := h.pass
  have ha := h.att
  have e1 : s.trip l now = (0, 0, { s with now := now, state := 1, til := now + l.getD k 0 }) := by
    unfold RS.trip
    rw [if_neg (by rw [h.ok (by omega)]; decide), if_neg (fun c => c.elim h.n1 h.n3), hp, if_neg (by show ¬ s.att = l.length; omega)]
    simp only [ha]
  rw [e1]
  generalize hD : l.getD k 0 = D at *
  have e2 : ({ s with now := now, state := 1, til := now + D } : RS).tick (now + D - 1) = (0, 0, { s with now := now + D - 1, state := 1, til := now + D }) := by
    unfold RS.tick
    rw [if_neg (by unfold RS.ok; simp; omega)]
    have e : ({ s with now := now, state := 1, til := now + D } : RS).pass (now + D - 1) = { s with now := now + D - 1, state := 1, til := now + D } := by
      unfold RS.pass; rw [if_neg (fun c => absurd c.1 (by show ¬ (1 : Int) = 2; decide))]
    rw [e, if_neg (fun c => by have := c.2; simp only at this; omega)]
  rw [show (((0 : Int), (0 : Int), ({ s with now := now, state := 1, til := now + D } : RS))).2.2 = ({ s with now := now, state := 1, til := now + D } : RS) from rfl, e2]
  have e3 : ({ s with now := now + D - 1, state := 1, til := now + D } : RS).tick (now + D) = (1, 0, { s with now := now + D, att := s.att + 1, state := 2, til := now + D + s.rc }) := by
    unfold RS.tick
    rw [if_neg (by unfold RS.ok; simp; omega)]
    have e : ({ s with now := now + D - 1, state := 1, til := now + D } : RS).pass (now + D) = { s with now := now + D, state := 1, til := now + D } := by
      unfold RS.pass; rw [if_neg (fun c => absurd c.1 (by show ¬ (1 : Int) = 2; decide))]
    rw [e, if_pos ⟨rfl, by simp only; omega⟩]
  rw [show (((0 : Int), (0 : Int), ({ s with now := now + D - 1, state := 1, til := now + D } : RS))).2.2 = ({ s with now := now + D - 1, state := 1, til := now + D } : RS) from rfl, e3]
  exact ⟨rfl, rfl, rfl, rfl, rfl, rfl, ⟨by show s.att + 1 = _; omega, h.rc, Int.le_refl _, by show ¬ (2 : Int) = 1; decide, by show ¬ (2 : Int) = 3; decide, fun _ => by have := h.rc; show now + D < now + D + s.rc; omega, by omega, by omega⟩⟩
theorem lock_end {l : List Int} {rc : Int} {now : Int} {s : RS} (h : LInv rc l.length now s) (h4 : l.length ≤ 4) :
    (s.trip l now).1 = 2 ∧ (s.trip l now).2.1 = 0 ∧ ((s.trip l now).2.2.trip l now).2.1 = 11 ∧ ((s.trip l now).2.2.trip l now).2.2.ok now = true := by
  have hp := h.pass
  have e1 : s.trip l now = (2, 0, { s with now := now, state := 3 }) := by
    unfold RS.trip
    rw [if_neg (by rw [h.ok h4]; decide), if_neg (fun c => c.elim h.n1 h.n3), hp, if_pos (by show s.att = l.length; exact h.att)]
  have hm := h.now1
  have e2 : ({ s with now := now, state := 3 } : RS).trip l now = (0, 11, { s with now := now, state := 3 }) := by
    unfold RS.trip
    rw [if_neg (by unfold RS.ok; simp; omega), if_pos (Or.inr rfl)]
  rw [e1, show (((2 : Int), (0 : Int), ({ s with now := now, state := 3 } : RS))).2.2 = ({ s with now := now, state := 3 } : RS) from rfl, e2]
  exact ⟨rfl, rfl, rfl, by unfold RS.ok; simp; omega⟩

/-- What the walk of the law carries: the device, and that what was there reads as before. -/
def LHas (w : World) (N b : Nat) (l : List Int) (s : RS) (W : World) : Prop := RDev N b l s W ∧ s.Wait l ∧ Below w.heap.size w W ∧ w.heap.size ≤ b
theorem LHas.go {w : World} {N b : Nat} {l : List Int} {s s' : RS} {W W' : World} (h : LHas w N b l s W) (k : RGo N b l s' W W') (hw : s'.Wait l) : LHas w N b l s' W' :=
  ⟨k.1, hw, But.below h.2.2.1 k.2 h.2.2.2 (Nat.le_refl _), h.2.2.2⟩

set_option maxRecDepth 100000 in
set_option maxHeartbeats 4000000 in
theorem locks_walk (v : Value) (l : List Int) (rc : Int) (w : World) (hv : IVal w v l) :
    Calls Try.prog 8 #[.agg #[v, .int .i64 rc]] w fun e w' => e = .returned (.bool true) ∧ Below w.heap.size w w' := by
  obtain ⟨a, cap, rfl⟩ := hv.slice
  by_cases h0 : recE l rc ≠ 0
  · have HC : Hid _ := Lib.hid (fun W (hW : Reads W (.slice a l.length cap) l.length (ints l)) => rnew_bad _ l rc W hW h0)
    have HK : Hid _ := Lib.hid (fun W (hW : Reads W (.slice a l.length cap) l.length (ints l)) => recCheck_c _ l rc W hW)
    have HV := Lib.hid hv
    have g0 : (recE l rc != 0) = true := by simpa using h0
    have g1 : (recE l rc == recE l rc) = true := by simp
    generalize recE l rc = E at *
    clear hv h0
    go_enter Try.func8, Try.ntmps8
    go_wp2_with fail
    refine (recloseWorks_c _).mono ?_; rintro e w1 ⟨rfl, b1⟩
    have B1 := Lib.hid (belowT (belowA (Below.refl _ w) (.cells #[.slice a l.length cap, .int .i64 rc] 41)) b1)
    have k1 := below_blk b1 (Blk.new w #[.slice a l.length cap, .int .i64 rc] 41) (by simp)
    have x0 : w1.cell? ⟨w.heap.size, 0, none⟩ = some (.slice a l.length cap) := k1.cell 0 rfl
    have x1 : w1.cell? ⟨w.heap.size, 1, none⟩ = some (.int .i64 rc) := k1.cell 1 rfl
    have K1 := Lib.hid k1
    clear b1 k1
    go_wp2_with fail
    refine (HC.out _ (HV.out.below B1.out)).mono ?_; rintro e w2 ⟨rfl, b2⟩
    have B2 := Lib.hid (belowT B1.out b2)
    have k2 := below_blk b2 K1.out K1.out.lt
    have x0 : w2.cell? ⟨w.heap.size, 0, none⟩ = some (.slice a l.length cap) := k2.cell 0 rfl
    have x1 : w2.cell? ⟨w.heap.size, 1, none⟩ = some (.int .i64 rc) := k2.cell 1 rfl
    clear b2 k2
    go_wp2_with fail
    refine (HK.out _ (HV.out.below B2.out)).mono ?_; rintro e w3 ⟨rfl, b3⟩
    have B3 := Lib.hid (belowT B2.out b3)
    clear b3
    go_wp2_with fail
    go_ret
    exact ⟨rfl, B3.out⟩
  have h0' : recE l rc = 0 := by omega
  obtain ⟨q1, q2, q3, q4, q5⟩ := recE_ok h0'
  have HC : Hid _ := Lib.hid (fun W (hW : Reads W (.slice a l.length cap) l.length (ints l)) => rnew_ok _ l rc W hW h0')
  have HV := Lib.hid hv
  have HStep : Hid _ := Lib.hid (fun k now s (h : LInv rc k now s) (hk : k < l.length) => lock_step h hk q2 q3 (q5 k hk).1 (q5 k hk).2)
  have HEnd : Hid _ := Lib.hid (fun now s (h : LInv rc l.length now s) => lock_end h q2)
  have HQ5 := Lib.hid q5
  have HI0 : Hid (LInv rc 0 0 (RS.fresh rc)) := ⟨rfl, rfl, Int.le_refl _, by show ¬ (0 : Int) = 1; decide, by show ¬ (0 : Int) = 3; decide, fun h => absurd h (by show ¬ (0 : Int) = 2; decide), Int.le_refl _, by omega⟩
  have HW0 : Hid ((RS.fresh rc).Wait l) := fun h => absurd h (by show ¬ (0 : Int) = 1; decide)
  obtain ⟨n, hN⟩ : ∃ n, l.length = n := ⟨_, rfl⟩
  have HN := Lib.hid hN
  have HV2 : Hid (Reads w (.slice a n cap) n (ints l)) := by show Reads _ _ _ _; rw [← hN]; exact hv
  rw [hN] at HC HEnd HStep q1 q2
  rw [hN]
  generalize RS.fresh rc = s0 at *
  clear hv h0 h0' q5 hN HV
  go_enter Try.func8, Try.ntmps8
  go_wp2_with fail
  refine (recloseWorks_c _).mono ?_; rintro e w1 ⟨rfl, b1⟩
  have B1 := Lib.hid (belowT (belowA (Below.refl _ w) (.cells #[.slice a n cap, .int .i64 rc] 41)) b1)
  have k1 := below_blk b1 (Blk.new w #[.slice a n cap, .int .i64 rc] 41) (by simp)
  have x0 : w1.cell? ⟨w.heap.size, 0, none⟩ = some (.slice a n cap) := k1.cell 0 rfl
  have x1 : w1.cell? ⟨w.heap.size, 1, none⟩ = some (.int .i64 rc) := k1.cell 1 rfl
  have K1 := Lib.hid k1
  clear b1 k1
  go_wp2_with fail
  refine (HC.out _ (HV2.out.below B1.out)).mono ?_; rintro e w2 ⟨b, rfl, hb0, hdev, b2⟩
  have B2 := Lib.hid (belowT B1.out b2)
  have k2 := below_blk b2 K1.out K1.out.lt
  have x0 : w2.cell? ⟨w.heap.size, 0, none⟩ = some (.slice a n cap) := k2.cell 0 rfl
  have HL0 : Hid (LHas w w2.heap.size b l s0 w2) := ⟨hdev, HW0.out, B2.out, Nat.le_trans B1.out.size hb0⟩
  clear b2 k2 hdev K1 x1 HC
  go_wp2_with fail
  go_loopw [42, 5] (fun i t wr => ∃ (k : Nat) (now : Int) (s : RS), k ≤ n ∧ i = .int .i64 k ∧ t = .int .i64 now ∧ LInv rc k now s ∧ LHas w w2.heap.size b l s wr) (fun i _ _ => n - (intOf i).toNat)
  case atStart => exact ⟨0, 0, s0, Nat.zero_le _, rfl, rfl, HI0.out, HL0.out⟩
  case round =>
    obtain ⟨k, now, s, hk, rfl, rfl, hi, hh⟩ := hrel
    have n0 := hi.now0
    have n1 := hi.now1
    have n2 : now ≤ 2400000 := by omega
    by_cases hlt : k < n
    · obtain ⟨b1, o1, c1, hvv, _, _, hl1, hc1⟩ := HV2.out.addr (by omega)
      simp only [Value.slice.injEq] at hvv
      obtain ⟨rfl, _, rfl⟩ := hvv
      have hkl : k < l.length := by rw [HN.out]; exact hlt
      have y0 := hc1 k _ (ints_get hkl)
      rw [← hh.2.2.1.cell (by exact hl1)] at y0
      obtain ⟨d1, d2⟩ := HQ5.out k hkl
      have hst := HStep.out k now s hi hlt
      generalize l.getD k 0 = D at *
      obtain ⟨t1, t2, t3, t4, t5, t6, t7⟩ := hst
      have HH := Lib.hid hh
      have HT := Lib.hid (rtrip_c w2.heap.size b l s now wr hh.1)
      rw [t1, t2] at HT
      have HTW := Lib.hid (RS.trip_wait hh.2.1 hh.1.ok now)
      generalize (s.trip l now).2.2 = s1 at *
      have T3 := Lib.hid t3
      have T4 := Lib.hid t4
      have T5 := Lib.hid t5
      have T6 := Lib.hid t6
      have T7 := Lib.hid t7
      clear hi hh hc1 t1 t2 t3 t4 t5 t6 t7
      go_wp2_with fail
      refine HT.out.mono ?_; rintro e w3 ⟨rfl, hg3⟩
      have HH3 := Lib.hid (HH.out.go hg3 HTW.out)
      have HK := Lib.hid (rtick_c w2.heap.size b l s1 (now + D - 1) w3 HH3.out.1 HTW.out)
      rw [T3.out, T4.out] at HK
      have HKW := Lib.hid (RS.tick_wait HTW.out (now + D - 1))
      generalize (s1.tick (now + D - 1)).2.2 = s2 at *
      clear hg3 HH HT y0 T3 T4
      go_wp2_with fail
      refine HK.out.mono ?_; rintro e w4 ⟨rfl, hg4⟩
      have HH4 := Lib.hid (HH3.out.go hg4 HKW.out)
      have HJ := Lib.hid (rtick_c w2.heap.size b l s2 (now + D) w4 HH4.out.1 HKW.out)
      rw [T5.out, T6.out] at HJ
      have HJW := Lib.hid (RS.tick_wait HKW.out (now + D))
      generalize (s2.tick (now + D)).2.2 = s3 at *
      clear hg4 HH3 HK T5 T6
      go_wp2_with fail
      refine HJ.out.mono ?_; rintro e w5 ⟨rfl, hg5⟩
      have HH5 := Lib.hid (HH4.out.go hg5 HJW.out)
      clear hg5 HH4 HJ
      go_wp2_with fail
      go_roundw
      case rel => exact ⟨k + 1, now + D, s3, by omega, by go_num, rfl, T7.out, HH5.out⟩
      case measure => simp [intOf]; omega
    · have hkn : k = n := by omega
      subst hkn
      obtain ⟨t1, t2, t3, t4⟩ := HEnd.out now s hi
      have HH := Lib.hid hh
      have HT := Lib.hid (rtrip_c w2.heap.size b l s now wr hh.1)
      rw [t1, t2] at HT
      have HTW := Lib.hid (RS.trip_wait hh.2.1 hh.1.ok now)
      generalize (s.trip l now).2.2 = s1 at *
      have T3 := Lib.hid t3
      have T4 := Lib.hid t4
      clear hi hh t1 t2 t3 t4
      go_wp2_with fail
      refine HT.out.mono ?_; rintro e w3 ⟨rfl, hg3⟩
      have HH3 := Lib.hid (HH.out.go hg3 HTW.out)
      have HK := Lib.hid (rtrip_c w2.heap.size b l s1 now w3 HH3.out.1)
      rw [T3.out] at HK
      have HKW := Lib.hid (RS.trip_wait HTW.out HH3.out.1.ok now)
      generalize (s1.trip l now).1 = z at *
      generalize (s1.trip l now).2.2 = s2 at *
      clear hg3 HH HT T3
      go_wp2_with fail
      refine HK.out.mono ?_; rintro e w4 ⟨rfl, hg4⟩
      have HH4 := Lib.hid (HH3.out.go hg4 HKW.out)
      have hd4 := HH4.out.1
      obtain ⟨g, off, cp, hblk, _⟩ := hd4
      have HR := Lib.hid (rreset_c _ s2 now T4.out b w4 hblk)
      have HB4 : Hid (∀ w5, But b w4 w5 → Below w.heap.size w w5) := fun w5 hw => But.below HH4.out.2.2.1 hw HH4.out.2.2.2 (Nat.le_refl _)
      clear hg4 HH3 HK hblk
      go_wp2_with fail
      refine HR.out.mono ?_; rintro e w5 ⟨rfl, hr5⟩
      have B5 := Lib.hid (HB4.out _ hr5.2)
      clear hr5
      go_wp2_with fail
      go_ret
      exact ⟨rfl, B5.out⟩
end Go.Proofs.Ytjkgkoedkphnjaa
