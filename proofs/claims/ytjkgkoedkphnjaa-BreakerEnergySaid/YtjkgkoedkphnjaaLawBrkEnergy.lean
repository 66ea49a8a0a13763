/- The law BreakerEnergy: as many closings as energy is stored for are possible at once, and a further one after the drive has stored energy again. For every input; no condition. -/
import Derived.Test.YtjkgkoedkphnjaaBrkLaws
namespace Go.Proofs.Ytjkgkoedkphnjaa
open Go.RowKit

/-- The breaker behind i closings and trips (D is the time of the last closing). -/
def eS (op cl ch st i : Int) (D : Int) : BS := if i = 0 then ⟨op, cl, ch, st, 0, 2, 0, false, st, 0⟩ else ⟨op, cl, ch, st, D + 1, 1, D + 1, false, st - i, 0⟩

theorem BS.pass_empty {s : BS} (t : Int) (hj : s.jam = false) (he : t - s.chd < s.ch) : s.pass t = ({ s with now := t } : BS).move := by
  unfold BS.pass; simp only [hj, Bool.false_eq_true, if_false]
  refine BS.store_stop (fun h' => ?_)
  have e : ∀ u : BS, u.move.chd = u.chd ∧ u.move.ch = u.ch := by
    intro u; unfold BS.move; split
    · exact ⟨rfl, rfl⟩
    · split <;> exact ⟨rfl, rfl⟩
  have h2 := h'.2
  rw [(e _).1, (e _).2] at h2
  simp only at h2
  omega

theorem energy_round (op cl ch st i D N : Int) (hk : KindOk op cl ch st) (hc : 3 * (op + 1) < ch) (i0 : 0 ≤ i) (i1 : i < st) (hN : i = 0 → N = 0) (hD : i ≠ 0 → N = D + (op + 1)) (hN2 : N ≤ 2 * (op + 1)) :
    ∃ u : BS, (eS op cl ch st i D).close N = (0, u) ∧ u.now = N ∧ u.trip (N + 1) = (0, eS op cl ch st (i + 1) N) := by
  obtain ⟨k1, k2, k3, k4, k5, k6, k7, k8⟩ := hk
  have key : (eS op cl ch st i D).close N = (0, ⟨op, cl, ch, st, N, 3, N, false, st - i - 1, 0⟩) := by
    by_cases h : i = 0
    · have hN' := hN h
      subst h; subst hN'
      unfold eS; rw [if_pos rfl]
      have e : (⟨op, cl, ch, st, 0, 2, 0, false, st, 0⟩ : BS).pass 0 = ⟨op, cl, ch, st, 0, 2, 0, false, st, 0⟩ := by
        rw [BS.pass_full _ rfl rfl]; unfold BS.move; simp
      unfold BS.close; simp only; rw [e]; simp; omega
    · have hD' := hD h
      unfold eS; rw [if_neg h]
      have e : (⟨op, cl, ch, st, D + 1, 1, D + 1, false, st - i, 0⟩ : BS).pass N = ⟨op, cl, ch, st, N, 2, D + 1, false, st - i, 0⟩ := by
        rw [BS.pass_empty _ rfl (by show N - 0 < ch; omega)]; unfold BS.move; simp only [true_and]; rw [if_pos (by omega)]
      unfold BS.close; simp only; rw [e]; simp only
      rw [if_pos trivial, if_neg (by omega), if_neg (by omega)]
  refine ⟨_, key, rfl, ?_⟩
  have e : ∃ x, (x = 0 ∨ x = 3) ∧ (⟨op, cl, ch, st, N, 3, N, false, st - i - 1, 0⟩ : BS).pass (N + 1) = ⟨op, cl, ch, st, N + 1, x, N, false, st - i - 1, 0⟩ := by
    rw [BS.pass_empty _ rfl (by show N + 1 - 0 < ch; omega)]; unfold BS.move; simp only [true_and]
    rw [if_neg (by simp)]
    by_cases h : cl ≤ N + 1 - N
    · rw [if_pos h]; exact ⟨0, Or.inl rfl, rfl⟩
    · rw [if_neg h]; exact ⟨3, Or.inr rfl, rfl⟩
  obtain ⟨x, hx, e⟩ := e
  unfold BS.trip; simp only; rw [e, if_pos (by exact hx)]
  unfold eS; rw [if_neg (by omega), show st - (i + 1) = st - i - 1 from by omega]

theorem energy_end (op cl ch st D : Int) (hk : KindOk op cl ch st) (hc : 3 * (op + 1) < ch) (hD : D ≤ 2 * (op + 1)) :
    ((eS op cl ch st st D).pass (ch - 1)) = ⟨op, cl, ch, st, ch - 1, 2, D + 1, false, 0, 0⟩ ∧
    ((⟨op, cl, ch, st, ch - 1, 2, D + 1, false, 0, 0⟩ : BS).close (ch - 1)) = (8, ⟨op, cl, ch, st, ch - 1, 2, D + 1, false, 0, 0⟩) ∧
    ((⟨op, cl, ch, st, ch - 1, 2, D + 1, false, 0, 0⟩ : BS).pass ch) = ⟨op, cl, ch, st, ch, 2, D + 1, false, 1, ch⟩ ∧
    ((⟨op, cl, ch, st, ch, 2, D + 1, false, 1, ch⟩ : BS).close ch).1 = 0 := by
  obtain ⟨k1, k2, k3, k4, k5, k6, k7, k8⟩ := hk
  refine ⟨?_, ?_, ?_, ?_⟩
  · unfold eS; rw [if_neg (by omega), BS.pass_empty _ rfl (by show ch - 1 - 0 < ch; omega)]; unfold BS.move; simp only [true_and]; rw [if_pos (by omega), show st - st = 0 from by omega]
  · have e : (⟨op, cl, ch, st, ch - 1, 2, D + 1, false, 0, 0⟩ : BS).pass (ch - 1) = ⟨op, cl, ch, st, ch - 1, 2, D + 1, false, 0, 0⟩ := by
      rw [BS.pass_empty _ rfl (by show ch - 1 - 0 < ch; omega)]; unfold BS.move; simp
    unfold BS.close; simp only; rw [e]; simp
  · have e1 : (⟨op, cl, ch, st, ch, 2, D + 1, false, 0, 0⟩ : BS).move = ⟨op, cl, ch, st, ch, 2, D + 1, false, 0, 0⟩ := by unfold BS.move; simp
    have e2 : (⟨op, cl, ch, st, ch, 2, D + 1, false, 0, 0⟩ : BS).store1 ch = ⟨op, cl, ch, st, ch, 2, D + 1, false, 1, ch⟩ := by
      unfold BS.store1; simp only; rw [if_pos (by omega)]; simp
    have e3 : (⟨op, cl, ch, st, ch, 2, D + 1, false, 1, ch⟩ : BS).store1 ch = ⟨op, cl, ch, st, ch, 2, D + 1, false, 1, ch⟩ := by
      unfold BS.store1; simp only; rw [if_neg (by omega)]
    unfold BS.pass; simp only [Bool.false_eq_true, if_false]; rw [e1]; unfold BS.store; rw [e2, e3, e3]
  · have e : (⟨op, cl, ch, st, ch, 2, D + 1, false, 1, ch⟩ : BS).pass ch = ⟨op, cl, ch, st, ch, 2, D + 1, false, 1, ch⟩ := by
      rw [BS.pass_empty _ rfl (by show ch - ch < ch; omega)]; unfold BS.move; simp
    unfold BS.close; simp only; rw [e]; simp

/-- The loop of BreakerEnergy: what it carries. -/
def DOk (op i D : Int) : Prop := (i = 1 → D = 0) ∧ (i = 2 → D = op + 1) ∧ (i = 3 → D = 2 * (op + 1))
def EnRel (op cl ch st : Int) (nb : Nat) (w : World) (k : Nat) (v : Value) (wr : World) : Prop :=
  ∃ i D : Int, v = .int .i64 i ∧ 0 ≤ i ∧ i ≤ st ∧ (st - i).toNat = k ∧ DOk op i D ∧ (eS op cl ch st i D).Ok ∧ Has w nb (eS op cl ch st i D) wr ∧ Blk wr w.heap.size #[.int .i64 op, .int .i64 cl, .int .i64 ch, .int .i64 st] 23

theorem eS_now (op cl ch st i D : Int) : (eS op cl ch st i D).now = if i = 0 then 0 else D + 1 := by unfold eS; split <;> rfl

/-- A round, whole: the closing at N and the trip at N + 1. -/
theorem en_step {op cl ch st i D N : Int} {nb : Nat} {w wr : World} (hk : KindOk op cl ch st) (hc : 3 * (op + 1) < ch) (i0 : 0 ≤ i) (i1 : i < st) (hD : DOk op i D) (hN : N = i * (op + 1))
    (ho : (eS op cl ch st i D).Ok) (hh : Has w nb (eS op cl ch st i D) wr) (hp : Blk wr w.heap.size #[.int .i64 op, .int .i64 cl, .int .i64 ch, .int .i64 st] 23) (hne : w.heap.size ≠ nb) :
    ∃ u : BS, (eS op cl ch st i D).close N = (0, u) ∧ u.now = N ∧ u.trip (N + 1) = (0, eS op cl ch st (i + 1) N) ∧ u.Ok ∧ (eS op cl ch st i D).now ≤ N ∧ 0 ≤ N ∧ N ≤ 20002 ∧
      (∀ w1 w2, BAt nb u wr w1 → BAt nb (eS op cl ch st (i + 1) N) w1 w2 → EnRel op cl ch st nb w (st - (i + 1)).toNat (.int .i64 (i + 1)) w2) := by
  obtain ⟨k1, k2, k3, k4, k5, k6, k7, k8⟩ := hk
  have hi : i = 0 ∨ i = 1 ∨ i = 2 := by omega
  obtain ⟨d1, d2, d3⟩ := hD
  have n0 : (i = 0 → N = 0) ∧ (i ≠ 0 → N = D + (op + 1)) ∧ N ≤ 2 * (op + 1) ∧ 0 ≤ N ∧ (eS op cl ch st i D).now ≤ N ∧ DOk op (i + 1) N := by
    rw [eS_now]
    rcases hi with rfl | rfl | rfl
    · exact ⟨fun _ => by omega, fun h => by omega, by omega, by omega, by rw [if_pos rfl]; omega, fun _ => by omega, fun h => by omega, fun h => by omega⟩
    · have := d1 rfl
      exact ⟨fun _ => by omega, fun h => by omega, by omega, by omega, by rw [if_neg (by decide)]; omega, fun h => by omega, fun h => by omega, fun h => by omega⟩
    · have := d2 rfl
      exact ⟨fun _ => by omega, fun h => by omega, by omega, by omega, by rw [if_neg (by decide)]; omega, fun h => by omega, fun h => by omega, fun h => by omega⟩
  obtain ⟨n1, n2, n3, n4, n5, n6⟩ := n0
  obtain ⟨u, u1, u2, u3⟩ := energy_round op cl ch st i D N ⟨k1, k2, k3, k4, k5, k6, k7, k8⟩ hc i0 i1 n1 n2 n3
  have uo := BS.close_ok ho N n5 (by omega)
  rw [u1] at uo
  have vo := BS.trip_ok uo (N + 1) (by show u.now ≤ _; omega) (by omega)
  rw [u3] at vo
  exact ⟨u, u1, u2, u3, uo, n5, n4, by omega, fun w1 w2 h1 h2 => ⟨i + 1, N, rfl, by omega, by omega, rfl, n6, vo, (hh.go h1).go h2, h2.2.blk (h1.2.blk hp hne) hne⟩⟩

set_option maxHeartbeats 4000000 in
theorem energy_walk (op cl ch st : Int) (w : World) :
    Calls Try.prog 4 #[.agg #[.int .i64 op, .int .i64 cl, .int .i64 ch, .int .i64 st]] w fun e w' => e = .returned (.bool true) ∧ Below w.heap.size w w' := by
  go_enter Try.func4, Try.ntmps4
  go_wp2_with fail
  refine (breakerWorks_c _).mono ?_; rintro e w1 ⟨rfl, a1⟩
  have HP := Lib.hid (Below.blk a1 (Blk.new w #[.int .i64 op, .int .i64 cl, .int .i64 ch, .int .i64 st] 23) (by simp))
  have q0 := HP.out.cell 0 rfl
  have q1 := HP.out.cell 1 rfl
  have q2 := HP.out.cell 2 rfl
  have q3 := HP.out.cell 3 rfl
  have H1 : Hid (Below w.heap.size w w1) := ((Below.refl _ _).alloc (Nat.le_refl _) _).trans (a1.mono (by simp))
  clear a1
  by_cases hk : KindOk op cl ch st
  · have b1 : 1 ≤ op ∧ op ≤ 10000 ∧ 1 ≤ ch ∧ ch ≤ 100000 ∧ 1 ≤ st ∧ st ≤ 3 := ⟨hk.1, hk.2.1, hk.2.2.2.2.1, hk.2.2.2.2.2.1, hk.2.2.2.2.2.2.1, hk.2.2.2.2.2.2.2⟩
    have HK := Lib.hid hk
    clear hk
    go_wp2_with fail
    refine (new_ok op cl ch st false HK.out _).mono ?_; rintro e w2 ⟨nb, rfl, a1, a2, a3⟩
    have HP2 := Lib.hid (Below.blk a3 HP.out (HP.out.lt))
    have HS2 := Lib.hid (Has.made H1.out a1 a2 a3)
    have HN := Lib.hid (show w.heap.size ≠ nb by have := HP.out.lt; omega)
    have O2 := Lib.hid (BS.fresh_ok HK.out false)
    clear a1 a2 a3 q0 q1 q2 q3
    have q0 := HP2.out.cell 0 rfl
    have q1 := HP2.out.cell 1 rfl
    have q2 := HP2.out.cell 2 rfl
    have q3 := HP2.out.cell 3 rfl
    by_cases hc : ch ≤ 3 * (op + 1)
    · go_wp2_with fail
      go_ret
      exact ⟨rfl, HS2.out.2.2⟩
    · have HS : Hid (EnRel op cl ch st nb w 3 (.int .i64 0) w2 ∨ EnRel op cl ch st nb w 2 (.int .i64 0) w2 ∨ EnRel op cl ch st nb w 1 (.int .i64 0) w2) := by
        have : st = 3 ∨ st = 2 ∨ st = 1 := by omega
        have h0 : EnRel op cl ch st nb w st.toNat (.int .i64 0) w2 := ⟨0, 0, rfl, by omega, by omega, by omega, ⟨fun h => by omega, fun h => by omega, fun h => by omega⟩, O2.out, HS2.out, HP2.out⟩
        rcases this with rfl | rfl | rfl
        · exact Or.inl h0
        · exact Or.inr (Or.inl h0)
        · exact Or.inr (Or.inr h0)
      have HS' : Hid (∃ k, EnRel op cl ch st nb w k (.int .i64 0) w2) := by rcases HS.out with h | h | h <;> exact ⟨_, h⟩
      clear HS HS2 O2 HP2
      obtain ⟨k0, hs0⟩ := HS'.out
      clear HS'
      have HS0 := Lib.hid hs0
      clear hs0
      go_wp2_with fail
      go_loopg [41] k0 (fun k v wr => EnRel op cl ch st nb w k v wr)
      case atStart => exact HS0.out
      case round =>
        obtain ⟨i, D, rfl, i0, i1, ik, hD, ho, hh, hp⟩ := hrel
        clear q0 q1 q2 q3
        have q0 := hp.cell 0 rfl
        have q1 := hp.cell 1 rfl
        have q2 := hp.cell 2 rfl
        have q3 := hp.cell 3 rfl
        by_cases hlt : i < st
        · obtain ⟨u, u1, u2, u3, uo, un, un0, un1, ur⟩ := en_step (nb := nb) (w := w) (wr := wr) HK.out (by omega) i0 hlt hD rfl ho hh hp HN.out
          have hmul : 0 ≤ i * (op + 1) ∧ i * (op + 1) ≤ 20002 := ⟨un0, un1⟩
          have R := Lib.hid (And.intro (And.intro u1 u2) (And.intro u3 (And.intro uo (And.intro un ur))))
          have HH := Lib.hid (And.intro ho (And.intro hh hp))
          have IK := Lib.hid ik
          clear u1 u2 u3 uo un ur ho hh hp hD ik
          go_wp2_with fail
          generalize i * (op + 1) = N at *
          refine (close_c _ HH.out.1 N R.out.2.2.2.1 (by omega) nb _ HH.out.2.1.2.1).mono ?_; rintro e w3 ⟨rfl, a1⟩
          have P3 := Lib.hid (a1.2.blk HH.out.2.2 HN.out)
          rw [R.out.1.1] at a1 ⊢
          have A1 := Lib.hid a1
          clear a1 q0 q1 q2 q3
          go_wp2_with fail
          refine (trip_c _ R.out.2.2.1 (N + 1) (by have := R.out.1.2; omega) (by omega) nb _ A1.out.1).mono ?_; rintro e w4 ⟨rfl, a1⟩
          rw [R.out.2.1] at a1 ⊢
          have A2 := Lib.hid a1
          clear a1
          go_wp2_with fail
          go_roundg (st - (i + 1)).toNat
          case measure => have := IK.out; omega
          case rel => exact R.out.2.2.2.2 _ _ A1.out A2.out
        · obtain rfl : i = st := by omega
          have hD2 : D ≤ 2 * (op + 1) := by
            obtain ⟨d1, d2, d3⟩ := hD
            have : i = 1 ∨ i = 2 ∨ i = 3 := by omega
            rcases this with h | h | h
            · have := d1 h; omega
            · have := d2 h; omega
            · have := d3 h; omega
          obtain ⟨l1, l2, l3, l4⟩ := energy_end op cl ch i D HK.out (by omega) hD2
          have hn : (eS op cl ch i i D).now ≤ ch - 1 := by rw [eS_now, if_neg (by omega)]; omega
          have L1 := Lib.hid l1
          have L2 := Lib.hid l2
          have L3 := Lib.hid l3
          have L4 := Lib.hid l4
          have HH := Lib.hid (And.intro ho (And.intro hh (And.intro hp hn)))
          clear l1 l2 l3 l4 ho hh hp hD ik hn hD2
          go_wp2_with fail
          refine (energy_c _ HH.out.1 (ch - 1) HH.out.2.2.2 (by omega) nb _ HH.out.2.1.2.1).mono ?_; rintro e w3 ⟨rfl, a1⟩
          have P3 := Lib.hid (a1.2.blk HH.out.2.2.1 HN.out)
          have H3 := Lib.hid (HH.out.2.1.go a1)
          have o3 := (BS.pass_ok HH.out.1 (ch - 1) HH.out.2.2.2 (by omega)).1
          rw [L1.out] at H3 o3 ⊢
          have O3 := Lib.hid o3
          clear a1 q0 q1 q2 q3 o3
          have q2 := P3.out.cell 2 rfl
          go_wp2_with fail
          refine (close_c _ O3.out (ch - 1) (by show ch - 1 ≤ ch - 1; omega) (by omega) nb _ H3.out.2.1).mono ?_; rintro e w4 ⟨rfl, a1⟩
          rw [L2.out] at a1 ⊢
          have P4 := Lib.hid (a1.2.blk P3.out HN.out)
          have H4 := Lib.hid (H3.out.go a1)
          clear a1 q2
          have q2 := P4.out.cell 2 rfl
          go_wp2_with fail
          refine (energy_c _ O3.out ch (by show ch - 1 ≤ ch; omega) (by omega) nb _ H4.out.2.1).mono ?_; rintro e w5 ⟨rfl, a1⟩
          have P5 := Lib.hid (a1.2.blk P4.out HN.out)
          have H5 := Lib.hid (H4.out.go a1)
          have o5 := (BS.pass_ok O3.out ch (by show ch - 1 ≤ ch; omega) (by omega)).1
          rw [L3.out] at H5 o5 ⊢
          have O5 := Lib.hid o5
          clear a1 q2 o5
          have q2 := P5.out.cell 2 rfl
          go_wp2_with fail
          refine (close_c _ O5.out ch (by show ch ≤ ch; omega) (by omega) nb _ H5.out.2.1).mono ?_; rintro e w6 ⟨rfl, a1⟩
          have H6 := Lib.hid (H5.out.go a1)
          clear a1
          rw [L4.out]
          go_wp2_with fail
          go_ret
          exact ⟨rfl, H6.out.2.2⟩
  · have HK := Lib.hid hk
    clear hk
    go_wp2_with fail
    refine (new_bad op cl ch st false HK.out _).mono ?_; rintro e w2 ⟨rfl, a1⟩
    have HP2 := Lib.hid (Below.blk a1 HP.out (HP.out.lt))
    have H2 := Lib.hid (H1.out.trans (a1.mono H1.out.size))
    clear a1 q0 q1 q2 q3
    have r0 := HP2.out.cell 0 rfl
    have r1 := HP2.out.cell 1 rfl
    have r2 := HP2.out.cell 2 rfl
    have r3 := HP2.out.cell 3 rfl
    go_wp2_with fail
    refine (check_c op cl ch st _).mono ?_; rintro e w3 ⟨rfl, a1⟩
    have H3 := Lib.hid (H2.out.trans (a1.mono H2.out.size))
    clear a1
    rw [kindE_bad HK.out]
    go_wp2_with fail
    go_ret
    exact ⟨rfl, H3.out⟩
end Go.Proofs.Ytjkgkoedkphnjaa
