/- Over-current characteristics: the contracts of Time and Least. -/
import Derived.Test.YtjkgkoedkphnjaaCrv2
namespace Go.Proofs.Ytjkgkoedkphnjaa
open Go.RowKit

/-- What Time returns. -/
def Pts.timeR (l : Pts) (pk cur : Int) : Int × Int :=
  if l.err ≠ 0 then (0, l.err)
  else if pk < 1 ∨ 1000000 < pk ∨ cur < 0 ∨ 1000000 < cur then (0, 4)
  else match l.time pk cur with
    | none => (0, 8)
    | some t => (t, 0)
def two (r : Int × Int) : Value := .tuple #[.int .i64 r.1, .int .i64 r.2]

/-- A value that reads as a permitted characteristic is a slice at an address. -/
theorem PVal.addr {w : World} {v : Value} {l : Pts} (h : PVal w v l) (hl : l.Ok) : ∃ b off cap, v = .slice (some ⟨b, off, none⟩) l.length cap ∧ PAt w b off l := by
  rcases h with ⟨h, _⟩ | ⟨b, off, cap, h1, _, _, h4⟩
  · have := hl.len1; rw [h] at this; simp at this
  · exact ⟨b, off, cap, h1, h4⟩

theorem PVal.slice {w : World} {v : Value} {l : Pts} (h : PVal w v l) : ∃ a len cap, v = .slice a len cap := by
  rcases h with ⟨_, a, cap, h⟩ | ⟨b, off, cap, h1, _⟩
  · exact ⟨a, 0, cap, h⟩
  · exact ⟨_, _, cap, h1⟩

set_option maxHeartbeats 1000000 in
theorem time_c (v : Value) (l : Pts) (pk cur : Int) (w : World) (hv : PVal w v l) :
    Calls Try.prog 33 #[v, .int .i64 pk, .int .i64 cur] w fun e w' => e = .returned (two (l.timeR pk cur)) ∧ Below w.heap.size w w' := by
  have hc := curveCheck_c v l w hv
  by_cases he : l.err = 0
  · have hl := (Pts.err_zero l).1 he
    rw [he] at hc
    by_cases hr : pk < 1 ∨ 1000000 < pk ∨ cur < 0 ∨ 1000000 < cur
    · have HT : Hid (l.timeR pk cur = (0, 4)) := by show _ = _; unfold Pts.timeR; rw [if_neg (by simp [he]), if_pos hr]
      generalize l.timeR pk cur = R at *
      have HC := Lib.hid hc
      clear hc he hv hl
      go_enter Try.func33, Try.ntmps33
      go_wp2_with fail
      refine HC.out.mono ?_; rintro e w1 ⟨rfl, hb⟩
      have HB := Lib.hid hb
      clear hb
      go_wp2_with fail
      all_goals
        go_ret2
        rw [HT.out]
        exact ⟨rfl, HB.out⟩
    · have HT : Hid (l.timeR pk cur = match l.time pk cur with | none => (0, 8) | some t => (t, 0)) := by show _ = _; unfold Pts.timeR; rw [if_neg (by simp [he]), if_neg hr]
      obtain ⟨b, off, cap, rfl, hp⟩ := hv.addr hl
      have ha : ∀ w1, Below w.heap.size w w1 → _ := fun w1 hb => at_c l hl pk cur (by omega) (by omega) (by omega) (by omega) b off cap w1 (hp.below hb)
      have HA := Lib.hid ha
      clear ha hv
      have r1 : ¬ pk < 1 := by omega
      have r2 : ¬ 1000000 < pk := by omega
      have r3 : ¬ cur < 0 := by omega
      have r4 : ¬ 1000000 < cur := by omega
      clear hr
      generalize l.timeR pk cur = R at *
      have HC := Lib.hid hc
      clear hc he hl hp
      cases ht : l.time pk cur with
      | none =>
        rw [ht] at HA HT
        clear ht
        go_enter Try.func33, Try.ntmps33
        go_wp2_with fail
        refine HC.out.mono ?_; rintro e w1 ⟨rfl, hb⟩
        have HB := Lib.hid hb
        clear hb
        go_wp2_with fail
        refine (HA.out w1 HB.out).mono ?_; rintro e w2 ⟨rfl, hb⟩
        have HB2 := Lib.hid (belowT HB.out hb)
        clear hb
        unfold tval
        go_wp2_with fail
        go_ret2
        rw [HT.out]
        exact ⟨rfl, HB2.out⟩
      | some t =>
        rw [ht] at HA HT
        clear ht
        go_enter Try.func33, Try.ntmps33
        go_wp2_with fail
        refine HC.out.mono ?_; rintro e w1 ⟨rfl, hb⟩
        have HB := Lib.hid hb
        clear hb
        go_wp2_with fail
        refine (HA.out w1 HB.out).mono ?_; rintro e w2 ⟨rfl, hb⟩
        have HB2 := Lib.hid (belowT HB.out hb)
        clear hb
        unfold tval
        go_wp2_with fail
        go_ret2
        rw [HT.out]
        exact ⟨rfl, HB2.out⟩
  · have HT : Hid (l.timeR pk cur = (0, l.err)) := by show _ = _; unfold Pts.timeR; rw [if_pos he]
    have g0 : (l.err != 0) = true := by simpa using he
    generalize l.timeR pk cur = R at *
    generalize l.err = E at *
    have HC := Lib.hid hc
    clear hc he hv
    go_enter Try.func33, Try.ntmps33
    go_wp2_with fail
    refine HC.out.mono ?_; rintro e w1 ⟨rfl, hb⟩
    have HB := Lib.hid hb
    clear hb
    go_wp2_with fail
    go_ret2
    rw [HT.out]
    exact ⟨rfl, HB.out⟩

/-- Whether a relay operates in time at a current. -/
def Pts.inT (l : Pts) (pk tm : Int) (k : Int) : Bool := match l.time pk k with | none => false | some t => decide (t ≤ tm)
/-- The bisection over all currents, closed to evaluation. -/
@[irreducible] def bisM (P : Int → Bool) : Int := bis P 1000001 0 1000001
theorem search_m (P : Int → Bool) (g : FuncId) (caps : Array Value) (w : World)
    (eg : ∀ (args : Array Value) (w : World), (callFunc g args).run Try.prog w = .ok (.enter g args) w)
    (hf : Hid (∀ (k : Int) (W : World), 0 ≤ k → k < 1000001 → Below w.heap.size w W → Calls Try.prog g (#[.int .i64 k] ++ caps) W fun e w' => e = .returned (.bool (P k)) ∧ Below w.heap.size w w')) :
    Calls Try.prog 53 #[.int .i64 1000001, .func (.func g) #[] caps] w fun e w' => e = .returned (.int .i64 (bisM P)) ∧ Below w.heap.size w w' := by
  unfold bisM
  have e : (1000001 : Int).toNat = 1000001 := rfl
  have := search_c 1000001 (by decide) (by decide) P g caps w eg hf
  rw [e] at this
  exact this
theorem bisM_spec (P : Int → Bool) (mono : ∀ x y, 0 ≤ x → x ≤ y → y < 1000001 → P x = true → P y = true) :
    0 ≤ bisM P ∧ bisM P ≤ 1000001 ∧ (∀ x, 0 ≤ x → x < bisM P → P x = false) ∧ (bisM P < 1000001 → P (bisM P) = true) := by
  unfold bisM
  exact bis_spec P 1000001 0 1000001 (by decide) (by decide) mono

/-- What Least returns. -/
def Pts.leastR (l : Pts) (pk tm : Int) : Int × Int :=
  if l.err ≠ 0 then (0, l.err)
  else if pk < 1 ∨ 1000000 < pk ∨ tm < 0 then (0, 4)
  else if 1000000 < bisM (l.inT pk tm) then (0, 8) else (bisM (l.inT pk tm), 0)

set_option maxHeartbeats 1000000 in
/-- The closure of Least. -/
theorem least1_c (l : Pts) (hl : l.Ok) (pk tm k : Int) (p1 : 1 ≤ pk) (p2 : pk ≤ 1000000) (q1 : 0 ≤ k) (q2 : k ≤ 1000000) (b off cap b3 b4 b5 : Nat) (w : World) (hp : PAt w b off l)
    (c3 : w.cell? ⟨b3, 0, none⟩ = some (.slice (some ⟨b, off, none⟩) l.length cap)) (c4 : w.cell? ⟨b4, 0, none⟩ = some (.int .i64 pk)) (c5 : w.cell? ⟨b5, 0, none⟩ = some (.int .i64 tm)) (h5 : b5 < w.heap.size) :
    Calls Try.prog 54 #[.int .i64 k, .pointer (some ⟨b3, 0, none⟩), .pointer (some ⟨b4, 0, none⟩), .pointer (some ⟨b5, 0, none⟩)] w fun e w' =>
      e = .returned (.bool (l.inT pk tm k)) ∧ Below w.heap.size w w' := by
  have ha := at_c l hl pk k p1 p2 q1 q2 b off cap w hp
  have HT : Hid (l.inT pk tm k = match l.time pk k with | none => false | some t => decide (t ≤ tm)) := rfl
  generalize l.inT pk tm k = R at *
  generalize l.time pk k = X at *
  have HA := Lib.hid ha
  clear ha hp
  obtain ⟨N, hN⟩ : ∃ N, l.length = N := ⟨_, rfl⟩
  rw [hN] at HA c3
  clear hN
  have h5' : w.cell? ⟨b5, 0, none⟩ = some (.int .i64 tm) := c5
  go_enter Try.func54, Try.ntmps54
  go_wp2_with fail
  refine HA.out.mono ?_; rintro e w1 ⟨rfl, hb⟩
  have d5 : w1.cell? ⟨b5, 0, none⟩ = some (.int .i64 tm) := (hb.cell (p := ⟨b5, 0, none⟩) h5).trans c5
  have HB := Lib.hid hb
  clear hb
  cases X with
  | none =>
    unfold tval
    go_wp2_with fail
    go_ret
    rw [HT.out]
    exact ⟨rfl, HB.out⟩
  | some t =>
    unfold tval
    go_wp2_with fail
    go_ret
    rw [HT.out]
    exact ⟨rfl, HB.out⟩

set_option maxHeartbeats 1000000 in
theorem least_c (v : Value) (l : Pts) (pk tm : Int) (w : World) (hv : PVal w v l) :
    Calls Try.prog 35 #[v, .int .i64 pk, .int .i64 tm] w fun e w' => e = .returned (two (l.leastR pk tm)) ∧ Below w.heap.size w w' := by
  obtain ⟨sa, sl, sc, rfl⟩ := hv.slice
  generalize hvv : Value.slice sa sl sc = v at *
  have hv3 : PVal (((w.alloc (.cells #[v] 53)).alloc (.cells #[.int .i64 pk] 3)).alloc (.cells #[.int .i64 tm] 3)) v l :=
    hv.below (belowA (belowA (belowA (Below.refl _ _) _) _) _)
  have hc := curveCheck_c v l _ hv3
  have B3 := (((Blk.new w #[v] 53).alloc (.cells #[.int .i64 pk] 3)).alloc (.cells #[.int .i64 tm] 3))
  have B4 := ((Blk.new (w.alloc (.cells #[v] 53)) #[.int .i64 pk] 3).alloc (.cells #[.int .i64 tm] 3))
  have B5 := (Blk.new ((w.alloc (.cells #[v] 53)).alloc (.cells #[.int .i64 pk] 3)) #[.int .i64 tm] 3)
  have BW : Below w.heap.size w (((w.alloc (.cells #[v] 53)).alloc (.cells #[.int .i64 pk] 3)).alloc (.cells #[.int .i64 tm] 3)) :=
    belowA (belowA (belowA (Below.refl _ _) _) _) _
  simp only [World.size_alloc] at B4 B5
  have HB := Lib.hid (And.intro B3 (And.intro B4 (And.intro B5 BW)))
  clear B3 B4 B5 BW hv
  subst hvv
  have HC := Lib.hid hc
  have HV := Lib.hid hv3
  clear hc hv3
  have HT : Hid (l.leastR pk tm = if l.err ≠ 0 then (0, l.err)
    else if pk < 1 ∨ 1000000 < pk ∨ tm < 0 then (0, 4)
    else if 1000000 < bisM (l.inT pk tm) then (0, 8) else (bisM (l.inT pk tm), 0)) := rfl
  generalize l.leastR pk tm = R at *
  have HE := Lib.hid (Pts.err_zero l)
  generalize l.err = E at *
  go_enter Try.func35, Try.ntmps35
  go_wp2_with fail
  refine HC.out.mono ?_; rintro e w1 ⟨rfl, hb⟩
  have HB1 := Lib.hid (And.intro (below_blk hb HB.out.1 HB.out.1.lt) (And.intro (below_blk hb HB.out.2.1 HB.out.2.1.lt) (And.intro (below_blk hb HB.out.2.2.1 HB.out.2.2.1.lt) (belowT HB.out.2.2.2 hb))))
  have HV1 := Lib.hid (HV.out.below hb)
  clear hb HB HV HC
  have c3 := HB1.out.1.cell 0 rfl
  have c4 := HB1.out.2.1.cell 0 rfl
  have c5 := HB1.out.2.2.1.cell 0 rfl
  by_cases he : E = 0
  · have hl := HE.out.1 he
    have HT1 := Lib.hid (HT.out.trans (if_neg (fun h => h he)))
    subst he
    by_cases hr : pk < 1 ∨ 1000000 < pk ∨ tm < 0
    · have HT2 := Lib.hid (HT1.out.trans (if_pos hr))
      clear HT HT1 hl
      go_wp2_with fail
      all_goals
        go_ret2
        rw [HT2.out]
        exact ⟨rfl, HB1.out.2.2.2⟩
    · have HT2 := Lib.hid (HT1.out.trans (if_neg hr))
      have r1 : ¬ pk < 1 := by omega
      have r2 : ¬ 1000000 < pk := by omega
      have r3 : ¬ tm < 0 := by omega
      clear HT HT1 hr
      obtain ⟨b, off, cap, hvv, hp⟩ := HV1.out.addr hl
      have HVV := Lib.hid hvv
      have HL := Lib.hid hl
      have HP := Lib.hid hp
      clear hvv hl hp
      go_wp2_with fail
      refine (search_m (l.inT pk tm) 54 _ w1 (fun a w' => enters_of Try.func54 (by kernel_rfl) rfl a w') ?_).mono ?_
      · show ∀ _, _
        intro k W k0 k1 hW
        exact (least1_c l HL.out pk tm k (by omega) (by omega) k0 (by omega) b off cap w.heap.size (w.heap.size + 1) (w.heap.size + 1 + 1) W (HP.out.below hW)
          (by rw [← HVV.out]; exact (below_blk hW HB1.out.1 HB1.out.1.lt).cell 0 rfl) ((below_blk hW HB1.out.2.1 HB1.out.2.1.lt).cell 0 rfl) ((below_blk hW HB1.out.2.2.1 HB1.out.2.2.1.lt).cell 0 rfl)
          (below_blk hW HB1.out.2.2.1 HB1.out.2.2.1.lt).lt).mono fun e w' ⟨he, hb⟩ => ⟨he, belowT hW hb⟩
      · rintro e W1 ⟨rfl, hb1⟩
        have HB2 := Lib.hid (belowT HB1.out.2.2.2 hb1)
        generalize bisM (l.inT pk tm) = r at *
        clear hb1 c3 c4 c5
        by_cases h1 : 1000000 < r
        · have HT3 := Lib.hid (HT2.out.trans (if_pos h1))
          go_wp2_with fail
          go_ret2
          rw [HT3.out]
          exact ⟨rfl, HB2.out⟩
        · have HT3 := Lib.hid (HT2.out.trans (if_neg h1))
          go_wp2_with fail
          go_ret2
          rw [HT3.out]
          exact ⟨rfl, HB2.out⟩
  · have HT1 := Lib.hid (HT.out.trans (if_pos he))
    have g0 : (E != 0) = true := by simpa using he
    clear HT HE he
    go_wp2_with fail
    go_ret2
    rw [HT1.out]
    exact ⟨rfl, HB1.out.2.2.2⟩
end Go.Proofs.Ytjkgkoedkphnjaa
