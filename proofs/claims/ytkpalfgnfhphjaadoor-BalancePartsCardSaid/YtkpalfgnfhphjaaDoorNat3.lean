/- nat.Cmp. -/
import Derived.Test.YtkpalfgnfhphjaaDoorNat2
namespace Go.Proofs.YtkpalfgnfhphjaaDoor
open Go.RowKit

def cmpN (a b : Nat) : Int := if a < b then -1 else if b < a then 1 else 0
theorem dg_lt {a b i : Nat} (hi : i < ln a) (hl : ln a = ln b) (hd : (dg a).drop (i + 1) = (dg b).drop (i + 1)) (h : (dg a).getD i 0 < (dg b).getD i 0) : a < b := by
  have ha : i < (dg a).length := hi
  have hb : i < (dg b).length := by unfold ln at hl; omega
  have a1 := val_split (dg a) i (by omega)
  have b1 := val_split (dg b) i (by omega)
  rw [dg_val, val_drop ha, hd] at a1
  rw [dg_val, val_drop hb] at b1
  have a2 := val_lt ((dg_ok a).take i)
  have b2 := val_nonneg ((dg_ok b).take i)
  rw [List.length_take, Nat.min_eq_left (by omega)] at a2
  have hp := pw_pos i
  generalize val ((dg b).drop (i + 1)) = t at *
  generalize (dg a).getD i 0 = x at *
  generalize (dg b).getD i 0 = y at *
  have h3 : pw i * (x + 1000000000 * t) + pw i * 1 ≤ pw i * (y + 1000000000 * t) := by
    rw [← Int.mul_add]; exact Int.mul_le_mul_of_nonneg_left (by omega) (by omega)
  omega
theorem dg_inj {a b : Nat} (h : dg a = dg b) : a = b := by
  have := congrArg val h; rw [dg_val, dg_val] at this; omega
theorem NV.at {w : World} {v : Value} {a n : Nat} (h : NV w v a) (hn : ln a = n) {j : Nat} (hj : j < n) : ∃ g off cap, v = .slice (some ⟨g, off, none⟩) n cap ∧ n ≤ cap ∧ w.cell? ⟨g, off + j, none⟩ = some (.int .u32 ((dg a).getD j 0)) := by
  subst hn
  obtain ⟨g, off, cap, h1, h2, _, _, h5⟩ := Reads.addr h.1 (by omega)
  exact ⟨g, off, cap, h1, h2, h5 j _ (u32s_get hj)⟩
theorem NV.bound {w : World} {v : Value} {a : Nat} (h : NV w v a) : ln a ≤ 9223372036854775807 := by
  rcases h.1 with ⟨h, _⟩ | ⟨_, _, _, _, _, h, _⟩ <;> omega
set_option maxHeartbeats 1000000 in
theorem ncmp_c (va vb : Value) (a b : Nat) (w : World) (ha : NV w va a) (hb : NV w vb b) :
    Calls Tryd.prog 50 #[va, vb] w fun e w' => e = .returned (.int .i64 (cmpN a b)) ∧ Below w.heap.size w w' := by
  have hA := ha.bound
  have hB := hb.bound
  obtain ⟨aa, ca, rfl⟩ := ha.slice
  obtain ⟨ab, cb, rfl⟩ := hb.slice
  have HA := Lib.hid ha
  have HB := Lib.hid hb
  obtain ⟨n, hn⟩ : ∃ n, ln a = n := ⟨_, rfl⟩
  obtain ⟨m, hm⟩ : ∃ m, ln b = m := ⟨_, rfl⟩
  obtain ⟨r, hr⟩ : ∃ r, cmpN a b = r := ⟨_, rfl⟩
  have HN := Lib.hid hn
  have HM := Lib.hid hm
  have HR := Lib.hid hr
  rw [hn] at hA HA ⊢
  rw [hm] at hB HB ⊢
  rw [hr]
  clear hn hm hr ha hb
  by_cases hnm : n = m
  · subst hnm
    go_enter Tryd.func50, Tryd.ntmps50
    go_wp2_with fail
    go_loopw [5] (fun i wr => ∃ (k : Nat) (z : Int), k ≤ n ∧ Hid (z = (k : Int) - 1) ∧ i = .int .i64 z ∧ Hid ((dg a).drop k = (dg b).drop k) ∧ Hid (Below w.heap.size w wr)) (fun i _ => (intOf i + 1).toNat)
    case atStart => exact ⟨n, _, Nat.le_refl _, rfl, rfl, by show _ = _; rw [List.drop_eq_nil_of_le (by show ln a ≤ n; rw [HN.out]; exact Nat.le_refl _), List.drop_eq_nil_of_le (by show ln b ≤ n; rw [HM.out]; exact Nat.le_refl _)], Below.refl _ _⟩
    case round =>
      obtain ⟨k, z, hk, hz, rfl, hd, hb⟩ := hrel
      rcases k with _ | j
      · obtain rfl : z = -1 := by have := hz.out; omega
        have he : a = b := dg_inj (by simpa using hd.out)
        go_wp2_with fail
        go_ret
        exact ⟨ret_int (by rw [← HR.out, he]; unfold cmpN; simp), hb.out⟩
      · obtain rfl : z = (j : Int) := by have := hz.out; omega
        obtain ⟨g1, o1, c1, e1, _, x1⟩ := (HA.out.below hb.out).at HN.out (j := j) (by omega)
        obtain ⟨g2, o2, c2, e2, _, x2⟩ := (HB.out.below hb.out).at HM.out (j := j) (by omega)
        cases e1; cases e2
        obtain ⟨x, hx⟩ : ∃ x, (dg a).getD j 0 = x := ⟨_, rfl⟩
        obtain ⟨y, hy⟩ : ∃ y, (dg b).getD j 0 = y := ⟨_, rfl⟩
        rw [hx] at x1; rw [hy] at x2
        have HX := Lib.hid hx
        have HY := Lib.hid hy
        clear hx hy
        rcases Int.lt_trichotomy x y with hlt | heq | hgt
        · have hab : a < b := dg_lt (by rw [HN.out]; omega) (by rw [HN.out, HM.out]) hd.out (by rw [HX.out, HY.out]; exact hlt)
          have q1 : decide (x < y) = true := decide_eq_true hlt
          go_wp2_with fail
          go_quiet (fail)
          go_wp2_with fail
          go_ret
          exact ⟨ret_int (by rw [← HR.out]; unfold cmpN; rw [if_pos hab]), (by first | exact below_drewN hb.out _ | exact below_drewN (below_drewN hb.out _) _)⟩
        · have q1 : decide (x < y) = false := decide_eq_false (by omega)
          have q2 : decide (y < x) = false := decide_eq_false (by omega)
          have HD : Hid ((dg a).drop j = (dg b).drop j) := by
            show _ = _
            have hja : j < (dg a).length := by show j < ln a; rw [HN.out]; omega
            have hjb : j < (dg b).length := by show j < ln b; rw [HM.out]; omega
            have h1 := HX.out; have h2 := HY.out
            rw [List.drop_eq_getElem_cons hja, List.drop_eq_getElem_cons hjb, hd.out]
            congr 1
            rw [List.getD_eq_getElem?_getD, List.getElem?_eq_getElem hja] at h1
            rw [List.getD_eq_getElem?_getD, List.getElem?_eq_getElem hjb] at h2
            simp only [Option.getD_some] at h1 h2
            omega
          clear heq hd hz
          go_wp2_with fail
          go_quiet (fail)
          go_wp2_with fail
          go_quiet (fail)
          go_wp2_with fail
          go_roundw
          case rel => exact ⟨j, _, by omega, rfl, by go_num, HD, (by first | exact below_drewN hb.out _ | exact below_drewN (below_drewN hb.out _) _)⟩
          case measure => (simp [intOf] <;> omega)
        · have hab : b < a := dg_lt (by rw [HM.out]; omega) (by rw [HN.out, HM.out]) hd.out.symm (by rw [HX.out, HY.out]; exact hgt)
          have q1 : decide (x < y) = false := decide_eq_false (by omega)
          have q2 : decide (y < x) = true := decide_eq_true (by omega)
          go_wp2_with fail
          go_quiet (fail)
          go_wp2_with fail
          go_quiet (fail)
          go_wp2_with fail
          go_ret
          exact ⟨ret_int (by rw [← HR.out]; unfold cmpN; rw [if_neg (by omega), if_pos hab]), (by first | exact below_drewN hb.out _ | exact below_drewN (below_drewN hb.out _) _)⟩
  · rcases Nat.lt_or_gt_of_ne hnm with hlt | hgt
    · have hab : a < b := lt_of_ln (by rw [HN.out, HM.out]; exact hlt)
      have q1 : ((n : Int) != m) = true := by simp; omega
      go_enter Tryd.func50, Tryd.ntmps50
      go_wp2_with fail
      go_ret
      exact ⟨ret_int (by rw [← HR.out]; unfold cmpN; rw [if_pos hab]), Below.refl _ _⟩
    · have hab : b < a := lt_of_ln (by rw [HN.out, HM.out]; exact hgt)
      have q1 : ((n : Int) != m) = true := by simp; omega
      have q2 : ¬ n < m := by omega
      go_enter Tryd.func50, Tryd.ntmps50
      go_wp2_with fail
      go_ret
      exact ⟨ret_int (by rw [← HR.out]; unfold cmpN; rw [if_neg (by omega), if_pos hab]), Below.refl _ _⟩
end Go.Proofs.YtkpalfgnfhphjaaDoor
