/- Rational numbers: plain laws. -/
import Derived.Test.YthcddboeejbncaaPkNetOApp
namespace Go.Proofs.Ythcddboeejbncaa

/-- A number by its sign and magnitude. -/
def sg (neg : Bool) (x : Nat) : Int := if neg = true then -(x : Int) else x
theorem sg_natAbs (neg : Bool) (x : Nat) : (sg neg x).natAbs = x := by unfold sg; split <;> omega
theorem sg_zero (neg : Bool) : sg neg 0 = 0 := by unfold sg; split <;> rfl
theorem sg_of (n : Int) : sg (decide (n < 0)) n.natAbs = n := by
  unfold sg
  by_cases h : n < 0
  · rw [if_pos (decide_eq_true h)]; omega
  · rw [if_neg (by simpa using h)]; omega
/-- The canonical form of a quotient. -/
theorem low_parts (neg : Bool) (x d : Nat) (hd : 0 < d) (hx : 0 < x) : (mkRat (sg neg x) d).num.natAbs = x / Nat.gcd x d ∧ (mkRat (sg neg x) d).den = d / Nat.gcd x d ∧ decide ((mkRat (sg neg x) d).num < 0) = neg := by
  have hg : 0 < Nat.gcd x d := Nat.gcd_pos_of_pos_left _ hx
  have hdv : Nat.gcd x d ∣ x := Nat.gcd_dvd_left _ _
  rw [Rat.num_mkRat, Rat.den_mkRat, if_neg (by omega), if_neg (by omega), sg_natAbs, Nat.gcd_comm d x]
  have hq : 0 < x / Nat.gcd x d := Nat.div_pos (Nat.le_of_dvd hx hdv) hg
  have e : sg neg x / ((Nat.gcd x d : Nat) : Int) = sg neg (x / Nat.gcd x d) := by
    unfold sg
    split
    · obtain ⟨k, hk⟩ := hdv
      generalize Nat.gcd x d = g at *
      subst hk
      rw [Nat.mul_div_cancel_left _ hg]
      push_cast
      rw [← Int.mul_neg, Int.mul_ediv_cancel_left _ (by omega)]
    · push_cast; rfl
  rw [e]
  refine ⟨sg_natAbs _ _, rfl, ?_⟩
  unfold sg
  cases neg
  · simp; omega
  · simp only [if_true, decide_eq_true_eq]; omega
theorem den_pos (q : Rat) : 0 < q.den := Nat.pos_of_ne_zero q.den_nz
/-- A number times the denominator of another one. -/
theorem add_same (p q : Rat) (h : decide (p.num < 0) = decide (q.num < 0)) : p + q = mkRat (sg (decide (p.num < 0)) (p.num.natAbs * q.den + q.num.natAbs * p.den)) (p.den * q.den) := by
  rw [Rat.add_def']
  congr 1
  have h1 := sg_of p.num
  have h2 := sg_of q.num
  rw [← h] at h2
  generalize decide (p.num < 0) = b at *
  conv => lhs; rw [← h1, ← h2]
  unfold sg
  cases b
  · simp
  · simp; grind
theorem add_ge (p q : Rat) (h : decide (p.num < 0) ≠ decide (q.num < 0)) (hge : q.num.natAbs * p.den ≤ p.num.natAbs * q.den) : p + q = mkRat (sg (decide (p.num < 0)) (p.num.natAbs * q.den - q.num.natAbs * p.den)) (p.den * q.den) := by
  rw [Rat.add_def']
  congr 1
  have h1 := sg_of p.num
  have h2 := sg_of q.num
  have h3 : decide (q.num < 0) = !decide (p.num < 0) := by
    revert h; cases decide (p.num < 0) <;> cases decide (q.num < 0) <;> simp
  rw [h3] at h2
  generalize decide (p.num < 0) = b at *
  conv => lhs; rw [← h1, ← h2]
  have h4 : ((p.num.natAbs * q.den - q.num.natAbs * p.den : Nat) : Int) = (p.num.natAbs : Int) * q.den - (q.num.natAbs : Int) * p.den := by
    rw [Int.ofNat_sub hge]; push_cast; rfl
  unfold sg
  cases b
  · simp only [Bool.not_false, if_true, Bool.false_eq_true, if_false]; rw [h4]; grind
  · simp only [Bool.not_true, if_true, Bool.false_eq_true, if_false]; rw [h4]; grind
theorem add_lt (p q : Rat) (h : decide (p.num < 0) ≠ decide (q.num < 0)) (hlt : p.num.natAbs * q.den ≤ q.num.natAbs * p.den) : p + q = mkRat (sg (decide (q.num < 0)) (q.num.natAbs * p.den - p.num.natAbs * q.den)) (p.den * q.den) := by
  rw [Rat.add_comm, Nat.mul_comm p.den]
  exact add_ge q p (Ne.symm h) hlt
theorem sg_mul (a b : Bool) (x y : Nat) : sg a x * sg b y = sg (a != b) (x * y) := by
  unfold sg
  cases a <;> cases b <;> simp <;> grind
theorem mul_parts (p q : Rat) : p * q = mkRat (sg (decide (p.num < 0) != decide (q.num < 0)) (p.num.natAbs * q.num.natAbs)) (p.den * q.den) := by
  rw [Rat.mul_def', ← sg_mul, sg_of, sg_of]
theorem quo_parts (p q : Rat) (hq : q ≠ 0) : p / q = mkRat (sg (decide (p.num < 0) != decide (q.num < 0)) (p.num.natAbs * q.den)) (p.den * q.num.natAbs) := by
  have hn : q.num ≠ 0 := fun h => hq (Rat.num_eq_zero.1 h)
  rw [Rat.div_def, mul_parts, Rat.num_inv, Rat.den_inv, if_neg hn]
  congr 2
  · have : decide (q.num.sign * (q.den : Int) < 0) = decide (q.num < 0) := by
      have hd := den_pos q
      rcases Int.lt_or_gt_of_ne hn with h | h
      · rw [Int.sign_eq_neg_one_of_neg h, decide_eq_true h, decide_eq_true (by omega)]
      · rw [Int.sign_eq_one_of_pos h, decide_eq_false (by omega), decide_eq_false (by omega)]
    rw [this]
  · congr 1
    rw [Int.natAbs_mul]
    rcases Int.lt_or_gt_of_ne hn with h | h
    · rw [Int.sign_eq_neg_one_of_neg h]; simp
    · rw [Int.sign_eq_one_of_pos h]; simp
/-- How many digits the parts of a number have at most. -/
def sz (q : Rat) : Nat := max (ln q.num.natAbs) (ln q.den)
theorem sz_num (q : Rat) : ln q.num.natAbs ≤ sz q := Nat.le_max_left _ _
theorem sz_den (q : Rat) : ln q.den ≤ sz q := Nat.le_max_right _ _
theorem sz_low (neg : Bool) (x d : Nat) : sz (mkRat (sg neg x) d) ≤ max (ln x) (max (ln d) 1) := by
  unfold sz
  rw [Rat.num_mkRat, Rat.den_mkRat]
  split
  · simp [ln_zero, ln_one]; omega
  · rw [sg_natAbs]
    have h1 : (sg neg x / ((d.gcd x : Nat) : Int)).natAbs ≤ x := by
      refine Nat.le_trans (Int.natAbs_ediv_le_natAbs _ _) ?_
      rw [sg_natAbs]; exact Nat.le_refl _
    have h2 : d / d.gcd x ≤ d := Nat.div_le_self _ _
    have h3 := ln_mono h1
    have h4 := ln_mono h2
    omega
theorem sz_pos (q : Rat) : 1 ≤ sz q := by
  have := ln_pos (den_pos q); have := sz_den q; omega
theorem sz_add (p q : Rat) : sz (p + q) ≤ sz p + sz q + 1 := by
  have h := sz_low (decide (p.num * q.den + q.num * p.den < 0)) (p.num * q.den + q.num * p.den).natAbs (p.den * q.den)
  rw [sg_of, ← Rat.add_def'] at h
  have h1 : (p.num * q.den + q.num * p.den).natAbs ≤ p.num.natAbs * q.den + q.num.natAbs * p.den := by
    refine Nat.le_trans (Int.natAbs_add_le _ _) ?_
    rw [Int.natAbs_mul, Int.natAbs_mul]; simp
  have h2 := ln_mono h1
  have h3 := ln_add (p.num.natAbs * q.den) (q.num.natAbs * p.den)
  have h4 := ln_mul p.num.natAbs q.den
  have h5 := ln_mul q.num.natAbs p.den
  have h6 := ln_mul p.den q.den
  have a1 := sz_num p; have a2 := sz_den p; have a3 := sz_num q; have a4 := sz_den q
  have a5 := sz_pos p; have a6 := sz_pos q
  omega
theorem sz_neg (q : Rat) : sz (-q) = sz q := by unfold sz; rw [Rat.neg_num, Rat.neg_den, Int.natAbs_neg]
theorem sz_sub (p q : Rat) : sz (p - q) ≤ sz p + sz q + 1 := by
  have := sz_add p (-q)
  rwa [← Rat.sub_eq_add_neg, sz_neg] at this
theorem sz_mul (p q : Rat) : sz (p * q) ≤ sz p + sz q := by
  have h := sz_low (decide (p.num < 0) != decide (q.num < 0)) (p.num.natAbs * q.num.natAbs) (p.den * q.den)
  rw [← mul_parts] at h
  have h4 := ln_mul p.num.natAbs q.num.natAbs
  have h6 := ln_mul p.den q.den
  have a1 := sz_num p; have a2 := sz_den p; have a3 := sz_num q; have a4 := sz_den q
  have a5 := sz_pos p; have a6 := sz_pos q
  omega
theorem sz_zero : sz 0 = 1 := by unfold sz; simp [ln_zero, ln_one]
theorem sz_quo (p q : Rat) : sz (p / q) ≤ sz p + sz q := by
  by_cases hq : q = 0
  · subst hq
    have : p / 0 = 0 := by rw [Rat.div_def, Rat.inv_zero, Rat.mul_zero]
    rw [this, sz_zero]
    have := sz_pos p; omega
  · have h := sz_low (decide (p.num < 0) != decide (q.num < 0)) (p.num.natAbs * q.den) (p.den * q.num.natAbs)
    rw [← quo_parts p q hq] at h
    have h4 := ln_mul p.num.natAbs q.den
    have h6 := ln_mul p.den q.num.natAbs
    have a1 := sz_num p; have a2 := sz_den p; have a3 := sz_num q; have a4 := sz_den q
    have a5 := sz_pos p; have a6 := sz_pos q
    omega
end Go.Proofs.Ythcddboeejbncaa
