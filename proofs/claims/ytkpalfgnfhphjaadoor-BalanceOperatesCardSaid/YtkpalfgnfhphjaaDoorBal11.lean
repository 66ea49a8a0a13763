/- balance: plain laws on rationals. -/
import Derived.Test.YtkpalfgnfhphjaaDoorBal10
namespace Go.Proofs.YtkpalfgnfhphjaaDoor
open Go.RowKit

theorem num_neg {q : Rat} : q.num < 0 ↔ q < 0 := by
  rw [← Rat.not_le, ← Rat.num_nonneg]; omega
theorem sign_le {q : Rat} : signR q ≤ 0 ↔ q ≤ 0 := by
  unfold signR
  by_cases h0 : q = 0
  · rw [if_pos h0, h0]; exact ⟨fun _ => Rat.le_refl, fun _ => Int.le_refl _⟩
  · rw [if_neg h0]
    by_cases h : q.num < 0
    · rw [if_pos h]
      exact ⟨fun _ => Rat.le_of_lt (num_neg.1 h), fun _ => by decide⟩
    · rw [if_neg h]
      refine ⟨fun h1 => absurd h1 (by decide), fun h1 => absurd (num_neg.2 (Rat.lt_of_le_of_ne h1 h0)) h⟩
theorem cmp_le {p q : Rat} : cmpR p q ≤ 0 ↔ p ≤ q := by
  unfold cmpR
  rw [sign_le]
  grind
theorem cmp_pos {p q : Rat} : 0 < cmpR p q ↔ q < p := by
  rw [← Rat.not_le, ← cmp_le]; omega
theorem absQ_eq (q : Rat) : absQ q = if q < 0 then -q else q := by
  unfold absQ
  by_cases h : q.num < 0
  · rw [if_pos h, if_pos (num_neg.1 h)]
  · rw [if_neg h, if_neg (fun hh => h (num_neg.2 hh))]
theorem absQ_nonneg (q : Rat) : 0 ≤ absQ q := by
  rw [absQ_eq]; split <;> grind
theorem absQ_add (p q : Rat) : absQ (p + q) ≤ absQ p + absQ q := by
  rw [absQ_eq, absQ_eq, absQ_eq]; split <;> split <;> split <;> grind
theorem absQ_eq0 {q : Rat} : absQ q = 0 ↔ q = 0 := by
  rw [absQ_eq]; split <;> grind
theorem sumA_nonneg : ∀ l : List Rat, 0 ≤ sumA l
  | [] => Rat.le_refl
  | q :: l => by
    have h1 := sumA_nonneg l
    have h2 := absQ_nonneg q
    show 0 ≤ absQ q + sumA l
    grind
theorem abs_sum : ∀ l : List Rat, absQ (sumQ l) ≤ sumA l
  | [] => by show absQ 0 ≤ 0; rw [absQ_eq]; decide +kernel
  | q :: l => by
    have h1 := abs_sum l
    have h2 := absQ_add q (sumQ l)
    show absQ (q + sumQ l) ≤ absQ q + sumA l
    grind
theorem sq_nonneg (q : Rat) : 0 ≤ q * q := by
  by_cases h : q < 0
  · have h1 : 0 ≤ -q := by grind
    have := Rat.mul_nonneg h1 h1
    grind
  · have h1 : 0 ≤ q := by grind
    exact Rat.mul_nonneg h1 h1
theorem sq_zero {q : Rat} : q * q = 0 ↔ q = 0 := by
  constructor
  · intro h
    rcases Rat.mul_eq_zero.1 h with h | h <;> exact h
  · intro h; rw [h]; decide +kernel
theorem sumS_nonneg : ∀ l : List Rat, 0 ≤ sumS l
  | [] => Rat.le_refl
  | q :: l => by
    have h1 := sumS_nonneg l
    have h2 := sq_nonneg q
    show 0 ≤ q * q + sumS l
    grind
theorem sums_zero : ∀ l : List Rat, sumS l = 0 ↔ sumA l = 0
  | [] => ⟨fun _ => rfl, fun _ => rfl⟩
  | q :: l => by
    have h1 := sumS_nonneg l
    have h2 := sq_nonneg q
    have h3 := sumA_nonneg l
    have h4 := absQ_nonneg q
    have h5 := sums_zero l
    have h6 := @sq_zero q
    have h7 := @absQ_eq0 q
    show q * q + sumS l = 0 ↔ absQ q + sumA l = 0
    constructor
    · intro h
      have a1 : q * q = 0 := by grind
      have a2 : sumS l = 0 := by grind
      rw [h7.2 (h6.1 a1), h5.1 a2]; decide +kernel
    · intro h
      have a1 : absQ q = 0 := by grind
      have a2 : sumA l = 0 := by grind
      rw [h6.2 (h7.1 a1), h5.2 a2]; decide +kernel
theorem half_zero (l : List Rat) : sumA l / 2 = 0 ↔ sumS l = 0 := by
  rw [sums_zero]
  constructor <;> intro h <;> grind
theorem half_twice (l : List Rat) : sumA l / 2 * 2 = sumA l := by grind
theorem law_cmp (l : List Rat) : cmpR (absQ (sumQ l)) (sumA l / 2 * 2) ≤ 0 := by
  rw [half_twice, cmp_le]; exact abs_sum l
theorem half_nonneg (l : List Rat) : 0 ≤ sumA l / 2 := by
  have := sumA_nonneg l
  grind
theorem lim_mono {H : Rat} (hH : 0 ≤ H) {a b c d : Int} (h1 : a ≤ b) (h2 : c ≤ d) : limQ H a c ≤ limQ H b d := by
  unfold limQ
  have e : ((1000 : Int) : Rat) = 1000 := rfl
  have k1 : ((a : Int) : Rat) ≤ ((b : Int) : Rat) := Rat.intCast_le_intCast.2 h1
  have k2 : ((c : Int) : Rat) ≤ ((d : Int) : Rat) := Rat.intCast_le_intCast.2 h2
  have k3 := Rat.mul_le_mul_of_nonneg_left k2 hH
  rw [e]
  grind
theorem lim_zero (H : Rat) : limQ H 0 0 = 0 := by
  unfold limQ
  have e : ((1000 : Int) : Rat) = 1000 := rfl
  have e0 : ((0 : Int) : Rat) = 0 := rfl
  rw [e, e0]
  grind
/-- A lower threshold and slope: it operates all the more. -/
theorem law_less {l : List Rat} {a b c d : Int} (h1 : a ≤ b) (h2 : c ≤ d) (h : decide (0 < cmpR (absQ (sumQ l)) (limQ (sumA l / 2) b d)) = true) : decide (0 < cmpR (absQ (sumQ l)) (limQ (sumA l / 2) a c)) = true := by
  have h := of_decide_eq_true h
  rw [cmp_pos] at h
  apply decide_eq_true
  rw [cmp_pos]
  have := lim_mono (half_nonneg l) h1 h2
  grind
theorem law_none {l : List Rat} {a c : Int} (h0 : sumQ l = 0) (h1 : 0 ≤ a) (h2 : 0 ≤ c) : decide (0 < cmpR (absQ (sumQ l)) (limQ (sumA l / 2) a c)) = false := by
  apply decide_eq_false
  rw [cmp_pos, h0, absQ_zero rfl]
  have := lim_mono (half_nonneg l) h1 h2
  rw [lim_zero] at this
  grind
/-! ### Digits -/
/-- At most k decimal digits above and below. -/
def DQ (q : Rat) (k : Nat) : Prop := q.num.natAbs < 10 ^ k ∧ q.den < 10 ^ k
theorem DQ.fit {q : Rat} {k : Nat} (h : DQ q k) (h1 : 1 ≤ k) (h2 : k ≤ 2000) : FitQ q :=
  ⟨Nat.le_trans (dT_len h1 h.1) h2, Nat.le_trans (dT_len h1 h.2) h2⟩
theorem DQ.mono {q : Rat} {k j : Nat} (h : DQ q k) (hk : k ≤ j) : DQ q j :=
  ⟨Nat.lt_of_lt_of_le h.1 (Nat.pow_le_pow_right (by decide) hk), Nat.lt_of_lt_of_le h.2 (Nat.pow_le_pow_right (by decide) hk)⟩
theorem DQ.low {neg : Bool} {x d k : Nat} (hx : x < 10 ^ k) (hd : d < 10 ^ k) (h0 : 0 < d) (hk : 1 ≤ k) : DQ (mkRat (sg neg x) d) k := by
  rcases Nat.eq_zero_or_pos x with rfl | hp
  · rw [sg_zero]
    have e : mkRat 0 d = 0 := by simp
    rw [e]
    refine ⟨?_, ?_⟩
    · show (0 : Nat) < 10 ^ k
      exact Nat.pow_pos (by decide)
    · show (1 : Nat) < 10 ^ k
      exact Nat.lt_of_lt_of_le (by decide) (Nat.pow_le_pow_right (by decide) hk : 10 ^ 1 ≤ 10 ^ k)
  · obtain ⟨g1, g2, _⟩ := low_parts neg x d h0 hp
    refine ⟨?_, ?_⟩
    · rw [g1]; exact Nat.lt_of_le_of_lt (Nat.div_le_self _ _) hx
    · rw [g2]; exact Nat.lt_of_le_of_lt (Nat.div_le_self _ _) hd
theorem mul_lt_pow {x y a b : Nat} (hx : x < 10 ^ a) (hy : y < 10 ^ b) : x * y < 10 ^ (a + b) := by
  rw [Nat.pow_add]
  exact Nat.mul_lt_mul'' hx hy
theorem DQ.add {p q : Rat} {a b : Nat} (hp : DQ p a) (hq : DQ q b) : DQ (p + q) (a + b + 1) := by
  have d1 := den_pos p
  have d2 := den_pos q
  have k1 := mul_lt_pow hp.1 hq.2
  have k2 := mul_lt_pow hq.1 hp.2
  rw [Nat.add_comm b a] at k2
  have k3 := mul_lt_pow hp.2 hq.2
  have e : 10 ^ (a + b + 1) = 10 * 10 ^ (a + b) := by rw [Nat.pow_succ, Nat.mul_comm]
  have dp : 0 < p.den * q.den := Nat.mul_pos d1 d2
  by_cases hs : decide (p.num < 0) = decide (q.num < 0)
  · rw [add_same p q hs]
    exact DQ.low (by rw [e]; omega) (by rw [e]; omega) dp (by omega)
  · by_cases hge : q.num.natAbs * p.den ≤ p.num.natAbs * q.den
    · rw [add_ge p q hs hge]
      exact DQ.low (by rw [e]; omega) (by rw [e]; omega) dp (by omega)
    · rw [add_lt p q hs (by omega)]
      exact DQ.low (by rw [e]; omega) (by rw [e]; omega) dp (by omega)
theorem DQ.mul {p q : Rat} {a b : Nat} (hp : DQ p a) (hq : DQ q b) (hab : 1 ≤ a + b) : DQ (p * q) (a + b) := by
  rw [mul_parts]
  exact DQ.low (mul_lt_pow hp.1 hq.1) (mul_lt_pow hp.2 hq.2) (Nat.mul_pos (den_pos p) (den_pos q)) hab
theorem DQ.abs {p : Rat} {a : Nat} (hp : DQ p a) : DQ (absQ p) a := by
  obtain ⟨h1, h2, _⟩ := absQ_parts p
  exact ⟨by rw [h1]; exact hp.1, by rw [h2]; exact hp.2⟩
theorem DQ.sum {l : List Rat} {k : Nat} (h : ∀ q ∈ l, DQ q k) : DQ (sumQ l) (1 + (k + 1) * l.length) := by
  induction l with
  | nil =>
    refine DQ.mono (k := 1) ⟨by decide +kernel, by decide +kernel⟩ (by omega)
  | cons q l ih =>
    have h1 := ih (fun x hx => h x (List.mem_cons_of_mem _ hx))
    have h2 := h q (List.mem_cons_self ..)
    show DQ (q + sumQ l) _
    refine (h2.add h1).mono ?_
    rw [List.length_cons, Nat.mul_add]; omega
theorem DQ.half {p : Rat} {a : Nat} (hp : DQ p a) : DQ (p / 2) (a + 1) := by
  rw [quo_parts p 2 (by decide +kernel)]
  have e : 10 ^ (a + 1) = 10 * 10 ^ a := by rw [Nat.pow_succ, Nat.mul_comm]
  have e1 : (2 : Rat).num.natAbs = 2 := rfl
  have e2 : (2 : Rat).den = 1 := rfl
  rw [e1, e2]
  have d := den_pos p
  exact DQ.low (by rw [e]; have := hp.1; omega) (by rw [e]; have := hp.2; omega) (by omega) (by omega)
theorem small_DQ {q : Rat} (h : (bs (ratT q)).size ≤ 24) : DQ q 24 := by
  rw [bs_size] at h
  unfold ratT at h
  have h1 := lt_dT q.num.natAbs
  have h2 := lt_dT q.den
  have hn : (dT q.num.natAbs).length ≤ 24 := by
    simp only [List.length_append] at h; omega
  refine ⟨Nat.lt_of_lt_of_le h1 (Nat.pow_le_pow_right (by decide) hn), ?_⟩
  by_cases hd : q.den = 1
  · rw [hd]; decide
  · rw [if_neg hd] at h
    have : (dT q.den).length ≤ 24 := by
      simp only [List.length_append, List.length_cons] at h; omega
    exact Nat.lt_of_lt_of_le h2 (Nat.pow_le_pow_right (by decide) this)
/-- What the laws ask of short lists of short numbers. -/
theorem small_fits {qs : List Rat} (hs : smallB (txts qs) = true) (hl : qs.length ≤ 8) :
    (∀ k, k ≤ qs.length → FitQ (sumQ (qs.take k))) ∧ FitQ (sumA qs / 2) ∧ FitQ (sumA qs) ∧ FitQ (sumS qs) := by
  have hd : ∀ q ∈ qs, DQ q 24 := fun q hq => by
    apply small_DQ
    unfold smallB at hs
    rw [List.all_eq_true] at hs
    exact of_decide_eq_true (hs _ (List.mem_map.2 ⟨q, hq, rfl⟩))
  have hA : DQ (sumA qs) 201 := by
    have h := DQ.sum (l := qs.map absQ) (k := 24) (fun q hq => by
      obtain ⟨r, hr, rfl⟩ := List.mem_map.1 hq
      exact (hd r hr).abs)
    rw [List.length_map] at h
    exact h.mono (by omega)
  refine ⟨fun k hk => ?_, hA.half.fit (by omega) (by omega), hA.fit (by omega) (by omega), ?_⟩
  · have h := DQ.sum (l := qs.take k) (k := 24) (fun q hq => hd q (List.mem_of_mem_take hq))
    have h2 : (qs.take k).length ≤ 8 := by rw [List.length_take]; omega
    exact h.fit (by omega) (by omega)
  · have h := DQ.sum (l := qs.map fun q => q * q) (k := 48) (fun q hq => by
      obtain ⟨r, hr, rfl⟩ := List.mem_map.1 hq
      exact (hd r hr).mul (hd r hr) (by decide))
    rw [List.length_map] at h
    exact h.fit (by omega) (by omega)
end Go.Proofs.YtkpalfgnfhphjaaDoor
