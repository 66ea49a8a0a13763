/- Division of naturals, digit by digit: what the guess of a digit is worth. -/
import Derived.Test.YtkpalfgnfhphjaaDoorNatP
namespace Go.Proofs.YtkpalfgnfhphjaaDoor

/-- The digits in sight: T = u0 u1 u2 low, V = v1 v2 lv, with P for what stands behind two digits of V. -/
structure QF (T V P u0 u1 u2 low v1 v2 lv : Int) : Prop where
  hP : 0 < P
  hT : T = ((u0 * 1000000000 + u1) * 1000000000 + u2) * P + low
  hV : V = (v1 * 1000000000 + v2) * P + lv
  l0 : 0 ≤ low
  l1 : low < P
  m0 : 0 ≤ lv
  m1 : lv < P
  a0 : 0 ≤ u0
  b0 : 0 ≤ u1
  b1 : u1 < 1000000000
  c0 : 0 ≤ u2
  c1 : u2 < 1000000000
  d0 : 0 < v1
  d1 : v1 < 1000000000
  e0 : 0 ≤ v2
  e1 : v2 < 1000000000
  hTV : T < 1000000000 * V
variable {T V P u0 u1 u2 low v1 v2 lv q r : Int}
theorem QF.u0le (h : QF T V P u0 u1 u2 low v1 v2 lv) : u0 ≤ v1 := by
  obtain ⟨hP, hT, hV, l0, l1, m0, m1, a0, b0, b1, c0, c1, d0, d1, e0, e1, hTV⟩ := h
  rcases Int.lt_or_le v1 u0 with hlt | hle
  · exfalso
    have h1 : (v1 + 1) * 1000000000 * 1000000000 * P ≤ u0 * 1000000000 * 1000000000 * P := Int.mul_le_mul_of_nonneg_right (by omega) (by omega)
    have h2 : 0 ≤ (u1 * 1000000000 + u2) * P := Int.mul_nonneg (by omega) (by omega)
    have h3 : (v2 + 1) * P ≤ 1000000000 * P := Int.mul_le_mul_of_nonneg_right (by omega) (by omega)
    have h4 : T = u0 * 1000000000 * 1000000000 * P + (u1 * 1000000000 + u2) * P + low := by rw [hT]; grind
    have h5 : V = v1 * 1000000000 * P + v2 * P + lv := by rw [hV]; grind
    have h6 : (v1 + 1) * 1000000000 * 1000000000 * P = 1000000000 * (v1 * 1000000000 * P) + 1000000000 * (1000000000 * P) := by grind
    have h7 : (v2 + 1) * P = v2 * P + P := by grind
    omega
  · exact hle
theorem QF.vpos (h : QF T V P u0 u1 u2 low v1 v2 lv) : 0 < V ∧ 1000000000 * P ≤ V := by
  obtain ⟨hP, hT, hV, l0, l1, m0, m1, a0, b0, b1, c0, c1, d0, d1, e0, e1, hTV⟩ := h
  have h1 : 1000000000 * P ≤ (v1 * 1000000000 + v2) * P := Int.mul_le_mul_of_nonneg_right (by omega) (by omega)
  omega
/-- The first guess is not too small. -/
theorem QF.start (h : QF T V P u0 u1 u2 low v1 v2 lv) : T < ((u0 * 1000000000 + u1) / v1 + 1) * V := by
  obtain ⟨hP, hT, hV, l0, l1, m0, m1, a0, b0, b1, c0, c1, d0, d1, e0, e1, hTV⟩ := h
  have h1 := Int.mul_ediv_add_emod (u0 * 1000000000 + u1) v1
  have h2 := Int.emod_lt_of_pos (u0 * 1000000000 + u1) d0
  have h0 : 0 ≤ (u0 * 1000000000 + u1) / v1 := Int.ediv_nonneg (by omega) (by omega)
  generalize (u0 * 1000000000 + u1) / v1 = k at *
  generalize (u0 * 1000000000 + u1) % v1 = s at *
  have h3 : (u0 * 1000000000 + u1) + 1 ≤ (k + 1) * v1 := by
    have : (k + 1) * v1 = v1 * k + v1 := by grind
    omega
  have h4 : ((u0 * 1000000000 + u1) + 1) * (1000000000 * P) ≤ (k + 1) * v1 * (1000000000 * P) := Int.mul_le_mul_of_nonneg_right h3 (by omega)
  have h5 : (k + 1) * (v1 * 1000000000 * P) ≤ (k + 1) * V := Int.mul_le_mul_of_nonneg_left (by
    have : 0 ≤ v2 * P := Int.mul_nonneg e0 (by omega)
    have : V = v1 * 1000000000 * P + v2 * P + lv := by rw [hV]; grind
    omega) (by omega)
  have h6 : T = (u0 * 1000000000 + u1) * (1000000000 * P) + u2 * P + low := by rw [hT]; grind
  have h7 : (u2 + 1) * P ≤ 1000000000 * P := Int.mul_le_mul_of_nonneg_right (by omega) (by omega)
  have h8 : (u2 + 1) * P = u2 * P + P := by grind
  have h9 : ((u0 * 1000000000 + u1) + 1) * (1000000000 * P) = (u0 * 1000000000 + u1) * (1000000000 * P) + 1000000000 * P := by grind
  have h10 : (k + 1) * v1 * (1000000000 * P) = (k + 1) * (v1 * 1000000000 * P) := by grind
  omega
/-- A guess that the test tells to be too great is too great. -/
theorem QF.down (h : QF T V P u0 u1 u2 low v1 v2 lv) (hq : q * v1 + r = u0 * 1000000000 + u1) (ht : 1000000000 ≤ q ∨ r * 1000000000 + u2 < q * v2) (hq0 : 0 ≤ q) : T < q * V := by
  have hv := h.vpos
  obtain ⟨hP, hT, hV, l0, l1, m0, m1, a0, b0, b1, c0, c1, d0, d1, e0, e1, hTV⟩ := h
  rcases ht with ht | ht
  · have : 1000000000 * V ≤ q * V := Int.mul_le_mul_of_nonneg_right ht (by omega)
    omega
  · have h1 : (u0 * 1000000000 + u1) * 1000000000 + u2 + 1 ≤ q * (v1 * 1000000000 + v2) := by
      have e1 : q * (v1 * 1000000000 + v2) = (q * v1 + r) * 1000000000 - r * 1000000000 + q * v2 := by grind
      rw [e1, hq]; omega
    have h2 : ((u0 * 1000000000 + u1) * 1000000000 + u2 + 1) * P ≤ q * (v1 * 1000000000 + v2) * P := Int.mul_le_mul_of_nonneg_right h1 (by omega)
    have h3 : q * ((v1 * 1000000000 + v2) * P) ≤ q * V := Int.mul_le_mul_of_nonneg_left (by omega) hq0
    have h4 : ((u0 * 1000000000 + u1) * 1000000000 + u2 + 1) * P = ((u0 * 1000000000 + u1) * 1000000000 + u2) * P + P := by grind
    have h5 : q * (v1 * 1000000000 + v2) * P = q * ((v1 * 1000000000 + v2) * P) := by grind
    omega
/-- The guess at the end is at most one too great. -/
theorem QF.close (h : QF T V P u0 u1 u2 low v1 v2 lv) (hq : q * v1 + r = u0 * 1000000000 + u1) (hq0 : 0 ≤ q) (ht : (q < 1000000000 ∧ q * v2 ≤ r * 1000000000 + u2) ∨ 1000000000 ≤ r) : q < 1000000000 ∧ q * V < T + V := by
  have hv := h.vpos
  have hu := h.u0le
  obtain ⟨hP, hT, hV, l0, l1, m0, m1, a0, b0, b1, c0, c1, d0, d1, e0, e1, hTV⟩ := h
  have key : q < 1000000000 ∧ q * v2 ≤ r * 1000000000 + u2 := by
    rcases ht with ht | ht
    · exact ht
    · have hlt : q < 1000000000 := by
        rcases Int.lt_or_le q 1000000000 with h' | h'
        · exact h'
        · exfalso
          have h1 : 1000000000 * v1 ≤ q * v1 := Int.mul_le_mul_of_nonneg_right h' (by omega)
          have h2 : u0 * 1000000000 ≤ v1 * 1000000000 := Int.mul_le_mul_of_nonneg_right hu (by omega)
          omega
      refine ⟨hlt, ?_⟩
      have h1 : q * v2 ≤ 999999999 * v2 := Int.mul_le_mul_of_nonneg_right (by omega) e0
      omega
  refine ⟨key.1, ?_⟩
  have h1 : q * (v1 * 1000000000 + v2) ≤ (u0 * 1000000000 + u1) * 1000000000 + u2 := by
    have e1 : q * (v1 * 1000000000 + v2) = (q * v1 + r) * 1000000000 - r * 1000000000 + q * v2 := by grind
    rw [e1, hq]; omega
  have h2 : q * (v1 * 1000000000 + v2) * P ≤ ((u0 * 1000000000 + u1) * 1000000000 + u2) * P := Int.mul_le_mul_of_nonneg_right h1 (by omega)
  have h3 : q * lv ≤ 999999999 * lv := Int.mul_le_mul_of_nonneg_right (by omega) m0
  have h4 : q * V = q * (v1 * 1000000000 + v2) * P + q * lv := by rw [hV]; grind
  omega
/-- The top digits of a row. -/
theorem val_top {l : List Int} {n : Nat} (h : l.length = n + 2) : val l = (l.getD (n + 1) 0 * 1000000000 + l.getD n 0) * pw n + val (l.take n) := by
  rw [val_split l n (by omega), val_drop (by omega), val_drop (l := l) (k := n + 1) (by omega), List.drop_eq_nil_of_le (by omega)]
  simp only [val]
  grind
theorem val_top3 {l : List Int} {n : Nat} (h : l.length = n + 3) : val l = ((l.getD (n + 2) 0 * 1000000000 + l.getD (n + 1) 0) * 1000000000 + l.getD n 0) * pw n + val (l.take n) := by
  rw [val_split l n (by omega), val_drop (by omega), val_drop (l := l) (k := n + 1) (by omega), val_drop (l := l) (k := n + 2) (by omega), List.drop_eq_nil_of_le (by omega)]
  simp only [val]
  grind
/-- Ahead of a round of the division: the digits k.. of the quotient are found. -/
def divI (U0 V : Int) (m N k : Nat) (ds U : List Int) : Prop := ds.length = m ∧ DgOk ds ∧ (∀ j, j < k → ds.getD j 0 = 0) ∧ U.length = N ∧ DgOk U ∧ val ds * V + val U = U0 ∧ val U < V * pw k
/-- The window of a round. -/
theorem div_window {U0 V : Int} {m N j n : Nat} {ds U : List Int} (h : divI U0 V m N (j + 1) ds U) (hV : V < pw n) (hj : j + n + 1 ≤ N) : 0 ≤ val (U.drop j) ∧ val (U.drop j) < 1000000000 * V ∧ val (U.drop (j + n + 1)) = 0 ∧ val (U.drop j) = val ((U.drop j).take (n + 1)) := by
  obtain ⟨_, _, _, e4, e5, _, e7⟩ := h
  have h1 := val_split U j (by omega)
  have h2 := val_nonneg (e5.take j)
  have hp := pw_pos j
  have h0 := val_nonneg (e5.drop j)
  have hlt : val (U.drop j) < 1000000000 * V := by
    rcases Int.lt_or_le (val (U.drop j)) (1000000000 * V) with h' | h'
    · exact h'
    · exfalso
      have h3 : pw j * (1000000000 * V) ≤ pw j * val (U.drop j) := Int.mul_le_mul_of_nonneg_left h' (by omega)
      have h4 : V * pw (j + 1) = pw j * (1000000000 * V) := by rw [pw_succ]; grind
      omega
  have h5 := val_split (U.drop j) (n + 1) (by rw [List.length_drop]; omega)
  have h6 := val_nonneg ((e5.drop j).take (n + 1))
  have h7 := val_nonneg ((e5.drop j).drop (n + 1))
  have h8 : val ((U.drop j).drop (n + 1)) = 0 := by
    rcases Int.lt_or_le 0 (val ((U.drop j).drop (n + 1))) with h' | h'
    · exfalso
      have h9 : pw (n + 1) * 1 ≤ pw (n + 1) * val ((U.drop j).drop (n + 1)) := Int.mul_le_mul_of_nonneg_left (by omega) (by have := pw_pos (n + 1); omega)
      rw [pw_succ] at h9
      rw [pw_succ] at h5
      omega
    · omega
  refine ⟨h0, hlt, ?_, ?_⟩
  · rw [List.drop_drop] at h8
    rw [show j + n + 1 = j + (n + 1) by omega]; exact h8
  · rw [h8] at h5; omega
end Go.Proofs.YtkpalfgnfhphjaaDoor
