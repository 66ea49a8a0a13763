/- Division of naturals: a round. -/
import Derived.Test.YtkpalfgnfhphjaaDoorNatD
import Derived.Test.YtkpalfgnfhphjaaDoorNat8
namespace Go.Proofs.YtkpalfgnfhphjaaDoor

theorem same_outside {l l' : List Int} {j s : Nat} (hl : l'.length = l.length) (h : ∀ i, i < j ∨ j + s ≤ i → l'.getD i 0 = l.getD i 0) : l'.take j = l.take j ∧ l'.drop (j + s) = l.drop (j + s) := by
  constructor
  · apply List.ext_getElem
    · simp [hl]
    · intro i h1 h2
      simp only [List.length_take] at h1 h2
      have := h i (Or.inl (by omega))
      simp only [List.getElem_take]
      rw [List.getD_eq_getElem?_getD, List.getD_eq_getElem?_getD, List.getElem?_eq_getElem (by omega), List.getElem?_eq_getElem (by omega)] at this
      exact this
  · apply List.ext_getElem
    · simp [hl]
    · intro i h1 h2
      simp only [List.length_drop] at h1 h2
      have := h (j + s + i) (Or.inr (by omega))
      simp only [List.getElem_drop]
      rw [List.getD_eq_getElem?_getD, List.getD_eq_getElem?_getD, List.getElem?_eq_getElem (by omega), List.getElem?_eq_getElem (by omega)] at this
      exact this
/-- What is above the window is nothing, so the window's value is what is left. -/
theorem window_lt {l : List Int} {j s : Nat} (hd : DgOk l) (hl : j + s ≤ l.length) (hz : val (l.drop (j + s)) = 0) : 0 ≤ val (l.drop j) ∧ val (l.drop j) < pw s ∧ val l = val (l.take j) + pw j * val (l.drop j) := by
  have h1 := val_split l j (by omega)
  have h2 := val_split (l.drop j) s (by rw [List.length_drop]; omega)
  rw [List.drop_drop, hz] at h2
  have h3 := val_lt ((hd.drop j).take s)
  rw [List.length_take, List.length_drop, Nat.min_eq_left (by omega)] at h3
  have h4 := val_nonneg (hd.drop j)
  exact ⟨h4, by omega, h1⟩
theorem cancel_pw {j : Nat} {a b : Int} (h : pw j * a = pw j * b) : a = b := Int.eq_of_mul_eq_mul_left (by have := pw_pos j; omega) h
theorem left_lt {j : Nat} {l : List Int} {V T : Int} (hd : DgOk l) (hj : j ≤ l.length) (h : val l = val (l.take j) + pw j * T) (hT : T < V) : val l < V * pw j := by
  have h1 := val_lt (hd.take j)
  rw [List.length_take, Nat.min_eq_left hj] at h1
  have hp := pw_pos j
  have h2 : pw j * (T + 1) ≤ pw j * V := Int.mul_le_mul_of_nonneg_left (by omega) (by omega)
  have h3 : pw j * (T + 1) = pw j * T + pw j := by grind
  have h4 : V * pw j = pw j * V := by grind
  omega
theorem alg1 {a t p q V X br r s : Int} (h1 : X = a + p * t) (hr : r = p * s) : X - q * V * p + (0 + br) * r = a + p * (t - q * V + br * s) := by grind
theorem alg2 {a t p V X c r s : Int} (h1 : X = a + p * t) (hr : r = p * s) : X + V * p - c * r = a + p * (t + V - c * s) := by grind
theorem set_val_div {ds : List Int} {j m : Nat} {q V X Y U0 p : Int} (hl : ds.length = m) (hj : j < m) (hz : ds.getD j 0 = 0) (hp : pw j = p) (h : val ds * V + X = U0) (hY : Y = X - q * V * p) : val (ds.set j q) * V + Y = U0 := by
  rw [val_set _ _ _ (by omega), hz, hp]; grind
theorem div_sub {U0 V : Int} {m N j n : Nat} {ds U U' B : List Int} {q br : Int} (h : divI U0 V m N (j + 1) ds U) (hVn : V < pw n) (hj : j + n + 1 ≤ N) (hjm : j < m) (hB : val B = V) (hBl : B.length = n)
    (hm : minusI U B j q (n + 1) U' 0 br) (hb0 : 0 ≤ br) (hb1 : br ≤ 1) (hq0 : 0 ≤ q) (hq3 : q < 1000000000) (hq1 : val (U.drop j) < (q + 1) * V) (hq2 : q * V < val (U.drop j) + V) :
    (br = 0 → divI U0 V m N j (ds.set j q) U') ∧ (br = 1 → 1 ≤ q ∧ ∀ U'' c, 0 ≤ c → c ≤ 1 → plusI U' B j (n + 1) U'' c → divI U0 V m N j (ds.set j (q - 1)) U'') := by
  obtain ⟨w1, w2, w3, w4⟩ := div_window h hVn hj
  obtain ⟨e1, e2, e3, e4, e5, e6, e7⟩ := h
  obtain ⟨m1, m2, m3, m4⟩ := hm
  have hp := pw_pos j
  rw [List.take_of_length_le (by omega), hB] at m4
  obtain ⟨s1, s2⟩ := same_outside m1 m3
  rw [← Nat.add_assoc] at s2
  obtain ⟨y0, y1, y2⟩ := window_lt (j := j) (s := n + 1) m2 (by omega) (by rw [← Nat.add_assoc, s2]; exact w3)
  have x2 := val_split U j (by omega)
  have hn1 : pw (j + (n + 1)) = pw j * pw (n + 1) := pw_add _ _
  rw [alg1 x2 hn1, y2, s1] at m4
  have hT : val (U'.drop j) = val (U.drop j) - q * V + br * pw (n + 1) := cancel_pw (Int.add_left_cancel m4)
  refine ⟨fun hbr => ?_, fun hbr => ?_⟩
  · subst hbr
    have hT' : val (U'.drop j) < V := by
      have : (q + 1) * V = q * V + V := by grind
      omega
    refine ⟨by simp [e1], e2.set j hq0 hq3, fun i hi => ?_, by omega, m2, ?_, left_lt m2 (by omega) y2 hT'⟩
    · rw [getD_set _ _ _ _ (by omega), if_neg (by omega)]; exact e3 i (by omega)
    · refine set_val_div e1 hjm (e3 j (by omega)) rfl e6 ?_
      rw [y2, s1, hT, x2]; grind
  · subst hbr
    have hqq : 1 ≤ q := by
      rcases Int.lt_or_le q 1 with h' | h'
      · exfalso
        obtain rfl : q = 0 := by omega
        omega
      · exact h'
    refine ⟨hqq, fun U'' c hc0 hc1 hpl => ?_⟩
    obtain ⟨p1, p2, p3, p4⟩ := hpl
    rw [List.take_of_length_le (by omega), hB] at p4
    obtain ⟨r1, r2⟩ := same_outside p1 p3
    rw [← Nat.add_assoc] at r2
    obtain ⟨z0, z1, z2⟩ := window_lt (j := j) (s := n + 1) p2 (by omega) (by rw [← Nat.add_assoc, r2, s2]; exact w3)
    rw [alg2 y2 hn1, z2, r1] at p4
    have hT2 : val (U''.drop j) = val (U'.drop j) + V - c * pw (n + 1) := cancel_pw (Int.add_left_cancel p4)
    have hpn : pw n ≤ pw (n + 1) := pw_mono (by omega)
    have hc : c = 1 := by
      rcases (show c = 0 ∨ c = 1 by omega) with rfl | rfl
      · exfalso; omega
      · rfl
    subst hc
    have hT3 : val (U''.drop j) = val (U.drop j) - (q - 1) * V := by
      have : (q - 1) * V = q * V - V := by grind
      omega
    have hT' : val (U''.drop j) < V := by
      have : (q - 1) * V = q * V - V := by grind
      omega
    refine ⟨by simp [e1], e2.set j (by omega) (by omega), fun i hi => ?_, by omega, p2, ?_, left_lt p2 (by omega) z2 hT'⟩
    · rw [getD_set _ _ _ _ (by omega), if_neg (by omega)]; exact e3 i (by omega)
    · refine set_val_div e1 hjm (e3 j (by omega)) rfl e6 ?_
      rw [z2, r1, s1, hT3, x2]; grind
theorem getD_drop (l : List Int) (j i : Nat) : (l.drop j).getD i 0 = l.getD (j + i) 0 := by
  simp only [List.getD_eq_getElem?_getD, List.getElem?_drop]
theorem getD_take {l : List Int} {j i : Nat} (h : i < j) : (l.take j).getD i 0 = l.getD i 0 := by
  simp only [List.getD_eq_getElem?_getD, List.getElem?_take]; rw [if_pos h]
/-- The digits in sight of a round. -/
theorem div_sight {U0 V : Int} {m N j p : Nat} {ds U B : List Int} (h : divI U0 V m N (j + 1) ds U) (hB : val B = V) (hBl : B.length = p + 2) (hBd : DgOk B) (hBt : B.getD (p + 1) 0 ≠ 0) (hj : j + (p + 2) + 1 ≤ N) :
    ∃ low lv, QF (val (U.drop j)) V (pw p) (U.getD (j + (p + 2)) 0) (U.getD (j + (p + 1)) 0) (U.getD (j + p) 0) low (B.getD (p + 1) 0) (B.getD p 0) lv := by
  have hVn : V < pw (p + 2) := by rw [← hB, ← hBl]; exact val_lt hBd
  obtain ⟨w1, w2, w3, w4⟩ := div_window h hVn hj
  obtain ⟨e1, e2, e3, e4, e5, e6, e7⟩ := h
  have hl : ((U.drop j).take (p + 2 + 1)).length = p + 3 := by rw [List.length_take, List.length_drop]; omega
  have h1 := val_top3 hl
  have h2 := val_top hBl
  rw [← w4, getD_take (by omega), getD_take (by omega), getD_take (by omega), getD_drop, getD_drop, getD_drop, List.take_take, Nat.min_eq_left (by omega)] at h1
  have a1 := val_nonneg ((e5.drop j).take p)
  have a2 := val_lt ((e5.drop j).take p)
  have b1 := val_nonneg (hBd.take p)
  have b2 := val_lt (hBd.take p)
  rw [List.length_take, List.length_drop, Nat.min_eq_left (by omega)] at a2
  rw [List.length_take, Nat.min_eq_left (by omega)] at b2
  have c1 := e5.getD (j + (p + 2)); have c2 := e5.getD (j + (p + 1)); have c3 := e5.getD (j + p)
  have c4 := hBd.getD (p + 1); have c5 := hBd.getD p
  exact ⟨_, _, pw_pos p, h1, by rw [← hB]; exact h2, a1, a2, b1, b2, c1.1, c2.1, c2.2, c3.1, c3.2, by omega, c4.2, c5.1, c5.2, w2⟩
/-- At the end the row is the remainder. -/
theorem div_end {U0 V : Int} {m N : Nat} {ds U : List Int} (h : divI U0 V m N 0 ds U) : val ds * V + val U = U0 ∧ 0 ≤ val U ∧ val U < V ∧ 0 ≤ val ds := by
  obtain ⟨e1, e2, e3, e4, e5, e6, e7⟩ := h
  rw [pw_zero, Int.mul_one] at e7
  exact ⟨e6, val_nonneg e5, e7, val_nonneg e2⟩
theorem div_result {a b by' q r : Nat} (hb : 0 < b) (hy : 0 < by') (h : q * (b * by') + r = a * by') (hr : r < b * by') : a / b = q ∧ r / by' = a % b := by
  have h1 : by' ∣ r := by
    have h2 : by' ∣ q * (b * by') := ⟨q * b, by rw [Nat.mul_comm by', Nat.mul_assoc]⟩
    exact (Nat.dvd_add_right h2).1 (by rw [h]; exact ⟨a, Nat.mul_comm _ _⟩)
  obtain ⟨t, rfl⟩ := h1
  have h3 : q * b + t = a := by
    apply Nat.eq_of_mul_eq_mul_right hy
    rw [← h, Nat.add_mul, Nat.mul_assoc, Nat.mul_comm t]
  have h4 : t < b := by
    rw [Nat.mul_comm b] at hr
    exact Nat.lt_of_mul_lt_mul_left hr
  subst h3
  rw [Nat.mul_div_cancel_left _ hy]
  constructor
  · rw [Nat.mul_comm, Nat.mul_add_div hb, Nat.div_eq_of_lt h4]; rfl
  · rw [Nat.mul_comm q, Nat.mul_add_mod, Nat.mod_eq_of_lt h4]
end Go.Proofs.YtkpalfgnfhphjaaDoor
