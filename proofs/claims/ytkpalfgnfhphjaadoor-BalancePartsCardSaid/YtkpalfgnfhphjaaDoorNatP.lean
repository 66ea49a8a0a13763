/- Naturals in the base 10^9: digits, their value, the canonical list of a number. -/
import Derived.Test.YtkpalfgnfhphjaaDoorRds
namespace Go.Proofs.YtkpalfgnfhphjaaDoor

/-- What a list of digits is worth, the least digit first. -/
def val : List Int → Int
  | [] => 0
  | d :: ds => d + 1000000000 * val ds
/-- Digits. -/
def DgOk (l : List Int) : Prop := ∀ d ∈ l, 0 ≤ d ∧ d < 1000000000
/-- The base to a power. -/
def pw (k : Nat) : Int := 1000000000 ^ k
theorem pw_zero : pw 0 = 1 := rfl
theorem pw_succ (k : Nat) : pw (k + 1) = 1000000000 * pw k := by unfold pw; rw [Int.pow_succ, Int.mul_comm]
theorem pw_pos (k : Nat) : 0 < pw k := by
  induction k with
  | zero => decide
  | succ k ih => rw [pw_succ]; omega
theorem pw_add (a b : Nat) : pw (a + b) = pw a * pw b := by unfold pw; rw [Int.pow_add]
theorem pw_mono {a b : Nat} (h : a ≤ b) : pw a ≤ pw b := by
  obtain ⟨c, rfl⟩ := Nat.le.dest h
  rw [pw_add]
  have := pw_pos a; have := pw_pos c
  calc pw a = pw a * 1 := by rw [Int.mul_one]
    _ ≤ pw a * pw c := Int.mul_le_mul_of_nonneg_left (by omega) (by omega)
theorem DgOk.nil : DgOk [] := fun d h => by cases h
theorem DgOk.cons {d : Int} {l : List Int} (h0 : 0 ≤ d) (h1 : d < 1000000000) (h : DgOk l) : DgOk (d :: l) := fun x hx => by
  rcases List.mem_cons.1 hx with rfl | hx
  · exact ⟨h0, h1⟩
  · exact h x hx
theorem DgOk.tail {d : Int} {l : List Int} (h : DgOk (d :: l)) : DgOk l := fun x hx => h x (List.mem_cons_of_mem _ hx)
theorem DgOk.append {l m : List Int} (h : DgOk l) (k : DgOk m) : DgOk (l ++ m) := fun x hx => by
  rcases List.mem_append.1 hx with hx | hx
  · exact h x hx
  · exact k x hx
theorem DgOk.take {l : List Int} (h : DgOk l) (k : Nat) : DgOk (l.take k) := fun x hx => h x (List.mem_of_mem_take hx)
theorem DgOk.drop {l : List Int} (h : DgOk l) (k : Nat) : DgOk (l.drop k) := fun x hx => h x (List.mem_of_mem_drop hx)
theorem DgOk.set {l : List Int} (h : DgOk l) (i : Nat) {x : Int} (h0 : 0 ≤ x) (h1 : x < 1000000000) : DgOk (l.set i x) := fun y hy => by
  rcases List.mem_or_eq_of_mem_set hy with hy | rfl
  · exact h y hy
  · exact ⟨h0, h1⟩
theorem DgOk.getD {l : List Int} (h : DgOk l) (i : Nat) : 0 ≤ l.getD i 0 ∧ l.getD i 0 < 1000000000 := by
  rw [List.getD_eq_getElem?_getD]
  rcases Nat.lt_or_ge i l.length with hi | hi
  · rw [List.getElem?_eq_getElem hi]; exact h _ (List.getElem_mem hi)
  · rw [List.getElem?_eq_none hi]; decide
theorem DgOk.replicate (n : Nat) : DgOk (List.replicate n 0) := fun x hx => by
  obtain ⟨_, rfl⟩ := List.mem_replicate.1 hx; decide
theorem val_nonneg {l : List Int} (h : DgOk l) : 0 ≤ val l := by
  induction l with
  | nil => decide
  | cons d l ih =>
    have := h d (by simp); have := ih h.tail
    unfold val; omega
theorem val_lt {l : List Int} (h : DgOk l) : val l < pw l.length := by
  induction l with
  | nil => decide
  | cons d l ih =>
    have := h d (by simp); have := ih h.tail
    unfold val; rw [List.length_cons, pw_succ]; omega
theorem val_append (l m : List Int) : val (l ++ m) = val l + pw l.length * val m := by
  induction l with
  | nil => simp [val, pw_zero]
  | cons d l ih => simp only [List.cons_append, val, ih, List.length_cons, pw_succ]; grind
theorem val_replicate (n : Nat) : val (List.replicate n 0) = 0 := by
  induction n with
  | zero => rfl
  | succ n ih => rw [List.replicate_succ]; unfold val; omega
theorem val_take_succ {l : List Int} {k : Nat} (h : k < l.length) : val (l.take (k + 1)) = val (l.take k) + pw k * l.getD k 0 := by
  rw [List.take_succ_eq_append_getElem h, val_append, List.length_take, Nat.min_eq_left (by omega)]
  simp [val, h]
theorem val_split (l : List Int) (k : Nat) (h : k ≤ l.length) : val l = val (l.take k) + pw k * val (l.drop k) := by
  have := val_append (l.take k) (l.drop k)
  rw [List.take_append_drop, List.length_take, Nat.min_eq_left h] at this
  exact this
theorem val_drop {l : List Int} {k : Nat} (h : k < l.length) : val (l.drop k) = l.getD k 0 + 1000000000 * val (l.drop (k + 1)) := by
  rw [List.drop_eq_getElem_cons h]; simp [val, h]
theorem val_set (l : List Int) (k : Nat) (x : Int) (h : k < l.length) : val (l.set k x) = val l + (x - l.getD k 0) * pw k := by
  induction l generalizing k with
  | nil => simp at h
  | cons d l ih =>
    cases k with
    | zero => simp only [List.set_cons_zero, val, pw_zero, List.getD_cons_zero]; omega
    | succ k =>
      have := ih k (by simpa using h)
      simp only [List.set_cons_succ, val, List.getD_cons_succ, pw_succ, this]; grind
theorem getD_set (l : List Int) (i j : Nat) (x : Int) (h : i < l.length) : (l.set i x).getD j 0 = if j = i then x else l.getD j 0 := by
  simp only [List.getD_eq_getElem?_getD, List.getElem?_set]
  by_cases e : i = j
  · subst e; simp [h]
  · rw [if_neg e, if_neg (Ne.symm e)]
theorem val_zero_drop {l : List Int} {k : Nat} (h : ∀ j, k ≤ j → j < l.length → l.getD j 0 = 0) : val (l.drop k) = 0 := by
  rcases Nat.lt_or_ge k l.length with hk | hk
  · obtain ⟨d, hd⟩ : ∃ d, l.length - k = d := ⟨_, rfl⟩
    induction d generalizing k with
    | zero => omega
    | succ d ih =>
      rw [val_drop hk, h k (Nat.le_refl _) hk]
      rcases Nat.lt_or_ge (k + 1) l.length with hk' | hk'
      · rw [ih (fun j hj hj' => h j (by omega) hj') hk' (by omega)]; rfl
      · rw [List.drop_eq_nil_of_le hk']; rfl
  · rw [List.drop_eq_nil_of_le hk]; rfl

/-- The digits of a number. -/
def dg (n : Nat) : List Int := if n = 0 then [] else ((n % 1000000000 : Nat) : Int) :: dg (n / 1000000000)
termination_by n
decreasing_by exact Nat.div_lt_self (by omega) (by omega)
theorem dg_zero : dg 0 = [] := by unfold dg; rfl
theorem dg_ok (n : Nat) : DgOk (dg n) := by
  induction n using Nat.strongRecOn with
  | _ n ih =>
    unfold dg
    split
    · exact DgOk.nil
    · exact DgOk.cons (by omega) (by omega) (ih _ (Nat.div_lt_self (by omega) (by omega)))
theorem dg_val (n : Nat) : val (dg n) = n := by
  induction n using Nat.strongRecOn with
  | _ n ih =>
    unfold dg
    split
    · subst_vars; rfl
    · unfold val
      rw [ih _ (Nat.div_lt_self (by omega) (by omega))]
      omega
/-- A list without a leading zero is the canonical one. -/
theorem dg_of {l : List Int} (h : DgOk l) (hl : l = [] ∨ l.getD (l.length - 1) 0 ≠ 0) : dg (val l).toNat = l := by
  induction l with
  | nil => exact dg_zero
  | cons d l ih =>
    have hd := h d (by simp)
    have hv := val_nonneg h.tail
    have ht : dg (val l).toNat = l := by
      apply ih h.tail
      rcases hl with hl | hl
      · cases hl
      · cases l with
        | nil => exact Or.inl rfl
        | cons e m => right; simpa using hl
    have hne : (val (d :: l)).toNat ≠ 0 := by
      unfold val
      cases l with
      | nil =>
        rcases hl with hl | hl
        · cases hl
        · simp at hl; simp [val]; omega
      | cons e m =>
        intro h0
        have hz : val (e :: m) = 0 := by omega
        rw [hz] at ht
        rw [show dg (Int.toNat 0) = [] from dg_zero] at ht
        cases ht
    unfold dg
    rw [if_neg hne]
    have e0 : val (d :: l) = d + 1000000000 * val l := rfl
    have e1 : (val (d :: l)).toNat % 1000000000 = d.toNat := by rw [e0]; omega
    have e2 : (val (d :: l)).toNat / 1000000000 = (val l).toNat := by rw [e0]; omega
    rw [e1, e2, ht]
    congr 1
    omega
theorem dg_last {n : Nat} (h : 0 < n) : (dg n).getD ((dg n).length - 1) 0 ≠ 0 := by
  induction n using Nat.strongRecOn with
  | _ n ih =>
    unfold dg
    rw [if_neg (by omega)]
    rcases Nat.eq_zero_or_pos (n / 1000000000) with hz | hz
    · rw [hz, dg_zero]; simp; omega
    · have := ih _ (Nat.div_lt_self h (by omega)) hz
      have hl : 0 < (dg (n / 1000000000)).length := by
        unfold dg; rw [if_neg (by omega)]; simp
      simp only [List.length_cons]
      rw [show (dg (n / 1000000000)).length + 1 - 1 = ((dg (n / 1000000000)).length - 1) + 1 by omega, List.getD_cons_succ]
      exact this

/-- How many digits a number has. -/
def ln (n : Nat) : Nat := (dg n).length
theorem ln_zero : ln 0 = 0 := by unfold ln; rw [dg_zero]; rfl
theorem lt_ln (n : Nat) : (n : Int) < pw (ln n) := by
  have := val_lt (dg_ok n); rw [dg_val] at this; exact this
theorem ln_pos {n : Nat} (h : 0 < n) : 0 < ln n := by unfold ln; unfold dg; rw [if_neg (by omega)]; simp
theorem ln_le_pw {n : Nat} (h : 0 < n) : pw (ln n - 1) ≤ n := by
  have hl := ln_pos h
  have h1 := val_split (dg n) (ln n - 1) (by unfold ln; omega)
  have h2 := val_drop (l := dg n) (k := ln n - 1) (by unfold ln at *; omega)
  have h3 := dg_last h
  have h4 := (dg_ok n).getD (ln n - 1)
  have h5 : val ((dg n).drop (ln n - 1 + 1)) = 0 := by rw [List.drop_eq_nil_of_le (by unfold ln at *; omega)]; rfl
  have h6 := val_nonneg ((dg_ok n).take (ln n - 1))
  have h7 := pw_pos (ln n - 1)
  rw [dg_val] at h1
  change (dg n).getD (ln n - 1) 0 ≠ 0 at h3
  rw [h5] at h2
  have h8 : pw (ln n - 1) * 1 ≤ pw (ln n - 1) * val ((dg n).drop (ln n - 1)) := Int.mul_le_mul_of_nonneg_left (by omega) (by omega)
  omega
theorem ln_le {n k : Nat} (h : (n : Int) < pw k) : ln n ≤ k := by
  rcases Nat.eq_zero_or_pos n with rfl | hp
  · rw [ln_zero]; omega
  · rcases Nat.lt_or_ge k (ln n) with hk | hk
    · have h1 := ln_le_pw hp
      have h2 := pw_mono (show k ≤ ln n - 1 by omega)
      omega
    · exact hk
theorem ln_mono {a b : Nat} (h : a ≤ b) : ln a ≤ ln b := ln_le (by have := lt_ln b; omega)
theorem ln_mul (a b : Nat) : ln (a * b) ≤ ln a + ln b := by
  apply ln_le
  rw [pw_add]
  have h1 := lt_ln a; have h2 := lt_ln b
  have h3 := pw_pos (ln b)
  rcases Nat.eq_zero_or_pos a with rfl | ha
  · simp; exact Int.mul_pos (pw_pos _) h3
  · calc ((a * b : Nat) : Int) = (a : Int) * b := by push_cast; rfl
      _ < a * pw (ln b) := Int.mul_lt_mul_of_pos_left h2 (by omega)
      _ ≤ pw (ln a) * pw (ln b) := Int.mul_le_mul_of_nonneg_right (by omega) (by omega)
theorem ln_add (a b : Nat) : ln (a + b) ≤ max (ln a) (ln b) + 1 := by
  apply ln_le
  rw [pw_succ]
  have h1 := lt_ln a; have h2 := lt_ln b
  have h3 := pw_mono (Nat.le_max_left (ln a) (ln b))
  have h4 := pw_mono (Nat.le_max_right (ln a) (ln b))
  have h5 := pw_pos (max (ln a) (ln b))
  push_cast
  omega
theorem ln_one : ln 1 = 1 := by
  have h1 := ln_pos (n := 1) (by omega)
  have h2 := ln_le (n := 1) (k := 1) (by decide)
  omega
/-- Of two numbers the one with fewer digits is less. -/
theorem lt_of_ln {a b : Nat} (h : ln a < ln b) : a < b := by
  rcases Nat.lt_or_ge a b with h' | h'
  · exact h'
  · have := ln_mono h'; omega
end Go.Proofs.YtkpalfgnfhphjaaDoor
