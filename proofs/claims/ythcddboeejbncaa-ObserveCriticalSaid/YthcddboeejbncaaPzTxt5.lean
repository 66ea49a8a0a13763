/- Texts of rationals (plain). -/
import Derived.Test.YthcddboeejbncaaPzTxt4
import Derived.Test.YthcddboeejbncaaPzRatP
import Derived.Lib.ItoaNum
import Derived.Lib.IndexLaws
namespace Go.Proofs.Ythcddboeejbncaa
open Go.RowKit
/-! ### Decimal texts of naturals -/
theorem digB_iff (c : Nat) : digB c = true ↔ 48 ≤ c ∧ c ≤ 57 := by
  unfold digB
  simp
theorem digs_of {l : List UInt8} (h : ∀ c ∈ l, 48 ≤ c.toNat ∧ c.toNat ≤ 57) : digsE l = true := by
  induction l with
  | nil => rfl
  | cons c l ih =>
    unfold digsE
    rw [if_pos ((digB_iff _).2 (h c (List.mem_cons_self ..)))]
    exact ih (fun d hd => h d (List.mem_cons_of_mem _ hd))
theorem byte48 {d : Nat} (h : d < 10) : (UInt8.ofNat (48 + d)).toNat = 48 + d := by simp; omega
/-- The text of a natural. -/
abbrev dT (n : Nat) : List UInt8 := Lib.decDigits n
theorem dT_small {n : Nat} (h : n < 10) : dT n = [UInt8.ofNat (48 + n)] := by show Lib.decDigits n = _; rw [Lib.decDigits, dif_pos h]
theorem dT_big {n : Nat} (h : ¬ n < 10) : dT n = dT (n / 10) ++ [UInt8.ofNat (48 + n % 10)] := by show Lib.decDigits n = _; rw [Lib.decDigits, dif_neg h]
theorem dT_digs (n : Nat) : ∀ c ∈ dT n, 48 ≤ c.toNat ∧ c.toNat ≤ 57 := by
  induction n using Nat.strongRecOn with
  | _ n ih =>
    by_cases h : n < 10
    · rw [dT_small h]
      intro c hc
      rw [List.mem_singleton.1 hc, byte48 h]; omega
    · rw [dT_big h]
      intro c hc
      rcases List.mem_append.1 hc with hc | hc
      · exact ih (n / 10) (by omega) c hc
      · rw [List.mem_singleton.1 hc, byte48 (Nat.mod_lt _ (by decide))]; omega
theorem dT_val (n : Nat) : decV (dT n) = n := by
  induction n using Nat.strongRecOn with
  | _ n ih =>
    by_cases h : n < 10
    · rw [dT_small h, show [UInt8.ofNat (48 + n)] = [] ++ [UInt8.ofNat (48 + n)] from rfl, dec_snoc, byte48 h]
      show 0 * 10 + _ = _
      omega
    · rw [dT_big h, dec_snoc, ih (n / 10) (by omega), byte48 (Nat.mod_lt _ (by decide))]; omega
theorem dT_ne (n : Nat) : dT n ≠ [] := by
  by_cases h : n < 10
  · rw [dT_small h]; simp
  · rw [dT_big h]; simp
theorem dT_head {n : Nat} (h : 0 < n) : ((dT n).getD 0 0).toNat ≠ 48 := by
  induction n using Nat.strongRecOn with
  | _ n ih =>
    by_cases h9 : n < 10
    · rw [dT_small h9]
      show (UInt8.ofNat (48 + n)).toNat ≠ 48
      rw [byte48 h9]; omega
    · rw [dT_big h9]
      have h2 := ih (n / 10) (by omega) (by omega)
      have h3 : 0 < (dT (n / 10)).length := List.length_pos_iff.2 (dT_ne _)
      rw [List.getD_eq_getElem?_getD, List.getElem?_append_left h3, ← List.getD_eq_getElem?_getD]
      exact h2
/-- A row of digits without a leading zero is the text of its value. -/
theorem dT_of : ∀ (k : Nat) (l : List UInt8), l.length = k → (∀ c ∈ l, 48 ≤ c.toNat ∧ c.toNat ≤ 57) → 0 < l.length → ((l.getD 0 0).toNat = 48 → l.length = 1) → dT (decV l) = l := by
  intro k
  induction k with
  | zero => intro l h _ h2; omega
  | succ k ih =>
    intro l hl hd h0 hz
    have hne : l ≠ [] := List.length_pos_iff.1 h0
    obtain ⟨m, c, rfl⟩ : ∃ m c, l = m ++ [c] := ⟨l.dropLast, l.getLast hne, (List.dropLast_concat_getLast hne).symm⟩
    have hc := hd c (by simp)
    have e : UInt8.ofNat (48 + (c.toNat - 48)) = c := by
      rw [show 48 + (c.toNat - 48) = c.toNat by omega]; simp
    have hml : m.length = k := by simp at hl; omega
    rw [dec_snoc]
    by_cases hm : m = []
    · subst hm
      show dT (0 * 10 + _) = _
      rw [dT_small (by omega), show 0 * 10 + (c.toNat - 48) = c.toNat - 48 by omega, e]; rfl
    · have hm0 : 0 < m.length := List.length_pos_iff.2 hm
      have hg : (m ++ [c]).getD 0 0 = m.getD 0 0 := by
        rw [List.getD_eq_getElem?_getD, List.getElem?_append_left hm0, ← List.getD_eq_getElem?_getD]
      have hz2 : (m.getD 0 0).toNat ≠ 48 := by
        intro h48
        rw [hg] at hz
        have := hz h48
        simp at this
        exact hm this
      have hi := ih m hml (fun d hd' => hd d (List.mem_append_left _ hd')) hm0 (fun h => absurd h hz2)
      have hpos : 0 < decV m := by
        rcases Nat.eq_zero_or_pos (decV m) with h0' | h0'
        · exfalso
          rw [h0'] at hi
          rw [← hi] at hz2
          exact hz2 (by decide +kernel)
        · exact h0'
      rw [dT_big (by omega), show (decV m * 10 + (c.toNat - 48)) / 10 = decV m by omega, hi, show (decV m * 10 + (c.toNat - 48)) % 10 = c.toNat - 48 by omega, e]
theorem natE_dT {l : List UInt8} (h : natE l = 0) : l = dT (decV l) := by
  obtain ⟨h1, h2, h3⟩ := natE_digs h
  refine (dT_of _ l rfl (digs_all h1) h3 ?_).symm
  intro h48
  unfold natE at h
  split at h
  · cases h
  · rename_i hh
    have : ¬ 1 < l.length := fun h1 => hh (Or.inr ⟨h48, h1⟩)
    omega
/-- Texts of at most 2000 bytes are accepted. -/
theorem natE_of {n : Nat} (h : (dT n).length ≤ 2000) : natE (dT n) = 0 := by
  have hl : 0 < (dT n).length := List.length_pos_iff.2 (dT_ne n)
  unfold natE
  rw [if_neg, if_neg, if_neg (by omega)]
  · rw [digs_of (dT_digs n)]; simp
  · rintro (h1 | ⟨h1, h2⟩)
    · omega
    · rcases Nat.eq_zero_or_pos n with rfl | hn
      · rw [dT_small (by decide)] at h2; simp at h2
      · exact dT_head hn h1
theorem dT_inj {a b : Nat} (h : dT a = dT b) : a = b := by rw [← dT_val a, h, dT_val]
theorem dT_zero : dT 0 = [48] := by decide +kernel
theorem dT_one : dT 1 = [49] := by decide +kernel
/-! ### Texts of rationals -/
/-- The text of a number. -/
def ratT (q : Rat) : List UInt8 := (if q.num < 0 then [45] else []) ++ (dT q.num.natAbs ++ if q.den = 1 then [] else 47 :: dT q.den)
theorem idx_free {c : UInt8} : ∀ {a : List UInt8}, c ∉ a → Lib.indexByte a c = -1
  | [], _ => rfl
  | b :: l, h => by
    rw [List.mem_cons, not_or] at h
    have hb : ¬ (b == c) = true := fun e => h.1 (eq_of_beq e).symm
    rw [Lib.indexByte, if_neg hb, idx_free h.2]; rfl
theorem idx_mid {c : UInt8} (t : List UInt8) : ∀ {a : List UInt8}, c ∉ a → Lib.indexByte (a ++ c :: t) c = a.length
  | [], _ => by simp [Lib.indexByte]
  | b :: l, h => by
    rw [List.mem_cons, not_or] at h
    have hb : ¬ (b == c) = true := fun e => h.1 (eq_of_beq e).symm
    have h2 : ¬ ((l.length : Int) == -1) = true := fun e => by have := eq_of_beq e; omega
    rw [List.cons_append, Lib.indexByte, if_neg hb, idx_mid t h.2, if_neg h2]
    simp
theorem cut_free {c : UInt8} {a : List UInt8} (h : c ∉ a) : cutL c a = (a, [], false) := by
  unfold cutL
  rw [idx_free h, if_neg (by decide)]
theorem cut_mid {c : UInt8} {a : List UInt8} (t : List UInt8) (h : c ∉ a) : cutL c (a ++ c :: t) = (a, t, true) := by
  unfold cutL
  rw [idx_mid t h, if_pos (by omega)]
  simp
theorem cut_back (c : UInt8) (l : List UInt8) : l = (cutL c l).1 ++ if (cutL c l).2.2 = true then c :: (cutL c l).2.1 else [] := by
  unfold cutL
  split
  · rename_i h
    obtain ⟨o, ho⟩ : ∃ o : Nat, Lib.indexByte l c = o := ⟨(Lib.indexByte l c).toNat, by omega⟩
    have h1 := (Lib.indexByte_some ho).1
    rw [ho]
    simp only [Int.toNat_natCast, if_true]
    obtain ⟨hk, hx⟩ := List.getElem?_eq_some_iff.1 h1
    conv => lhs; rw [← List.take_append_drop o l, List.drop_eq_getElem_cons hk, hx]
  · simp
theorem no45 (n : Nat) : (45 : UInt8) ∉ dT n ∧ (47 : UInt8) ∉ dT n := by
  constructor <;> (intro e; have := dT_digs n _ e; simp at this)
theorem pre_digs (n : Nat) (t : List UInt8) : Lib.hasPrefix (dT n ++ t) [45] = false := by
  cases h : dT n with
  | nil => exact absurd h (dT_ne n)
  | cons b r =>
    have := (no45 n).1
    rw [h, List.mem_cons, not_or] at this
    unfold Lib.hasPrefix
    rw [List.cons_append, List.isPrefixOf]
    simp [this.1]
/-- The parts of the text of a number. -/
theorem ratS_T (q : Rat) : ratS (ratT q) = ⟨decide (q.num < 0), dT q.num.natAbs, if q.den = 1 then [] else dT q.den, decide (q.den ≠ 1)⟩ := by
  have key : ∀ (l : List UInt8), Lib.hasPrefix l [45] = decide (q.num < 0) → Lib.trimPrefix l [45] = dT q.num.natAbs ++ (if q.den = 1 then [] else 47 :: dT q.den) → ratS l = ⟨decide (q.num < 0), dT q.num.natAbs, if q.den = 1 then [] else dT q.den, decide (q.den ≠ 1)⟩ := by
    intro l h1 h2
    unfold ratS
    rw [h1, h2]
    by_cases hd : q.den = 1
    · simp only [hd, if_true, List.append_nil]
      rw [cut_free (no45 _).2]; simp
    · simp only [hd, if_false]
      rw [cut_mid _ (no45 _).2]; simp [hd]
  apply key
  · unfold ratT
    by_cases hn : q.num < 0
    · rw [if_pos hn, decide_eq_true hn]; rfl
    · rw [if_neg hn, decide_eq_false hn, List.nil_append, pre_digs]
  · unfold ratT
    by_cases hn : q.num < 0
    · rw [if_pos hn]; rfl
    · rw [if_neg hn, List.nil_append]
      unfold Lib.trimPrefix
      rw [pre_digs]; rfl
/-- Numbers whose texts are not too long. -/
def FitQ (q : Rat) : Prop := (dT q.num.natAbs).length ≤ 2000 ∧ (dT q.den).length ≤ 2000
theorem gcd_q (q : Rat) : Nat.gcd q.num.natAbs q.den = 1 := q.reduced
theorem ratE_T {q : Rat} (h : FitQ q) : ratE (ratT q) = 0 := by
  unfold ratE
  rw [ratS_T]
  have hx : natE (dT q.num.natAbs) = 0 := natE_of h.1
  have hy : natE (dT q.den) = 0 := natE_of h.2
  have hdp := den_pos q
  unfold RatS.e RatS.x RatS.y
  by_cases hd : q.den = 1
  · simp only [hd, if_true, ne_eq, not_true, decide_false, hx]
    rw [if_neg, if_neg, if_neg]
    · simp
    · simp
    · rintro (h1 | h1 | ⟨h1, h2⟩)
      · cases h1
      · simp at h1
      · have : q.num.natAbs = 0 := dT_inj (h2.trans dT_zero.symm)
        simp at h1; omega
  · simp only [hd, if_false, ne_eq, not_false_iff, decide_true, hx, hy, if_true]
    rw [if_neg, if_neg, if_neg]
    · rintro ⟨_, h1 | h1 | h1⟩
      · have : q.den = 0 := dT_inj (h1.trans dT_zero.symm)
        omega
      · exact hd (dT_inj (h1.trans dT_one.symm))
      · rw [dT_val, dT_val] at h1; exact h1 (gcd_q q)
    · simp
    · rintro (h1 | h1 | ⟨h1, h2⟩)
      · cases h1
      · cases h1
      · have : q.num.natAbs = 0 := dT_inj (h2.trans dT_zero.symm)
        simp at h1; omega
/-- A text that is accepted is the text of a number. -/
theorem ratE_ok {l : List UInt8} (h : ratE l = 0) : ∃ q, l = ratT q ∧ FitQ q := by
  have hb := cut_back 47 (Lib.trimPrefix l [45])
  have hl : l = (if Lib.hasPrefix l [45] = true then [45] else []) ++ Lib.trimPrefix l [45] := by
    unfold Lib.trimPrefix
    by_cases hp : Lib.hasPrefix l [45] = true
    · rw [if_pos hp, if_pos hp]
      unfold Lib.hasPrefix at hp
      cases l with
      | nil => simp [List.isPrefixOf] at hp
      | cons b r =>
        simp [List.isPrefixOf] at hp
        subst hp; rfl
    · rw [if_neg hp, if_neg hp]; rfl
  unfold ratE at h
  obtain ⟨r, hr⟩ : ∃ r, ratS l = r := ⟨_, rfl⟩
  have e1 : Lib.hasPrefix l [45] = r.neg := by rw [← hr]; rfl
  have e2 : (cutL 47 (Lib.trimPrefix l [45])).1 = r.a := by rw [← hr]; rfl
  have e3 : (cutL 47 (Lib.trimPrefix l [45])).2.1 = r.b := by rw [← hr]; rfl
  have e4 : (cutL 47 (Lib.trimPrefix l [45])).2.2 = r.is := by rw [← hr]; rfl
  rw [e2, e3, e4] at hb
  rw [e1, hb] at hl
  rw [hr] at h
  clear hr e1 e2 e3 e4 hb
  obtain ⟨ng, a, b, is⟩ := r
  simp only at hl
  unfold RatS.e RatS.x RatS.y at h
  dsimp only at h
  by_cases h5 : natE a = 5 ∨ (if is = true then natE b else 0) = 5 ∨ (ng = true ∧ a = [48])
  · rw [if_pos h5] at h; cases h
  · rw [if_neg h5] at h
    by_cases h2 : natE a ≠ 0 ∨ (if is = true then natE b else 0) ≠ 0
    · rw [if_pos h2] at h; cases h
    · rw [if_neg h2] at h
      by_cases h3 : is = true ∧ (b = [48] ∨ b = [49] ∨ Nat.gcd (decV a) (decV b) ≠ 1)
      · rw [if_pos h3] at h; cases h
      · clear h
        have hx : natE a = 0 := Decidable.not_not.1 (fun hh => h2 (Or.inl hh))
        have hda := natE_dT hx
        have hla := (natE_digs hx).2.1
        cases is with
        | false =>
          refine ⟨((sg ng (decV a) : Int) : Rat), ?_, ?_⟩
          · rw [hl]
            unfold ratT
            show _ = (if (sg ng (decV a)) < 0 then [45] else []) ++ (dT (sg ng (decV a)).natAbs ++ if 1 = 1 then [] else _)
            have e : (sg ng (decV a)).natAbs = decV a := by unfold sg; split <;> omega
            rw [e, ← hda]
            cases ng with
            | false => rw [if_neg (show ¬ sg false (decV a) < 0 by unfold sg; simp)]; rfl
            | true =>
              have hne : a ≠ [48] := fun hh => h5 (Or.inr (Or.inr ⟨rfl, hh⟩))
              have h0 : decV a ≠ 0 := fun hh => hne (by rw [hda, hh, dT_zero])
              rw [if_pos (show sg true (decV a) < 0 by unfold sg; simp; omega)]; rfl
          · have e : ((sg ng (decV a) : Int) : Rat).num.natAbs = decV a := by show (sg ng (decV a)).natAbs = _; unfold sg; split <;> omega
            refine ⟨by rw [e, ← hda]; exact hla, ?_⟩
            show (dT 1).length ≤ 2000
            rw [dT_one]; decide
        | true =>
          have hy : natE b = 0 := Decidable.not_not.1 (fun hh => h2 (Or.inr (by rw [if_pos rfl]; exact hh)))
          have hdb := natE_dT hy
          have hlb := (natE_digs hy).2.1
          have hb0 : decV b ≠ 0 := fun hh => h3 ⟨rfl, Or.inl (by rw [hdb, hh, dT_zero])⟩
          have hb1 : decV b ≠ 1 := fun hh => h3 ⟨rfl, Or.inr (Or.inl (by rw [hdb, hh, dT_one]))⟩
          have hg : Nat.gcd (decV a) (decV b) = 1 := Decidable.not_not.1 (fun hh => h3 ⟨rfl, Or.inr (Or.inr hh)⟩)
          have ha0 : 0 < decV a := by
            rcases Nat.eq_zero_or_pos (decV a) with h0 | h0
            · rw [h0, Nat.gcd_zero_left] at hg; exact absurd hg hb1
            · exact h0
          obtain ⟨g1, g2, g3⟩ := low_parts ng (decV a) (decV b) (by omega) ha0
          rw [hg, Nat.div_one] at g1 g2
          refine ⟨mkRat (sg ng (decV a)) (decV b), ?_, by rw [FitQ, g1, g2, ← hda, ← hdb]; exact ⟨hla, hlb⟩⟩
          rw [hl]
          unfold ratT
          rw [g1, g2, if_neg hb1, ← hda, ← hdb, if_pos rfl]
          congr 1
          cases ng with
          | false => rw [if_neg (of_decide_eq_false g3)]; rfl
          | true => rw [if_pos (of_decide_eq_true g3)]; rfl
theorem ratT_inj {p q : Rat} (h : ratT p = ratT q) : p = q := by
  have hs := (ratS_T p).symm.trans ((congrArg ratS h).trans (ratS_T q))
  injection hs with h1 h2 h3 h4
  have n1 := dT_inj h2
  have hs : (p.num < 0) ↔ (q.num < 0) := by rw [Bool.eq_iff_iff] at h1; simpa using h1
  have hd : p.den = q.den := by
    by_cases hp : p.den = 1
    · rw [Bool.eq_iff_iff] at h4
      simp [hp] at h4
      omega
    · have hq : q.den ≠ 1 := by
        rw [Bool.eq_iff_iff] at h4
        simp at h4
        exact fun hh => hp (by have := h4; omega)
      rw [if_neg hp, if_neg hq] at h3
      exact dT_inj h3
  exact Rat.ext (by omega) hd
theorem ratT_zero {q : Rat} : ratT q = [48] ↔ q = 0 := by
  have h0 : ratT 0 = [48] := by decide +kernel
  exact ⟨fun h => ratT_inj (h.trans h0.symm), fun h => by rw [h]; exact h0⟩
theorem dT_len {n k : Nat} (hk : 0 < k) (h : n < 10 ^ k) : (dT n).length ≤ k := by
  induction k generalizing n with
  | zero => omega
  | succ k ih =>
    by_cases hn : n < 10
    · rw [dT_small hn]; simp
    · rw [dT_big hn, List.length_append, List.length_singleton]
      rcases Nat.eq_zero_or_pos k with rfl | hk'
      · simp at h; omega
      · have := ih hk' (n := n / 10) (by rw [Nat.pow_succ] at h; omega)
        omega
theorem lt_dT (n : Nat) : n < 10 ^ (dT n).length := by
  have := dec_lt (l := dT n) (fun c hc => dT_digs n c hc)
  rwa [dT_val] at this
end Go.Proofs.Ythcddboeejbncaa
