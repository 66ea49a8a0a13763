/- journal: what is printed is parsed, what is parsed is printed (plain laws). -/
import Derived.Test.YtjakhgilkogcnaaDoorJr22
import Derived.Lib.AtoiTie
namespace Go.Proofs.YtjakhgilkogcnaaDoor
open Go.RowKit
/-! ### Pieces of a text -/
/-- A text cut at a byte. -/
def cutAt (c : UInt8) : List UInt8 → List (List UInt8)
  | [] => [[]]
  | b :: l => if b = c then [] :: cutAt c l else match cutAt c l with
    | [] => [[b]]
    | x :: xs => (b :: x) :: xs
theorem index_ne {b c : UInt8} (l : List UInt8) (h : b ≠ c) : Lib.index (b :: l) [c] = if Lib.index l [c] == -1 then -1 else Lib.index l [c] + 1 := by
  have hp : ([c] : List UInt8).isPrefixOf (b :: l) = false := by simp [List.isPrefixOf, Ne.symm h]
  rw [Lib.index, hp]; simp
theorem cutAt_ne (c : UInt8) : ∀ l, cutAt c l ≠ []
  | [] => by simp [cutAt]
  | b :: l => by
    unfold cutAt
    split
    · simp
    · split <;> simp
theorem split_cut (c : UInt8) : ∀ l, Lib.splitK [c] 0 (Lib.count l [c]) l = cutAt c l
  | [] => by rw [Lib.count_miss (by simp [Lib.index])]; rfl
  | b :: l => by
    have ih := split_cut c l
    by_cases h : b = c
    · subst h
      have hix : Lib.index (b :: l) [b] = 0 := by rw [Lib.index]; simp [List.isPrefixOf]
      rw [Lib.count_cons_eq, Nat.add_comm 1, Lib.splitK, hix]
      simp [cutAt, ih]
    · have hix := index_ne l h
      rw [Lib.count_cons_ne b c l h]
      unfold cutAt
      rw [if_neg h, ← ih]
      by_cases hm : Lib.index l [c] = -1
      · rw [Lib.count_miss hm]; rfl
      · have hge := Lib.index_ge l [c]
        obtain ⟨j, hj⟩ : ∃ j : Nat, Lib.index l [c] = j := ⟨(Lib.index l [c]).toNat, by omega⟩
        rw [Lib.count_hit (by simp) hj, Nat.add_comm 1, Lib.splitK, Lib.splitK, hix, hj]
        have e1 : ¬ ((j : Int) == -1) = true := fun e => by have := eq_of_beq e; omega
        have e2 : ¬ ((j : Int) + 1 == -1) = true := fun e => by have := eq_of_beq e; omega
        rw [if_neg e1, if_neg e2, if_neg e1, show ((j : Int) + 1).toNat = j + 1 by omega, show ((j : Int)).toNat = j by omega]
        rfl
theorem pcs_data (s : ByteArray) (c : UInt8) : (pcs s ⟨#[c]⟩).map (·.data.toList) = cutAt c s.data.toList := by
  unfold pcs
  rw [Lib.splitB_data]
  exact split_cut c _
theorem cutAt_free {c : UInt8} : ∀ {a : List UInt8}, c ∉ a → cutAt c a = [a]
  | [], _ => rfl
  | b :: l, h => by
    rw [List.mem_cons, not_or] at h
    unfold cutAt
    rw [if_neg (Ne.symm h.1), cutAt_free h.2]
theorem cutAt_mid {c : UInt8} (t : List UInt8) : ∀ {a : List UInt8}, c ∉ a → cutAt c (a ++ c :: t) = a :: cutAt c t
  | [], _ => by simp [cutAt]
  | b :: l, h => by
    rw [List.mem_cons, not_or] at h
    rw [List.cons_append, cutAt, if_neg (Ne.symm h.1), cutAt_mid t h.2]
/-- The pieces put together again. -/
def glue (c : UInt8) : List (List UInt8) → List UInt8
  | [] => []
  | [a] => a
  | a :: b :: r => a ++ c :: glue c (b :: r)
theorem glue_cons (c : UInt8) (a : List UInt8) {r : List (List UInt8)} (h : r ≠ []) : glue c (a :: r) = a ++ c :: glue c r := by
  cases r with
  | nil => exact absurd rfl h
  | cons b r => rfl
theorem glue_cut (c : UInt8) : ∀ l, glue c (cutAt c l) = l
  | [] => rfl
  | b :: l => by
    have ih := glue_cut c l
    unfold cutAt
    by_cases h : b = c
    · rw [if_pos h, glue_cons _ _ (cutAt_ne c l), ih, h]; rfl
    · rw [if_neg h]
      cases hr : cutAt c l with
      | nil => exact absurd hr (cutAt_ne c l)
      | cons x xs =>
        rw [hr] at ih
        cases xs with
        | nil => show b :: x = _; rw [← ih]; rfl
        | cons y ys => show (b :: x) ++ _ = _; rw [← ih]; rfl
theorem ba_list {a b : ByteArray} (h : a.data.toList = b.data.toList) : a = b := by
  obtain ⟨⟨a⟩⟩ := a; obtain ⟨⟨b⟩⟩ := b; cases h; rfl
theorem map_list : ∀ {a b : List ByteArray}, a.map (·.data.toList) = b.map (·.data.toList) → a = b
  | [], [], _ => rfl
  | [], _ :: _, h => by cases h
  | _ :: _, [], h => by cases h
  | x :: xs, y :: ys, h => by
    injection h with h1 h2
    rw [ba_list h1, map_list h2]
/-! ### Numbers -/
theorem decFrom_snoc {b : UInt8} {d : Nat} (hd : Lib.digitVal b = some d) : ∀ (l : List UInt8) (acc n : Nat), Lib.decFrom acc l = some n → Lib.decFrom acc (l ++ [b]) = some (n * 10 + d)
  | [], acc, n, h => by simp only [Lib.decFrom, Option.some.injEq] at h; subst h; simp [Lib.decFrom, hd]
  | a :: t, acc, n, h => by
    simp only [Lib.decFrom, List.cons_append] at h ⊢
    cases ha : Lib.digitVal a with
    | none => simp [ha] at h
    | some e => simp only [ha] at h ⊢; exact decFrom_snoc hd t _ n h
theorem digit_val {d : Nat} (h : d < 10) : Lib.digitVal (UInt8.ofNat (48 + d)) = some d := by
  have : (UInt8.ofNat (48 + d)).toNat = 48 + d := by simp; omega
  unfold Lib.digitVal
  rw [this, if_pos (by omega), show 48 + d - 48 = d by omega]
theorem dec_digits (u : Nat) : Lib.decFrom 0 (Lib.decDigits u) = some u := by
  induction u using Nat.strongRecOn with
  | _ u ih =>
    rw [Lib.decDigits]
    by_cases h : u < 10
    · rw [dif_pos h]; simp only [Lib.decFrom, digit_val h, Nat.zero_mul, Nat.zero_add]
    · rw [dif_neg h, decFrom_snoc (digit_val (Nat.mod_lt _ (by decide))) _ _ _ (ih (u / 10) (by omega))]
      congr 1; omega
theorem dig_mem (u : Nat) : ∀ c ∈ Lib.decDigits u, 48 ≤ c.toNat ∧ c.toNat ≤ 57 := by
  intro c hc
  obtain ⟨k, hk⟩ := List.getElem?_of_mem hc
  obtain ⟨d, hd⟩ := Lib.digit_of_decFrom _ 0 u (dec_digits u) k c hk
  have := Lib.digitVal_eq hd
  omega
theorem dig_cons (u : Nat) : ∃ b r, Lib.decDigits u = b :: r ∧ 48 ≤ b.toNat ∧ b.toNat ≤ 57 := by
  cases h : Lib.decDigits u with
  | nil =>
    have := Lib.decDigits_length u
    have := Lib.nDigits_pos u
    rw [h] at *; simp at *; omega
  | cons b r => exact ⟨b, r, rfl, dig_mem u b (by rw [h]; exact List.mem_cons_self ..)⟩
theorem dec_nat (u : Nat) : Lib.decNat (Lib.decDigits u) = some u := by
  obtain ⟨b, r, h, _⟩ := dig_cons u
  have := dec_digits u
  unfold Lib.decNat
  rw [h] at *
  exact this
theorem atoi_itoa (n : Int) : Lib.atoi (Lib.itoa n) = some n := by
  by_cases h : n < 0
  · obtain ⟨u, rfl⟩ : ∃ u : Nat, n = -(u : Int) := ⟨n.natAbs, by omega⟩
    rw [Lib.itoa_neg u (by omega)]
    show Option.map _ (Lib.decNat (Lib.decDigits u)) = _
    rw [dec_nat]; rfl
  · obtain ⟨u, rfl⟩ : ∃ u : Nat, n = (u : Int) := ⟨n.natAbs, by omega⟩
    rw [Lib.itoa_nonneg]
    obtain ⟨b, r, hb, h1, h2⟩ := dig_cons u
    have hd := dec_nat u
    rw [hb] at hd ⊢
    have e1 : ¬ (b == 45) = true := by
      intro e; have := eq_of_beq e; subst this; simp at h1
    have e2 : ¬ (b == 43) = true := by
      intro e; have := eq_of_beq e; subst this; simp at h1
    show (if (b == 45) = true then _ else _) = _
    rw [if_neg e1]
    show (if (b == 43) = true then _ else _) = _
    rw [if_neg e2, hd]; rfl
theorem ndig_le {u : Nat} {k : Nat} (hk : 1 ≤ k) (h : u < 10 ^ k) : Lib.nDigits u ≤ k := by
  induction k generalizing u with
  | zero => omega
  | succ k ih =>
    by_cases hu : u < 10
    · rw [Lib.nDigits_small hu]; omega
    · rw [Lib.nDigits_big hu]
      have hk1 : 1 ≤ k := by
        rcases Nat.eq_zero_or_pos k with rfl | h'
        · simp at h; omega
        · exact h'
      have := ih hk1 (u := u / 10) (by rw [Nat.pow_succ] at h; omega)
      omega
theorem itoa_mem (n : Int) : ∀ c ∈ Lib.itoa n, c.toNat = 45 ∨ (48 ≤ c.toNat ∧ c.toNat ≤ 57) := by
  intro c hc
  unfold Lib.itoa at hc
  split at hc
  · rcases List.mem_cons.1 hc with rfl | hc
    · exact Or.inl rfl
    · exact Or.inr (dig_mem _ c hc)
  · exact Or.inr (dig_mem _ c hc)
theorem itoa_trim {n : Int} (h1 : -1000000000 ≤ n) (h2 : n ≤ 1000000000) : (Lib.itoa n).length ≤ 11 ∧ (Lib.trimPrefix (Lib.itoa n) [45]).length ≤ 10 := by
  by_cases h : n < 0
  · obtain ⟨u, rfl⟩ : ∃ u : Nat, n = -(u : Int) := ⟨n.natAbs, by omega⟩
    rw [Lib.itoa_neg u (by omega)]
    have hl := Lib.decDigits_length u
    have := ndig_le (u := u) (k := 10) (by decide) (by omega)
    have e : Lib.trimPrefix (45 :: Lib.decDigits u) [45] = Lib.decDigits u := by
      simp [Lib.trimPrefix, Lib.hasPrefix, List.isPrefixOf]
    rw [e, List.length_cons]; omega
  · obtain ⟨u, rfl⟩ : ∃ u : Nat, n = (u : Int) := ⟨n.natAbs, by omega⟩
    rw [Lib.itoa_nonneg]
    have hl := Lib.decDigits_length u
    have := ndig_le (u := u) (k := 10) (by decide) (by omega)
    have e : (Lib.trimPrefix (Lib.decDigits u) [45]).length ≤ (Lib.decDigits u).length := by
      unfold Lib.trimPrefix; split
      · rw [List.length_drop]; omega
      · omega
    omega
theorem num_itoa {n : Int} (h1 : -1000000000 ≤ n) (h2 : n ≤ 1000000000) : numE ⟨(Lib.itoa n).toArray⟩ = some n := by
  have ht := itoa_trim h1 h2
  have ha : Lib.atoiAll (Lib.itoa n) = .ok n := by
    rw [Lib.atoiAll_short _ (by omega), atoi_itoa]; rfl
  unfold numE
  simp only
  rw [ha]
  simp only
  rw [if_pos ⟨trivial, ht.2⟩]
theorem numE_some {s : ByteArray} {n : Int} (h : numE s = some n) : (⟨(Lib.itoa n).toArray⟩ : ByteArray) = s := by
  unfold numE at h
  split at h
  · split at h
    · rename_i hh; cases h; exact hh.1
    · cases h
  · cases h
/-! ### Lines -/
theorem badC_no {c : Nat} {i : Nat} (h : badC c i = false) : 48 ≤ c := by
  unfold badC at h
  simp at h
  omega
theorem nameGo_mem : ∀ (l : List UInt8) (i : Nat), nameGo l i = true → ∀ c ∈ l, 48 ≤ c.toNat
  | [], _, _, c, hc => by cases hc
  | a :: l, i, h, c, hc => by
    unfold nameGo at h
    split at h
    · cases h
    · rename_i hb
      rcases List.mem_cons.1 hc with rfl | hc
      · exact badC_no (by simpa using hb)
      · exact nameGo_mem l (i + 1) h c hc
theorem name_mem {s : ByteArray} (h : nameB s = true) : ∀ c ∈ s.data.toList, 48 ≤ c.toNat := by
  unfold nameB at h
  simp at h
  exact nameGo_mem _ 0 h.1
theorem ev_names {x : Ev} (h : evE x = 0) : nameB x.k = true ∧ nameB x.n = true := by
  unfold evE at h
  split at h
  · cases h
  · split at h
    · cases h
    · rename_i h2
      cases hk : nameB x.k <;> cases hn : nameB x.n <;> simp_all
theorem lineJ_data (x : Ev) : (lineJ x).data.toList = Lib.itoa x.t ++ 32 :: (x.k.data.toList ++ 32 :: (x.n.data.toList ++ 32 :: Lib.itoa x.v)) := by
  simp [lineJ, Lib.join, List.intercalate, List.intersperse]
theorem lineS_data (x : Ev) : (lineS x).data.toList = (lineJ x).data.toList ++ [10] := by
  unfold lineS
  rw [ByteArray.data_append, Array.toList_append]
theorem no32 {c : UInt8} (h : 33 ≤ c.toNat) : (32 : UInt8) ≠ c ∧ (10 : UInt8) ≠ c := by
  constructor <;> (intro e; subst e; simp at h)
theorem itoa_no (n : Int) : (32 : UInt8) ∉ Lib.itoa n ∧ (10 : UInt8) ∉ Lib.itoa n := by
  constructor <;> (intro e; have := itoa_mem n _ e; simp at this)
theorem name_no {s : ByteArray} (h : nameB s = true) : (32 : UInt8) ∉ s.data.toList ∧ (10 : UInt8) ∉ s.data.toList := by
  constructor <;> (intro e; have := name_mem h _ e; simp at this)
theorem line_of {x : Ev} (h : evE x = 0) : lineE (lineJ x) = (x, 0) := by
  obtain ⟨k1, k2⟩ := ev_names h
  obtain ⟨h1, _, _, h4⟩ := ev_ok h
  have hp : pcs (lineJ x) ⟨#[32]⟩ = [⟨(Lib.itoa x.t).toArray⟩, x.k, x.n, ⟨(Lib.itoa x.v).toArray⟩] := by
    apply map_list
    rw [pcs_data, lineJ_data, cutAt_mid _ (itoa_no x.t).1, cutAt_mid _ (name_no k1).1, cutAt_mid _ (name_no k2).1, cutAt_free (itoa_no x.v).1]
    rfl
  unfold lineE
  rw [hp]
  simp only
  rw [num_itoa (by omega) (by omega), num_itoa (by omega) (by omega)]
  simp only
  show (x, evE x) = _
  rw [h]
theorem lineJ_free {x : Ev} (h : evE x = 0) : (10 : UInt8) ∉ (lineJ x).data.toList := by
  obtain ⟨k1, k2⟩ := ev_names h
  rw [lineJ_data]
  simp only [List.mem_append, List.mem_cons, not_or]
  exact ⟨(itoa_no _).2, by decide, (name_no k1).2, by decide, (name_no k2).2, by decide, (itoa_no _).2⟩
/-- A line that is read well is the line of its event. -/
theorem line_back {s : ByteArray} (h : (lineE s).2 = 0) : lineJ (lineE s).1 = s ∧ evE (lineE s).1 = 0 := by
  unfold lineE at h ⊢
  split at h
  · rename_i a b c d hp
    split at h
    · rename_i t v ht hv
      refine ⟨?_, h⟩
      apply ba_list
      have hg := congrArg (glue 32) (pcs_data s 32)
      rw [glue_cut, hp] at hg
      rw [lineJ_data, ← hg]
      have e1 := congrArg (·.data.toList) (numE_some ht)
      have e2 := congrArg (·.data.toList) (numE_some hv)
      simp only at e1 e2
      show Lib.itoa t ++ 32 :: (b.data.toList ++ 32 :: (c.data.toList ++ 32 :: Lib.itoa v)) = a.data.toList ++ 32 :: (b.data.toList ++ 32 :: (c.data.toList ++ 32 :: d.data.toList))
      rw [← e1, ← e2]
    · cases h
  · cases h
/-! ### The laws -/
theorem linesE_of : ∀ (l : List Ev) (k : Nat) (out : List Ev), (∀ x ∈ l, evE x = 0) → linesE (l.map lineJ) k out = (out ++ l, 0, 0)
  | [], _, out, _ => by simp [linesE]
  | x :: xs, k, out, h => by
    have hx := line_of (h x (List.mem_cons_self ..))
    rw [List.map_cons, linesE, hx, if_neg (by simp), linesE_of xs _ _ (fun y hy => h y (List.mem_cons_of_mem _ hy))]
    simp
theorem evsE_all : ∀ {l : List Ev}, evsE l = 0 → ∀ x ∈ l, evE x = 0
  | [], _, x, hx => by cases hx
  | a :: l, h, x, hx => by
    unfold evsE at h
    split at h
    · rename_i h1; exact absurd h h1
    · rename_i h1
      rcases List.mem_cons.1 hx with rfl | hx
      · exact Decidable.not_not.1 h1
      · exact evsE_all h x hx
theorem evsE_of : ∀ {l : List Ev}, (∀ x ∈ l, evE x = 0) → evsE l = 0
  | [], _ => rfl
  | a :: l, h => by
    unfold evsE
    rw [if_neg (fun hh => hh (h a (List.mem_cons_self ..))), evsE_of (fun y hy => h y (List.mem_cons_of_mem _ hy))]
theorem checkE_ok {l : List Ev} (h : checkE l = 0) : l.length ≤ 256 ∧ ∀ x ∈ l, evE x = 0 := by
  unfold checkE at h
  split at h
  · cases h
  · exact ⟨by omega, evsE_all h⟩
theorem cut_text : ∀ {l : List Ev}, (∀ x ∈ l, evE x = 0) → cutAt 10 (textB l) = l.map (fun x => (lineJ x).data.toList) ++ [[]]
  | [], _ => rfl
  | x :: xs, h => by
    have e : textB (x :: xs) = (lineJ x).data.toList ++ 10 :: textB xs := by
      show (lineS x).data.toList ++ textB xs = _
      rw [lineS_data]; simp
    rw [e, cutAt_mid _ (lineJ_free (h x (List.mem_cons_self ..))), cut_text (fun y hy => h y (List.mem_cons_of_mem _ hy))]
    rfl
theorem pcs_text {l : List Ev} (h : ∀ x ∈ l, evE x = 0) : pcs ⟨(textB l).toArray⟩ ⟨#[10]⟩ = l.map lineJ ++ [ByteArray.empty] := by
  apply map_list
  rw [pcs_data]
  show cutAt 10 (textB l) = _
  rw [cut_text h, List.map_append, List.map_map]
  rfl
/-- What is printed is parsed. -/
theorem texts_law {l : List Ev} (h : checkE l = 0) : parseE ⟨(textB l).toArray⟩ = (l, 0, 0) := by
  obtain ⟨hl, ha⟩ := checkE_ok h
  have hs := textB_len ha
  have hp := pcs_text ha
  unfold parseE
  rw [if_neg (by show ¬ 65536 < (textB l).toArray.size; simp; omega), hp, if_neg (by simp), if_neg (by simp; omega)]
  rw [List.dropLast_concat, linesE_of l 0 [] ha]
  rfl
theorem linesE_back : ∀ (ss : List ByteArray) (k : Nat) (out : List Ev), (linesE ss k out).2.2 = 0 →
    ∃ l, (linesE ss k out) = (out ++ l, 0, 0) ∧ ss = l.map lineJ ∧ ∀ x ∈ l, evE x = 0
  | [], k, out, h => ⟨[], by simp [linesE], rfl, fun x hx => by cases hx⟩
  | s :: ss, k, out, h => by
    unfold linesE at h ⊢
    split at h
    · rename_i h1; exact absurd h h1
    · rename_i h1
      obtain ⟨e1, e2⟩ := line_back (Decidable.not_not.1 h1)
      obtain ⟨l, g1, g2, g3⟩ := linesE_back ss (k + 1) _ h
      rw [if_neg h1]
      refine ⟨(lineE s).1 :: l, ?_, ?_, ?_⟩
      · rw [g1]; simp
      · rw [List.map_cons, e1, ← g2]
      · intro x hx
        rcases List.mem_cons.1 hx with rfl | hx
        · exact e2
        · exact g3 x hx
theorem linesE_err : ∀ (ss : List ByteArray) (k : Nat) (out : List Ev), (linesE ss k out).2.2 ≠ 0 → (linesE ss k out).1 = [] ∧ 0 ≤ (linesE ss k out).2.1
  | [], k, out, h => absurd rfl h
  | s :: ss, k, out, h => by
    unfold linesE at h ⊢
    split at h
    · rename_i h1; rw [if_pos h1]; exact ⟨rfl, by show (0 : Int) ≤ k + 1; omega⟩
    · rename_i h1; rw [if_neg h1]; exact linesE_err ss (k + 1) _ h
theorem parse_err {s : ByteArray} (h : (parseE s).2.2 ≠ 0) : (parseE s).1 = [] ∧ 0 ≤ (parseE s).2.1 := by
  unfold parseE at h ⊢
  split at h
  · rename_i h1; rw [if_pos h1]; exact ⟨rfl, Int.le_refl _⟩
  · rename_i h1
    rw [if_neg h1]
    split at h
    · rename_i h2; rw [if_pos h2]; exact ⟨rfl, by show (0 : Int) ≤ ((pcs s ⟨#[10]⟩).length : Int); omega⟩
    · rename_i h2
      rw [if_neg h2]
      split at h
      · rename_i h3; rw [if_pos h3]; exact ⟨rfl, Int.le_refl _⟩
      · rename_i h3; rw [if_neg h3]; exact linesE_err _ _ _ h
theorem pcs_ne (s : ByteArray) (c : UInt8) : pcs s ⟨#[c]⟩ ≠ [] := by
  intro e
  have := pcs_data s c
  rw [e] at this
  exact cutAt_ne _ _ this.symm
theorem glue_text : ∀ (l : List Ev), glue 10 (l.map (fun x => (lineJ x).data.toList) ++ [[]]) = textB l
  | [] => rfl
  | x :: xs => by
    have e : textB (x :: xs) = (lineJ x).data.toList ++ 10 :: textB xs := by
      show (lineS x).data.toList ++ textB xs = _
      rw [lineS_data]; simp
    rw [List.map_cons, List.cons_append, glue_cons _ _ (by simp), glue_text xs, e]
/-- What is parsed is printed. -/
theorem parses_law {s : ByteArray} (h : (parseE s).2.2 = 0) : ∃ l, parseE s = (l, 0, 0) ∧ l.length ≤ 256 ∧ checkE l = 0 ∧ (⟨(textB l).toArray⟩ : ByteArray) = s := by
  have hd : parseE s = parseE s := rfl
  conv at hd => rhs; unfold parseE
  split at hd
  · rw [hd] at h; cases h
  · split at hd
    · rw [hd] at h; cases h
    · rename_i h2
      split at hd
      · rw [hd] at h; cases h
      · rename_i h3
        rw [hd] at h
        obtain ⟨l, g1, g2, g3⟩ := linesE_back _ 0 [] h
        have hlen : l.length = (pcs s ⟨#[10]⟩).length - 1 := by
          have := congrArg List.length g2
          simp at this; omega
        refine ⟨l, by rw [hd, g1]; rfl, by omega, ?_, ?_⟩
        · unfold checkE; rw [if_neg (by omega), evsE_of g3]
        · have hne := pcs_ne s 10
          have hlast : (pcs s ⟨#[10]⟩).getLast hne = ByteArray.empty := by
            have := Decidable.not_not.1 h2
            rw [List.getLastD_eq_getLast?, List.getLast?_eq_some_getLast hne] at this
            exact this
          have hall : pcs s ⟨#[10]⟩ = l.map lineJ ++ [ByteArray.empty] := by
            rw [← g2, ← hlast]; exact (List.dropLast_concat_getLast hne).symm
          apply ba_list
          have hg := congrArg (glue 10) (pcs_data s 10)
          rw [glue_cut, hall, List.map_append, List.map_map] at hg
          rw [← hg]
          exact (glue_text l).symm
end Go.Proofs.YtjakhgilkogcnaaDoor
