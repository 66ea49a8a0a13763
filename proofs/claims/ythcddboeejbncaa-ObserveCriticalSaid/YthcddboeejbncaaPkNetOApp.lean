/- Networks that Check accepts; small laws on rows of numbers. Naturals in the base 10^9: digits, their value, the canonical list of a number. An append whose answer is known ahead. -/
import Derived.Test.YthcddboeejbncaaPzIdx
import Derived.Test.YthcddboeejbncaaPkWldRds
import Derived.Deep.OwnRows
import Derived.Deep.AppendLies
import Derived.Deep.RegionLaw
import Derived.Deep.RegionHeldLaw
import Derived.Deep.RegionHeld3
import Derived.StillTailTactics
import Derived.ProofKit
import Derived.ChangeSlices
import Derived.Lib.SmallJoins
import Derived.Deep.Slices
import Derived.Deep.CutRange
namespace Go.Proofs.Ythcddboeejbncaa
open Go.RowKit

theorem row_lt {W : World} {base : Nat} {e : TypeId} {sz n : Nat} {v : Value} {xs : List Value} (h : W.ownsRow base e sz v n xs) : ∀ j, v.ownBlock = some j → j < W.heap.size := by
  intro j hj
  rcases h.2 with ⟨rfl, _⟩ | ⟨g, cap, cur, rfl, _, hh, _⟩
  · cases hj
  · have : g = j := Option.some.inj hj
    rw [← this]; exact (Array.getElem?_eq_some_iff.1 hh).1
theorem infoIntL : (Try.prog.info? 3).map (fun i => (i.zero, i.size, i.bytes)) = some (some (.int .i64 0), 1, 8) := by kernel_rfl
theorem made_ints (n : Nat) : madeCells #[.int .i64 0] n = (ints (List.replicate n 0)).toArray := by
  apply Array.ext
  · simp [madeCells, ints]
  · intro i h1 h2
    simp [madeCells, ints, Nat.mod_one]
theorem ints_set (d : List Int) (v : Nat) (x : Int) : (ints d).toArray.setIfInBounds v (.int .i64 x) = (ints (d.set v x)).toArray := by
  unfold ints
  rw [List.setIfInBounds_toArray, List.map_set]
theorem Blk.int {w : World} {g : Nat} {d : List Int} {t : TypeId} (h : Blk w g (ints d).toArray t) {i : Nat} (hi : i < d.length) : w.cell? ⟨g, i, none⟩ = some (.int .i64 (d.getD i 0)) :=
  h.cell i (by simpa using ints_get hi)
def listAt (w : World) (g : Nat) : List Int := match w.heap[g]? with | some (.cells c _ _) => c.toList.map intOf | _ => []
theorem listAt_eq {w : World} {g : Nat} {d : List Int} {t : TypeId} (h : Blk w g (ints d).toArray t) : listAt w g = d := by
  unfold listAt Blk at *
  rw [h]
  simp [ints, intOf, Function.comp_def]
structure Net.Ok (n : Net) : Prop where
  nn : n.nodes.length ≤ 24
  ns : n.sws.length ≤ 32
  nb : n.brs.length ≤ 24
  sw : ∀ s ∈ n.sws, hasS s.a n.nodes = true ∧ hasS s.b n.nodes = true
  br : ∀ b ∈ n.brs, hasS b.fr n.nodes = true ∧ hasS b.to n.nodes = true ∧ 1 ≤ b.x ∧ b.x ≤ 10000
theorem devAll_ok {α : Type} {nl : List ByteArray} {name : α → ByteArray} {ends : α → List ByteArray} {test : α → Int} : ∀ (l : List α) (met : List ByteArray), (devAll nl name ends test l met).1 = 0 →
    ∀ x ∈ l, (∃ met', deviceE nl met' (name x) (ends x) = 0) ∧ test x = 0 := by
  intro l
  induction l with
  | nil => intro met _ x hx; cases hx
  | cons y ys ih =>
    intro met h x hx
    unfold devAll at h
    split at h
    · rename_i hd; exact absurd h hd
    · rename_i hd
      split at h
      · rename_i ht; exact absurd h ht
      · rename_i ht
        rcases List.mem_cons.1 hx with rfl | hx
        · exact ⟨⟨met, by simpa using hd⟩, by simpa using ht⟩
        · exact ih _ h x hx
theorem device_ends {nl met ls : List ByteArray} {s : ByteArray} (h : deviceE nl met s ls = 0) : ∀ x ∈ ls, hasS x nl = true := by
  unfold deviceE at h
  split at h
  · rename_i hd; exact absurd h hd
  · unfold endsE at h
    split at h
    · rename_i ha; exact fun x hx => List.all_eq_true.1 ha x hx
    · cases h
theorem netE_ok {n : Net} (h : netE n = 0) : n.Ok := by
  unfold netE at h
  split at h
  · cases h
  · rename_i hz
    have hs : SizesOk n.nodes.length n.sws.length n.brs.length n.gens.length n.loads.length n.stores.length := by
      unfold sizesE at hz
      split at hz
      · assumption
      · simp at hz
    simp only at h
    split at h
    · rename_i ha; exact absurd h ha
    · split at h
      · rename_i ha; exact absurd h ha
      · rename_i hsw
        split at h
        · rename_i ha; exact absurd h ha
        · rename_i hbr
          refine ⟨hs.1, hs.2.1, hs.2.2.1, fun s hs => ?_, fun b hb => ?_⟩
          · obtain ⟨⟨m, h1⟩, _⟩ := devAll_ok n.sws _ (by simpa using hsw) s hs
            have := device_ends h1
            exact ⟨this s.a (by simp), this s.b (by simp)⟩
          · obtain ⟨⟨m, h1⟩, h2⟩ := devAll_ok n.brs _ (by simpa using hbr) b hb
            have := device_ends h1
            refine ⟨this b.fr (by simp), this b.to (by simp), ?_⟩
            unfold NBr.test at h2
            split at h2
            · cases h2
            · unfold brE at h2
              split at h2
              · rename_i hq
                unfold brB withinB at hq
                simp only [Bool.and_eq_true, decide_eq_true_eq] at hq
                exact hq.1
              · cases h2
theorem idxS_lt {s : ByteArray} : ∀ (l : List ByteArray) (i : Int), hasS s l = true → i ≤ idxS s l i ∧ idxS s l i < i + l.length := by
  intro l
  induction l with
  | nil => intro i h; simp [hasS] at h
  | cons x xs ih =>
    intro i h
    unfold idxS
    split
    · simp; omega
    · rename_i hp
      unfold hasS at h
      rw [List.any_cons] at h
      have h' : hasS s xs = true := by unfold hasS; simpa [hp] using h
      have := ih (i + 1) h'
      simp; omega
theorem idxS_nat {s : ByteArray} {l : List ByteArray} (h : hasS s l = true) : ∃ k : Nat, idxS s l 0 = k ∧ k < l.length := by
  have := idxS_lt l 0 h
  exact ⟨(idxS s l 0).toNat, by omega, by omega⟩
theorem flat_snoc {α : Type} (f : α → List Value) (l : List α) (x : α) : flat f (l ++ [x]) = flat f l ++ f x := by unfold flat; simp
theorem blk_grown {w w' : World} {b : Nat} {c : Array Value} {t : TypeId} {row : Option Nat} (h : Blk w b c t) (k : w.grownBy w' row) (hn : some b ≠ row) : Blk w' b c t := by
  have := k.block b h.lt hn
  unfold Blk at h ⊢; rw [this]; exact h
def agN : Value → Nat
  | .bool true => 1
  | _ => 0
/-- What else Check asks of a branch. -/
theorem netE_tap {n : Net} (h : netE n = 0) : ∀ b ∈ n.brs, 500 ≤ b.tap ∧ b.tap ≤ 1500 ∧ -1000 ≤ b.sh ∧ b.sh ≤ 1000 := by
  unfold netE at h
  split at h
  · cases h
  · simp only at h
    split at h
    · rename_i ha; exact absurd h ha
    · split at h
      · rename_i ha; exact absurd h ha
      · split at h
        · rename_i ha; exact absurd h ha
        · rename_i hbr
          intro b hb
          obtain ⟨⟨m, h1⟩, h2⟩ := devAll_ok n.brs _ (by simpa using hbr) b hb
          unfold NBr.test at h2
          split at h2
          · cases h2
          · unfold brE at h2
            split at h2
            · rename_i hq
              unfold brB withinB at hq
              simp only [Bool.and_eq_true, decide_eq_true_eq] at hq
              exact ⟨hq.2.1.1, hq.2.1.2, hq.2.2.1.1, hq.2.2.1.2⟩
            · cases h2
end Go.Proofs.Ythcddboeejbncaa
namespace Go.Proofs.Ythcddboeejbncaa

/-- What a list of digits is worth, the least digit first. -/
def val : List Int → Int
  | [] => 0
  | d :: ds => d + 1000000000 * val ds
/-- Digits. -/
def DgOk (l : List Int) : Prop := ∀ d ∈ l, 0 ≤ d ∧ d < 1000000000
/-- The base to a power. -/
def pw (k : Nat) : Int := 1000000000 ^ k
theorem pw_zero : pw 0 = 1 := rfl
theorem pw_succ (k : Nat) : pw (k + 1) = 1000000000 * pw k := by unfold pw; rw [Int.pow_succ, Int.mul_comm]
theorem pw_pos (k : Nat) : 0 < pw k := by
  induction k with
  | zero => decide
  | succ k ih => rw [pw_succ]; omega
theorem pw_add (a b : Nat) : pw (a + b) = pw a * pw b := by unfold pw; rw [Int.pow_add]
theorem pw_mono {a b : Nat} (h : a ≤ b) : pw a ≤ pw b := by
  obtain ⟨c, rfl⟩ := Nat.le.dest h
  rw [pw_add]
  have := pw_pos a; have := pw_pos c
  calc pw a = pw a * 1 := by rw [Int.mul_one]
    _ ≤ pw a * pw c := Int.mul_le_mul_of_nonneg_left (by omega) (by omega)
theorem DgOk.nil : DgOk [] := fun d h => by cases h
theorem DgOk.cons {d : Int} {l : List Int} (h0 : 0 ≤ d) (h1 : d < 1000000000) (h : DgOk l) : DgOk (d :: l) := fun x hx => by
  rcases List.mem_cons.1 hx with rfl | hx
  · exact ⟨h0, h1⟩
  · exact h x hx
theorem DgOk.tail {d : Int} {l : List Int} (h : DgOk (d :: l)) : DgOk l := fun x hx => h x (List.mem_cons_of_mem _ hx)
theorem DgOk.append {l m : List Int} (h : DgOk l) (k : DgOk m) : DgOk (l ++ m) := fun x hx => by
  rcases List.mem_append.1 hx with hx | hx
  · exact h x hx
  · exact k x hx
theorem DgOk.take {l : List Int} (h : DgOk l) (k : Nat) : DgOk (l.take k) := fun x hx => h x (List.mem_of_mem_take hx)
theorem DgOk.drop {l : List Int} (h : DgOk l) (k : Nat) : DgOk (l.drop k) := fun x hx => h x (List.mem_of_mem_drop hx)
theorem DgOk.set {l : List Int} (h : DgOk l) (i : Nat) {x : Int} (h0 : 0 ≤ x) (h1 : x < 1000000000) : DgOk (l.set i x) := fun y hy => by
  rcases List.mem_or_eq_of_mem_set hy with hy | rfl
  · exact h y hy
  · exact ⟨h0, h1⟩
theorem DgOk.getD {l : List Int} (h : DgOk l) (i : Nat) : 0 ≤ l.getD i 0 ∧ l.getD i 0 < 1000000000 := by
  rw [List.getD_eq_getElem?_getD]
  rcases Nat.lt_or_ge i l.length with hi | hi
  · rw [List.getElem?_eq_getElem hi]; exact h _ (List.getElem_mem hi)
  · rw [List.getElem?_eq_none hi]; decide
theorem DgOk.replicate (n : Nat) : DgOk (List.replicate n 0) := fun x hx => by
  obtain ⟨_, rfl⟩ := List.mem_replicate.1 hx; decide
theorem val_nonneg {l : List Int} (h : DgOk l) : 0 ≤ val l := by
  induction l with
  | nil => decide
  | cons d l ih =>
    have := h d (by simp); have := ih h.tail
    unfold val; omega
theorem val_lt {l : List Int} (h : DgOk l) : val l < pw l.length := by
  induction l with
  | nil => decide
  | cons d l ih =>
    have := h d (by simp); have := ih h.tail
    unfold val; rw [List.length_cons, pw_succ]; omega
theorem val_append (l m : List Int) : val (l ++ m) = val l + pw l.length * val m := by
  induction l with
  | nil => simp [val, pw_zero]
  | cons d l ih => simp only [List.cons_append, val, ih, List.length_cons, pw_succ]; grind
theorem val_replicate (n : Nat) : val (List.replicate n 0) = 0 := by
  induction n with
  | zero => rfl
  | succ n ih => rw [List.replicate_succ]; unfold val; omega
theorem val_take_succ {l : List Int} {k : Nat} (h : k < l.length) : val (l.take (k + 1)) = val (l.take k) + pw k * l.getD k 0 := by
  rw [List.take_succ_eq_append_getElem h, val_append, List.length_take, Nat.min_eq_left (by omega)]
  simp [val, h]
theorem val_split (l : List Int) (k : Nat) (h : k ≤ l.length) : val l = val (l.take k) + pw k * val (l.drop k) := by
  have := val_append (l.take k) (l.drop k)
  rw [List.take_append_drop, List.length_take, Nat.min_eq_left h] at this
  exact this
theorem val_drop {l : List Int} {k : Nat} (h : k < l.length) : val (l.drop k) = l.getD k 0 + 1000000000 * val (l.drop (k + 1)) := by
  rw [List.drop_eq_getElem_cons h]; simp [val, h]
theorem val_set (l : List Int) (k : Nat) (x : Int) (h : k < l.length) : val (l.set k x) = val l + (x - l.getD k 0) * pw k := by
  induction l generalizing k with
  | nil => simp at h
  | cons d l ih =>
    cases k with
    | zero => simp only [List.set_cons_zero, val, pw_zero, List.getD_cons_zero]; omega
    | succ k =>
      have := ih k (by simpa using h)
      simp only [List.set_cons_succ, val, List.getD_cons_succ, pw_succ, this]; grind
theorem getD_set (l : List Int) (i j : Nat) (x : Int) (h : i < l.length) : (l.set i x).getD j 0 = if j = i then x else l.getD j 0 := by
  simp only [List.getD_eq_getElem?_getD, List.getElem?_set]
  by_cases e : i = j
  · subst e; simp [h]
  · rw [if_neg e, if_neg (Ne.symm e)]
theorem val_zero_drop {l : List Int} {k : Nat} (h : ∀ j, k ≤ j → j < l.length → l.getD j 0 = 0) : val (l.drop k) = 0 := by
  rcases Nat.lt_or_ge k l.length with hk | hk
  · obtain ⟨d, hd⟩ : ∃ d, l.length - k = d := ⟨_, rfl⟩
    induction d generalizing k with
    | zero => omega
    | succ d ih =>
      rw [val_drop hk, h k (Nat.le_refl _) hk]
      rcases Nat.lt_or_ge (k + 1) l.length with hk' | hk'
      · rw [ih (fun j hj hj' => h j (by omega) hj') hk' (by omega)]; rfl
      · rw [List.drop_eq_nil_of_le hk']; rfl
  · rw [List.drop_eq_nil_of_le hk]; rfl

/-- The digits of a number. -/
def dg (n : Nat) : List Int := if n = 0 then [] else ((n % 1000000000 : Nat) : Int) :: dg (n / 1000000000)
termination_by n
decreasing_by exact Nat.div_lt_self (by omega) (by omega)
theorem dg_zero : dg 0 = [] := by unfold dg; rfl
theorem dg_ok (n : Nat) : DgOk (dg n) := by
  induction n using Nat.strongRecOn with
  | _ n ih =>
    unfold dg
    split
    · exact DgOk.nil
    · exact DgOk.cons (by omega) (by omega) (ih _ (Nat.div_lt_self (by omega) (by omega)))
theorem dg_val (n : Nat) : val (dg n) = n := by
  induction n using Nat.strongRecOn with
  | _ n ih =>
    unfold dg
    split
    · subst_vars; rfl
    · unfold val
      rw [ih _ (Nat.div_lt_self (by omega) (by omega))]
      omega
/-- A list without a leading zero is the canonical one. -/
theorem dg_of {l : List Int} (h : DgOk l) (hl : l = [] ∨ l.getD (l.length - 1) 0 ≠ 0) : dg (val l).toNat = l := by
  induction l with
  | nil => exact dg_zero
  | cons d l ih =>
    have hd := h d (by simp)
    have hv := val_nonneg h.tail
    have ht : dg (val l).toNat = l := by
      apply ih h.tail
      rcases hl with hl | hl
      · cases hl
      · cases l with
        | nil => exact Or.inl rfl
        | cons e m => right; simpa using hl
    have hne : (val (d :: l)).toNat ≠ 0 := by
      unfold val
      cases l with
      | nil =>
        rcases hl with hl | hl
        · cases hl
        · simp at hl; simp [val]; omega
      | cons e m =>
        intro h0
        have hz : val (e :: m) = 0 := by omega
        rw [hz] at ht
        rw [show dg (Int.toNat 0) = [] from dg_zero] at ht
        cases ht
    unfold dg
    rw [if_neg hne]
    have e0 : val (d :: l) = d + 1000000000 * val l := rfl
    have e1 : (val (d :: l)).toNat % 1000000000 = d.toNat := by rw [e0]; omega
    have e2 : (val (d :: l)).toNat / 1000000000 = (val l).toNat := by rw [e0]; omega
    rw [e1, e2, ht]
    congr 1
    omega
theorem dg_last {n : Nat} (h : 0 < n) : (dg n).getD ((dg n).length - 1) 0 ≠ 0 := by
  induction n using Nat.strongRecOn with
  | _ n ih =>
    unfold dg
    rw [if_neg (by omega)]
    rcases Nat.eq_zero_or_pos (n / 1000000000) with hz | hz
    · rw [hz, dg_zero]; simp; omega
    · have := ih _ (Nat.div_lt_self h (by omega)) hz
      have hl : 0 < (dg (n / 1000000000)).length := by
        unfold dg; rw [if_neg (by omega)]; simp
      simp only [List.length_cons]
      rw [show (dg (n / 1000000000)).length + 1 - 1 = ((dg (n / 1000000000)).length - 1) + 1 by omega, List.getD_cons_succ]
      exact this

/-- How many digits a number has. -/
def ln (n : Nat) : Nat := (dg n).length
theorem ln_zero : ln 0 = 0 := by unfold ln; rw [dg_zero]; rfl
theorem lt_ln (n : Nat) : (n : Int) < pw (ln n) := by
  have := val_lt (dg_ok n); rw [dg_val] at this; exact this
theorem ln_pos {n : Nat} (h : 0 < n) : 0 < ln n := by unfold ln; unfold dg; rw [if_neg (by omega)]; simp
theorem ln_le_pw {n : Nat} (h : 0 < n) : pw (ln n - 1) ≤ n := by
  have hl := ln_pos h
  have h1 := val_split (dg n) (ln n - 1) (by unfold ln; omega)
  have h2 := val_drop (l := dg n) (k := ln n - 1) (by unfold ln at *; omega)
  have h3 := dg_last h
  have h4 := (dg_ok n).getD (ln n - 1)
  have h5 : val ((dg n).drop (ln n - 1 + 1)) = 0 := by rw [List.drop_eq_nil_of_le (by unfold ln at *; omega)]; rfl
  have h6 := val_nonneg ((dg_ok n).take (ln n - 1))
  have h7 := pw_pos (ln n - 1)
  rw [dg_val] at h1
  change (dg n).getD (ln n - 1) 0 ≠ 0 at h3
  rw [h5] at h2
  have h8 : pw (ln n - 1) * 1 ≤ pw (ln n - 1) * val ((dg n).drop (ln n - 1)) := Int.mul_le_mul_of_nonneg_left (by omega) (by omega)
  omega
theorem ln_le {n k : Nat} (h : (n : Int) < pw k) : ln n ≤ k := by
  rcases Nat.eq_zero_or_pos n with rfl | hp
  · rw [ln_zero]; omega
  · rcases Nat.lt_or_ge k (ln n) with hk | hk
    · have h1 := ln_le_pw hp
      have h2 := pw_mono (show k ≤ ln n - 1 by omega)
      omega
    · exact hk
theorem ln_mono {a b : Nat} (h : a ≤ b) : ln a ≤ ln b := ln_le (by have := lt_ln b; omega)
theorem ln_mul (a b : Nat) : ln (a * b) ≤ ln a + ln b := by
  apply ln_le
  rw [pw_add]
  have h1 := lt_ln a; have h2 := lt_ln b
  have h3 := pw_pos (ln b)
  rcases Nat.eq_zero_or_pos a with rfl | ha
  · simp; exact Int.mul_pos (pw_pos _) h3
  · calc ((a * b : Nat) : Int) = (a : Int) * b := by push_cast; rfl
      _ < a * pw (ln b) := Int.mul_lt_mul_of_pos_left h2 (by omega)
      _ ≤ pw (ln a) * pw (ln b) := Int.mul_le_mul_of_nonneg_right (by omega) (by omega)
theorem ln_add (a b : Nat) : ln (a + b) ≤ max (ln a) (ln b) + 1 := by
  apply ln_le
  rw [pw_succ]
  have h1 := lt_ln a; have h2 := lt_ln b
  have h3 := pw_mono (Nat.le_max_left (ln a) (ln b))
  have h4 := pw_mono (Nat.le_max_right (ln a) (ln b))
  have h5 := pw_pos (max (ln a) (ln b))
  push_cast
  omega
theorem ln_one : ln 1 = 1 := by
  have h1 := ln_pos (n := 1) (by omega)
  have h2 := ln_le (n := 1) (k := 1) (by decide)
  omega
/-- Of two numbers the one with fewer digits is less. -/
theorem lt_of_ln {a b : Nat} (h : ln a < ln b) : a < b := by
  rcases Nat.lt_or_ge a b with h' | h'
  · exact h'
  · have := ln_mono h'; omega
end Go.Proofs.Ythcddboeejbncaa
namespace Go.Proofs.Ythcddboeejbncaa
open Go.RowKit

theorem wpList_append_told {P : Program} {w : World} {ops : Array Oper} {rest : List Oper} {o : Oper} {a : Act} {Q : Exit → Act → World → Prop} (hgd : o.guard = none) (s x : Operand) (t : TypeId)
    (ho : o.op = .call { callee := .builtin .append, args := #[s, x], argTypes := #[t, t] }) (v xv : Value) (hs : a.eval s = v) (hx : a.eval x = xv) (v' : Value) (w' : World)
    (hrun : (Builtin.append_ #[t, t] o.type #[v, xv]).run P w = .ok v' w') (h : wpList P ops Q rest (a.put o.dst v') w') : wpList P ops Q (o :: rest) a w := by
  refine wpList_plain hgd fun K hK => ?_
  unfold Oper.wp
  simp [execOp, ho, resolve, invoke, builtin, hs, hx, hrun, Result.andThen]
  exact hK _ _ h
theorem step_append_told {P : Program} {w w0 : World} {ops : Array Oper} {o : Oper} {a : Act} {K : Act → World → Prop} {Q : Exit → Act → World → Prop} {E : Prop} (hgd : o.guard = none) (s x : Operand) (t : TypeId)
    (ho : o.op = .call { callee := .builtin .append, args := #[s, x], argTypes := #[t, t] }) (v xv : Value) (hs : a.eval s = v) (hx : a.eval x = xv) (v' : Value) (w' : World)
    (hrun : ∀ ty, (Builtin.append_ #[t, t] ty #[v, xv]).run P w0 = .ok v' w') (hw0 : w = w0) (h : K (a.put o.dst v') w') :
    if Region.wanted o (yielded ops a.tmps) = true then Oper.wp P o a w K Q else E := by
  subst hw0
  have hw : Region.wanted o (yielded ops a.tmps) = true := by simp [Region.wanted, hgd]
  rw [if_pos hw]
  unfold Oper.wp
  simp [execOp, ho, resolve, invoke, builtin, hs, hx, hrun, Result.andThen]
  exact h
end Go.Proofs.Ythcddboeejbncaa
