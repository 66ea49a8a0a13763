/- choose: what augment reckons, as plain functions. -/
import Derived.Test.YtplebibabcdipaaCho8
namespace Go.Proofs.Ytplebibabcdipaa
open Go.RowKit

/-- The sources reached at the start: by, queue, after k nodes. -/
def byOf (src : List Bool) (n : Nat) : Nat → List Int
  | 0 => List.replicate n 0
  | k + 1 => (byOf src n k).set k (if src.getD k false = true then -2 else -1)
def qOf (src : List Bool) : Nat → List Int
  | 0 => []
  | k + 1 => if src.getD k false = true then qOf src k ++ [(k : Int)] else qOf src k
theorem byOf_len (src : List Bool) (n k : Nat) : (byOf src n k).length = n := by
  induction k with
  | zero => simp [byOf]
  | succ k ih => unfold byOf; rw [List.length_set]; exact ih
theorem byOf_get (src : List Bool) (n : Nat) : ∀ (k i : Nat), i < k → i < n → (byOf src n k).getD i 0 = if src.getD i false = true then -2 else -1 := by
  intro k
  induction k with
  | zero => intro i h; omega
  | succ k ih =>
    intro i hi hn
    unfold byOf
    by_cases h : i = k
    · subst h
      have := byOf_len src n i
      rw [List.getD_eq_getElem?_getD, List.getElem?_set_self (by omega)]; rfl
    · rw [List.getD_eq_getElem?_getD, List.getElem?_set_ne (Ne.symm h), ← List.getD_eq_getElem?_getD]
      exact ih i (by omega) hn
/-- How many are not reached. -/
def muM : List Int → Nat
  | [] => 0
  | b :: bs => (if b = -1 then 1 else 0) + muM bs
theorem muM_set : ∀ (s : List Int) (i : Nat) (k : Int), k ≠ -1 → s.getD i 0 = -1 → muM (s.set i k) + 1 = muM s := by
  intro s
  induction s with
  | nil => intro i k _ h; simp at h
  | cons b bs ih =>
    intro i k hk h
    cases i with
    | zero =>
      have : b = -1 := by simpa using h
      subst this
      simp [muM, hk]; omega
    | succ i =>
      have := ih i k hk (by simpa using h)
      simp [muM]; omega
theorem muM_le (s : List Int) : muM s ≤ s.length := by
  induction s with
  | nil => exact Nat.le_refl _
  | cons b bs ih => simp [muM]; split <;> omega
/-- A node `to_` is met from node i by edge k. -/
def addN (c : CNet) (f : List Int) (k i t : Nat) (st : List Int × List Int) : List Int × List Int :=
  if ((st.1.getD t 0 == -1) && decide (0 < roomC c f k i)) = true then (st.1.set t k, st.2 ++ [(t : Int)]) else st
def bfsE (c : CNet) (f : List Int) (i k : Nat) (st : List Int × List Int) (e : CEdge) : List Int × List Int :=
  if i = e.b then addN c f k i e.a st else if i = e.a then addN c f k i e.b st else st
def bfsP (c : CNet) (f : List Int) (i : Nat) : List CEdge → Nat → List Int × List Int → List Int × List Int
  | [], _, st => st
  | e :: es, k, st => bfsP c f i es (k + 1) (bfsE c f i k st e)
theorem bfsP_drop {c : CNet} {f : List Int} {i : Nat} {l : List CEdge} {k : Nat} {x : CEdge} (h : l[k]? = some x) (st : List Int × List Int) : bfsP c f i (l.drop k) k st = bfsP c f i (l.drop (k + 1)) (k + 1) (bfsE c f i k st x) := by
  obtain ⟨hk, hx⟩ := List.getElem?_eq_some_iff.1 h
  rw [List.drop_eq_getElem_cons hk, hx]; rfl
def bfsF (c : CNet) (f : List Int) : Nat → List Int → List Int → List Int
  | 0, by_, _ => by_
  | _ + 1, by_, [] => by_
  | n + 1, by_, i :: q => if by_.getD c.at_ 0 = -1 then bfsF c f n (bfsP c f i.toNat c.edges 0 (by_, q)).1 (bfsP c f i.toNat c.edges 0 (by_, q)).2 else by_
/-- Of a reckoned state: sizes, and the sum that grows less. -/
structure BOk (n : Nat) (st : List Int × List Int) : Prop where
  len : st.1.length = n
  q : ∀ x ∈ st.2, 0 ≤ x ∧ x < n
theorem addN_good {c : CNet} {f : List Int} {n k i t : Nat} (ht : t < n) (st : List Int × List Int) (h : BOk n st) : BOk n (addN c f k i t st) ∧ (addN c f k i t st).2.length + muM (addN c f k i t st).1 = st.2.length + muM st.1 := by
  unfold addN
  split
  · rename_i hh
    simp only [Bool.and_eq_true, beq_iff_eq] at hh
    have := muM_set st.1 t k (by omega) hh.1
    refine ⟨⟨by simp [h.len], fun x hx => ?_⟩, by simp; omega⟩
    rcases List.mem_append.1 hx with hx | hx
    · exact h.q x hx
    · simp at hx; subst hx; omega
  · exact ⟨h, rfl⟩
theorem bfsE_good {c : CNet} {f : List Int} {n k i : Nat} {e : CEdge} (ha : e.a < n) (hb : e.b < n) (st : List Int × List Int) (h : BOk n st) : BOk n (bfsE c f i k st e) ∧ (bfsE c f i k st e).2.length + muM (bfsE c f i k st e).1 = st.2.length + muM st.1 := by
  unfold bfsE
  split
  · exact addN_good ha st h
  · split
    · exact addN_good hb st h
    · exact ⟨h, rfl⟩
theorem bfsP_good {c : CNet} {f : List Int} {n i : Nat} : ∀ (l : List CEdge) (k : Nat) (st : List Int × List Int), (∀ e ∈ l, e.a < n ∧ e.b < n) → BOk n st →
    BOk n (bfsP c f i l k st) ∧ (bfsP c f i l k st).2.length + muM (bfsP c f i l k st).1 = st.2.length + muM st.1 := by
  intro l
  induction l with
  | nil => intro k st _ h; exact ⟨h, rfl⟩
  | cons e es ih =>
    intro k st hl h
    obtain ⟨ha, hb⟩ := hl e List.mem_cons_self
    obtain ⟨g1, g2⟩ := bfsE_good (c := c) (f := f) (k := k) (i := i) ha hb st h
    obtain ⟨i1, i2⟩ := ih (k + 1) (bfsE c f i k st e) (fun x hx => hl x (List.mem_cons_of_mem _ hx)) g1
    exact ⟨i1, i2.trans g2⟩
theorem bfsF_eq {c : CNet} {f : List Int} (hc : c.Ok) : ∀ (a b : Nat) (st : List Int × List Int), BOk c.nodes st → st.2.length + muM st.1 < a → st.2.length + muM st.1 < b → bfsF c f a st.1 st.2 = bfsF c f b st.1 st.2 := by
  intro a
  induction a with
  | zero => intro b st _ h; omega
  | succ a ih =>
    intro b st hs h1 h2
    cases b with
    | zero => omega
    | succ b =>
      obtain ⟨by_, q⟩ := st
      cases q with
      | nil => rfl
      | cons i q =>
        simp only [List.length_cons] at h1 h2
        have h0 : BOk c.nodes (by_, q) := ⟨hs.len, fun x hx => hs.q x (List.mem_cons_of_mem _ hx)⟩
        obtain ⟨g1, g2⟩ := bfsP_good (c := c) (f := f) (i := i.toNat) c.edges 0 (by_, q) hc.ne h0
        simp only at g2
        unfold bfsF
        split
        · exact ih b (bfsP c f i.toNat c.edges 0 (by_, q)) g1 (by omega) (by omega)
        · rfl
def bfsG (c : CNet) (f : List Int) (st : List Int × List Int) : List Int := bfsF c f (st.2.length + muM st.1 + 1) st.1 st.2
theorem bfsG_nil (c : CNet) (f by_ : List Int) : bfsG c f (by_, []) = by_ := rfl
theorem bfsG_step {c : CNet} {f : List Int} (hc : c.Ok) {by_ q : List Int} {i : Int} (h : BOk c.nodes (by_, i :: q)) :
    bfsG c f (by_, i :: q) = if by_.getD c.at_ 0 = -1 then bfsG c f (bfsP c f i.toNat c.edges 0 (by_, q)) else by_ := by
  have h0 : BOk c.nodes (by_, q) := ⟨h.len, fun x hx => h.q x (List.mem_cons_of_mem _ hx)⟩
  obtain ⟨g1, g2⟩ := bfsP_good (c := c) (f := f) (i := i.toNat) c.edges 0 (by_, q) hc.ne h0
  simp only at g2
  show (if by_.getD c.at_ 0 = -1 then bfsF c f _ _ _ else by_) = _
  split
  · exact bfsF_eq hc _ _ _ g1 (by simp only [List.length_cons]; omega) (Nat.lt_succ_self _)
  · rfl
/-- The way back from a node: `other` is the node from which edge k reaches it. -/
def farEnd (c : CNet) (k i : Nat) : Nat := if (edgeAt c k).b = i then (edgeAt c k).a else (edgeAt c k).b
def pushE (c : CNet) (k i : Nat) (f : List Int) : List Int := f.set k (if (edgeAt c k).b = i then f.getD k 0 + 1 else f.getD k 0 - 1)
def pathF (c : CNet) (by_ : List Int) : Nat → Nat → List Int → List Int
  | 0, _, f => f
  | n + 1, i, f => if 0 ≤ by_.getD i 0 then pathF c by_ n (farEnd c (by_.getD i 0).toNat i) (pushE c (by_.getD i 0).toNat i f) else f
/-- n steps lead from node i to a source. -/
def Chain (c : CNet) (by_ : List Int) : Nat → Nat → Prop
  | 0, i => i < c.nodes ∧ by_.getD i 0 < -1
  | n + 1, i => i < c.nodes ∧ 0 ≤ by_.getD i 0 ∧ (by_.getD i 0).toNat < c.edges.length ∧ Chain c by_ n (farEnd c (by_.getD i 0).toNat i)
theorem pathF_eq {c : CNet} {by_ : List Int} : ∀ (n m i : Nat) (f : List Int), Chain c by_ n i → n ≤ m → pathF c by_ m i f = pathF c by_ n i f := by
  intro n
  induction n with
  | zero =>
    intro m i f h _
    cases m with
    | zero => rfl
    | succ m => unfold pathF; rw [if_neg (by have := h.2; omega)]
  | succ n ih =>
    intro m i f h hm
    cases m with
    | zero => omega
    | succ m =>
      obtain ⟨_, h1, _, h2⟩ := h
      unfold pathF
      rw [if_pos h1, if_pos h1]
      exact ih m _ _ h2 (by omega)
/-- The nodes reached by a search, and the flow behind it. -/
def reachC (c : CNet) (f : List Int) : List Int := bfsG c f (byOf c.src c.nodes c.nodes, qOf c.src c.nodes)
def augC (c : CNet) (f : List Int) : Option (List Int) :=
  if (reachC c f).getD c.at_ 0 = -1 then none else some (pathF c (reachC c f) c.nodes c.at_ f)
end Go.Proofs.Ytplebibabcdipaa
