/- Package choose: what isolated and side reckon, as plain functions. -/
import Derived.Test.YtplebibabcdipaaCho2
namespace Go.Proofs.Ytplebibabcdipaa
open Go.RowKit

structure CNet.Ok (c : CNet) : Prop where
  ne : ∀ e ∈ c.edges, e.a < c.nodes ∧ e.b < c.nodes
  src : c.src.length = c.nodes
  at_ : c.at_ < c.nodes
  n : c.nodes ≤ 1000
  m : c.edges.length ≤ 1000
/-- How many are false. -/
def muB : List Bool → Nat
  | [] => 0
  | b :: bs => (if b = true then 0 else 1) + muB bs
theorem muB_set : ∀ (s : List Bool) (i : Nat), muB (s.set i true) ≤ muB s ∧ (s.getD i true = false → muB (s.set i true) < muB s) := by
  intro s
  induction s with
  | nil => intro i; exact ⟨Nat.le_refl _, fun h => by simp at h⟩
  | cons b bs ih =>
    intro i
    cases i with
    | zero =>
      refine ⟨by simp [muB], fun h => ?_⟩
      have : b = false := by simpa using h
      subst this
      simp [muB]
    | succ i =>
      obtain ⟨h1, h2⟩ := ih i
      refine ⟨by simp [muB]; omega, fun h => ?_⟩
      have := h2 (by simpa using h)
      simp [muB]; omega
theorem muB_le (s : List Bool) : muB s ≤ s.length := by
  induction s with
  | nil => exact Nat.le_refl _
  | cons b bs ih => simp [muB]; split <;> omega
/-- Rounds until nothing changes. -/
def fixF (f : List Bool → List Bool × Bool) : Nat → List Bool → List Bool
  | 0, s => s
  | n + 1, s => if (f s).2 = true then fixF f n (f s).1 else (f s).1
def fixB (f : List Bool → List Bool × Bool) (s : List Bool) : List Bool := fixF f (muB s + 1) s
def ProgB (n : Nat) (f : List Bool → List Bool × Bool) : Prop := ∀ s, s.length = n → (f s).1.length = n ∧ ((f s).2 = true → muB (f s).1 < muB s)
theorem fixF_eq {n : Nat} {f : List Bool → List Bool × Bool} (hp : ProgB n f) : ∀ (a b : Nat) (s : List Bool), s.length = n → muB s < a → muB s < b → fixF f a s = fixF f b s := by
  intro a
  induction a with
  | zero => intro b s _ h; omega
  | succ a ih =>
    intro b s hs h1 h2
    cases b with
    | zero => omega
    | succ b =>
      unfold fixF
      obtain ⟨p1, p2⟩ := hp s hs
      split
      · rename_i h
        have := p2 h
        exact ih b _ p1 (by omega) (by omega)
      · rfl
theorem fixB_step {n : Nat} {f : List Bool → List Bool × Bool} (hp : ProgB n f) (s : List Bool) (hs : s.length = n) : fixB f s = if (f s).2 = true then fixB f (f s).1 else (f s).1 := by
  obtain ⟨p1, p2⟩ := hp s hs
  show (if (f s).2 = true then fixF f (muB s) (f s).1 else (f s).1) = _
  split
  · rename_i h
    have := p2 h
    exact fixF_eq hp _ _ _ p1 this (Nat.lt_succ_self _)
  · rfl
/-- Every property that the rounds keep holds at the end, and at the end nothing changes. -/
theorem fixB_ind {n : Nat} {f : List Bool → List Bool × Bool} (hp : ProgB n f) (M : List Bool → Prop) (hM : ∀ s, s.length = n → M s → M (f s).1) :
    ∀ (k : Nat) (s : List Bool), muB s ≤ k → s.length = n → M s → M (fixB f s) ∧ (fixB f s).length = n ∧ ∃ t, t.length = n ∧ M t ∧ (f t).2 = false ∧ fixB f s = (f t).1 := by
  intro k
  induction k with
  | zero =>
    intro s hk hs hm
    rw [fixB_step hp s hs]
    obtain ⟨p1, p2⟩ := hp s hs
    split
    · rename_i h; have := p2 h; omega
    · rename_i h; exact ⟨hM s hs hm, p1, s, hs, hm, by simpa using h, rfl⟩
  | succ k ih =>
    intro s hk hs hm
    rw [fixB_step hp s hs]
    obtain ⟨p1, p2⟩ := hp s hs
    split
    · rename_i h; have := p2 h; exact ih _ (by omega) p1 (hM s hs hm)
    · rename_i h; exact ⟨hM s hs hm, p1, s, hs, hm, by simpa using h, rfl⟩

/-- isolated: one round over the edges. -/
def seenE (out : CEdge → Bool) (st : List Bool × Bool) (e : CEdge) : List Bool × Bool :=
  if ((st.1.getD e.a false != st.1.getD e.b false) && !out e) = true then ((st.1.set e.a true).set e.b true, true) else st
def seenP (out : CEdge → Bool) : List CEdge → List Bool × Bool → List Bool × Bool
  | [], st => st
  | e :: es, st => seenP out es (seenE out st e)
theorem seenP_drop {out : CEdge → Bool} {l : List CEdge} {k : Nat} {x : CEdge} (h : l[k]? = some x) (st : List Bool × Bool) : seenP out (l.drop k) st = seenP out (l.drop (k + 1)) (seenE out st x) := by
  obtain ⟨hk, hx⟩ := List.getElem?_eq_some_iff.1 h
  rw [List.drop_eq_getElem_cons hk, hx]; rfl
theorem getD_dflt {s : List Bool} {i : Nat} (h : i < s.length) (a b : Bool) : s.getD i a = s.getD i b := by simp [h]
theorem seenE_good (out : CEdge → Bool) {n : Nat} {e : CEdge} (ha : e.a < n) (hb : e.b < n) (st : List Bool × Bool) (hs : st.1.length = n) :
    (seenE out st e).1.length = n ∧ ((seenE out st e) = st ∨ ((seenE out st e).2 = true ∧ muB (seenE out st e).1 < muB st.1)) := by
  unfold seenE
  split
  · rename_i h
    simp only [Bool.and_eq_true, bne_iff_ne] at h
    refine ⟨by simp [hs], Or.inr ⟨rfl, ?_⟩⟩
    show muB ((st.1.set e.a true).set e.b true) < muB st.1
    cases ea : st.1.getD e.a false
    · have h1 := (muB_set st.1 e.a).2 (by rw [getD_dflt (by omega) true false]; exact ea)
      have h2 := (muB_set (st.1.set e.a true) e.b).1
      omega
    · have eb : st.1.getD e.b false = false := by
        cases q : st.1.getD e.b false
        · rfl
        · rw [ea, q] at h; exact absurd rfl h.1
      have hne : e.a ≠ e.b := fun q => by rw [q, eb] at ea; cases ea
      have h1 := (muB_set st.1 e.a).1
      have h2 := (muB_set (st.1.set e.a true) e.b).2 (by
        rw [getD_dflt (by simp; omega) true false]
        rw [List.getD_eq_getElem?_getD, List.getElem?_set_ne hne, ← List.getD_eq_getElem?_getD]; exact eb)
      omega
  · exact ⟨hs, Or.inl rfl⟩
theorem seenP_good (out : CEdge → Bool) {n : Nat} : ∀ (l : List CEdge) (st : List Bool × Bool), (∀ e ∈ l, e.a < n ∧ e.b < n) → st.1.length = n →
    (seenP out l st).1.length = n ∧ ((seenP out l st) = st ∨ ((seenP out l st).2 = true ∧ muB (seenP out l st).1 < muB st.1)) := by
  intro l
  induction l with
  | nil => intro st _ hs; exact ⟨hs, Or.inl rfl⟩
  | cons e es ih =>
    intro st hl hs
    obtain ⟨ha, hb⟩ := hl e List.mem_cons_self
    obtain ⟨g1, g2⟩ := seenE_good out ha hb st hs
    obtain ⟨i1, i2⟩ := ih (seenE out st e) (fun x hx => hl x (List.mem_cons_of_mem _ hx)) g1
    refine ⟨i1, ?_⟩
    show seenP out es (seenE out st e) = st ∨ ((seenP out es (seenE out st e)).2 = true ∧ muB (seenP out es (seenE out st e)).1 < muB st.1)
    rcases g2 with g2 | ⟨g2, g3⟩
    · rw [g2] at i2 ⊢; exact i2
    · rcases i2 with i2 | ⟨i2, i3⟩
      · rw [i2]; exact Or.inr ⟨g2, g3⟩
      · exact Or.inr ⟨i2, by omega⟩
theorem seen_prog (out : CEdge → Bool) {c : CNet} (hc : c.Ok) : ProgB c.nodes (fun s => seenP out c.edges (s, false)) := fun s hs => by
  obtain ⟨h1, h2⟩ := seenP_good out c.edges (s, false) hc.ne hs
  refine ⟨h1, fun h => ?_⟩
  rcases h2 with h2 | h2
  · simp only [h2] at h; cases h
  · exact h2.2
def startB (c : CNet) : List Bool := (List.replicate c.nodes false).set c.at_ true
def seenC (c : CNet) (out : CEdge → Bool) : List Bool := fixB (fun s => seenP out c.edges (s, false)) (startB c)
/-- A source that is seen. -/
def srcHit : List Bool → List Bool → Bool
  | [], _ => false
  | b :: bs, s => (b && s.headD false) || srcHit bs s.tail
theorem srcHit_drop {l s : List Bool} {k : Nat} (h : k < l.length) : srcHit (l.drop k) (s.drop k) = ((l.getD k false && s.getD k false) || srcHit (l.drop (k + 1)) (s.drop (k + 1))) := by
  rw [List.drop_eq_getElem_cons h]
  have e1 : l[k] = l.getD k false := by simp [h]
  have e2 : (s.drop k).headD false = s.getD k false := by
    simp [List.headD_eq_head?_getD, List.head?_drop, List.getD_eq_getElem?_getD]
  have e3 : (s.drop k).tail = s.drop (k + 1) := by rw [List.tail_drop]
  rw [show srcHit (l[k] :: l.drop (k + 1)) (s.drop k) = ((l[k] && (s.drop k).headD false) || srcHit (l.drop (k + 1)) (s.drop k).tail) from rfl, e1, e2, e3]
theorem srcHit_iff : ∀ (l s : List Bool), srcHit l s = true ↔ ∃ i, l.getD i false = true ∧ s.getD i false = true := by
  intro l
  induction l with
  | nil => intro s; simp [srcHit]
  | cons b bs ih =>
    intro s
    unfold srcHit
    rw [Bool.or_eq_true, Bool.and_eq_true, ih]
    constructor
    · rintro (⟨h1, h2⟩ | ⟨i, h1, h2⟩)
      · exact ⟨0, by simpa using h1, by cases s <;> simp_all⟩
      · exact ⟨i + 1, by simpa using h1, by cases s <;> simp_all⟩
    · rintro ⟨i, h1, h2⟩
      cases i with
      | zero => exact Or.inl ⟨by simpa using h1, by cases s <;> simp_all⟩
      | succ i => exact Or.inr ⟨i, by simpa using h1, by cases s <;> simp_all⟩
def isoC (c : CNet) (out : CEdge → Bool) : Bool := !srcHit c.src (seenC c out)
end Go.Proofs.Ytplebibabcdipaa
