/- choose: what the search of augment has found. -/
import Derived.Test.YtplebibabcdipaaCho10
namespace Go.Proofs.Ytplebibabcdipaa
open Go.RowKit

/-- All that node i can reach at once is reached. -/
def DoneI (c : CNet) (f by_ : List Int) (i : Nat) : Prop := ∀ k e, c.edges[k]? = some e → 0 < roomC c f k i → (i = e.b → by_.getD e.a 0 ≠ -1) ∧ (i = e.a → by_.getD e.b 0 ≠ -1)
def LeM (a b : List Int) : Prop := ∀ i, a.getD i 0 ≠ -1 → b.getD i 0 ≠ -1
theorem DoneI.mono {c : CNet} {f a b : List Int} {i : Nat} (h : DoneI c f a i) (hl : LeM a b) : DoneI c f b i := fun k e hk hr => ⟨fun h1 => hl _ ((h k e hk hr).1 h1), fun h1 => hl _ ((h k e hk hr).2 h1)⟩
theorem addN_le {c : CNet} {f : List Int} {k i t : Nat} (st : List Int × List Int) (ht : t < st.1.length) : LeM st.1 (addN c f k i t st).1 ∧ (∀ x ∈ st.2, x ∈ (addN c f k i t st).2) ∧ (∀ x ∈ (addN c f k i t st).2, x ∈ st.2 ∨ (addN c f k i t st).1.getD x.toNat 0 ≠ -1) ∧
    (∀ j : Nat, st.1.getD j 0 = -1 → (addN c f k i t st).1.getD j 0 ≠ -1 → (j : Int) ∈ (addN c f k i t st).2) ∧ (0 < roomC c f k i → (addN c f k i t st).1.getD t 0 ≠ -1) := by
  unfold addN
  split
  · rename_i hh
    simp only [Bool.and_eq_true, beq_iff_eq, decide_eq_true_eq] at hh
    have hself : (st.1.set t (k : Int)).getD t 0 = k := getD_set_eq' ht
    refine ⟨fun j hj => ?_, fun x hx => List.mem_append_left _ hx, fun x hx => ?_, fun j h1 h2 => ?_, fun _ => by rw [hself]; omega⟩
    · by_cases h : j = t
      · subst h; rw [hself]; omega
      · rw [getD_set_ne' h]; exact hj
    · rcases List.mem_append.1 hx with hx | hx
      · exact Or.inl hx
      · simp at hx; subst hx; right; rw [Int.toNat_natCast, hself]; omega
    · by_cases h : j = t
      · subst h; simp
      · rw [getD_set_ne' h] at h2; exact absurd h1 h2
  · rename_i hh
    refine ⟨fun j hj => hj, fun x hx => hx, fun x hx => Or.inl hx, fun j h1 h2 => absurd h1 h2, fun hr => ?_⟩
    intro h
    exact hh (by simp only [Bool.and_eq_true, beq_iff_eq, decide_eq_true_eq]; exact ⟨h, hr⟩)
/-- What one step of the search keeps. -/
structure StepI (c : CNet) (f : List Int) (a b : List Int × List Int) : Prop where
  le : LeM a.1 b.1
  q : ∀ x ∈ a.2, x ∈ b.2
  q2 : ∀ x ∈ b.2, x ∈ a.2 ∨ b.1.getD x.toNat 0 ≠ -1
  new : ∀ j : Nat, a.1.getD j 0 = -1 → b.1.getD j 0 ≠ -1 → (j : Int) ∈ b.2
theorem StepI.refl (c : CNet) (f : List Int) (a : List Int × List Int) : StepI c f a a := ⟨fun _ h => h, fun _ h => h, fun _ h => Or.inl h, fun _ h1 h2 => absurd h1 h2⟩
theorem StepI.trans {c : CNet} {f : List Int} {a b d : List Int × List Int} (h : StepI c f a b) (k : StepI c f b d) : StepI c f a d := by
  refine ⟨fun i hi => k.le i (h.le i hi), fun x hx => k.q x (h.q x hx), fun x hx => ?_, fun j h1 h2 => ?_⟩
  · rcases k.q2 x hx with h1 | h1
    · rcases h.q2 x h1 with h2 | h2
      · exact Or.inl h2
      · exact Or.inr (k.le _ h2)
    · exact Or.inr h1
  · by_cases h3 : b.1.getD j 0 = -1
    · exact k.new j h3 h2
    · exact k.q _ (h.new j h1 h3)
theorem addN_step {c : CNet} {f : List Int} {k i t : Nat} (st : List Int × List Int) (ht : t < st.1.length) : StepI c f st (addN c f k i t st) := by
  obtain ⟨h1, h2, h3, h4, _⟩ := addN_le (c := c) (f := f) (k := k) (i := i) st ht
  exact ⟨h1, h2, h3, h4⟩
theorem bfsE_step {c : CNet} {f : List Int} {k i : Nat} {e : CEdge} (st : List Int × List Int) (ha : e.a < st.1.length) (hb : e.b < st.1.length) :
    StepI c f st (bfsE c f i k st e) ∧ (0 < roomC c f k i → (i = e.b → (bfsE c f i k st e).1.getD e.a 0 ≠ -1) ∧ (i ≠ e.b → i = e.a → (bfsE c f i k st e).1.getD e.b 0 ≠ -1)) := by
  unfold bfsE
  split
  · rename_i h
    exact ⟨addN_step st ha, fun hr => ⟨fun _ => (addN_le st ha).2.2.2.2 hr, fun h2 => absurd h h2⟩⟩
  · rename_i h
    split
    · rename_i h2
      exact ⟨addN_step st hb, fun hr => ⟨fun h3 => absurd h3 h, fun _ _ => (addN_le st hb).2.2.2.2 hr⟩⟩
    · rename_i h2
      exact ⟨StepI.refl _ _ _, fun hr => ⟨fun h3 => absurd h3 h, fun _ h3 => absurd h3 h2⟩⟩
theorem bfsP_step {c : CNet} {f : List Int} {i : Nat} : ∀ (l : List CEdge) (k : Nat) (st : List Int × List Int), (∀ e ∈ l, e.a < st.1.length ∧ e.b < st.1.length) → st.1.getD i 0 ≠ -1 →
    StepI c f st (bfsP c f i l k st) ∧ ∀ j e, l[j]? = some e → 0 < roomC c f (k + j) i → (i = e.b → (bfsP c f i l k st).1.getD e.a 0 ≠ -1) ∧ (i = e.a → (bfsP c f i l k st).1.getD e.b 0 ≠ -1) := by
  intro l
  induction l with
  | nil => intro k st _ _; exact ⟨StepI.refl _ _ _, fun j e hj => by simp at hj⟩
  | cons e es ih =>
    intro k st hl hri
    obtain ⟨ha, hb⟩ := hl e List.mem_cons_self
    obtain ⟨s1, s2⟩ := bfsE_step (c := c) (f := f) (k := k) (i := i) st ha hb
    have hlen : (bfsE c f i k st e).1.length = st.1.length := by
      unfold bfsE addN
      split <;> (try split) <;> (try split) <;> simp
    obtain ⟨i1, i2⟩ := ih (k + 1) (bfsE c f i k st e) (fun x hx => by rw [hlen]; exact hl x (List.mem_cons_of_mem _ hx)) (s1.le i hri)
    refine ⟨s1.trans i1, fun j x hj hr => ?_⟩
    cases j with
    | zero =>
      simp at hj; subst hj
      have s3 := s2 hr
      have hle := i1.le
      by_cases hib : i = e.b
      · refine ⟨fun h => hle _ (s3.1 h), fun _ => ?_⟩
        rw [← hib]
        exact hle _ (s1.le i hri)
      · exact ⟨fun h => absurd h hib, fun h => hle _ (s3.2 hib h)⟩
    | succ j => exact i2 j x (by simpa using hj) (by rw [show k + 1 + j = k + (j + 1) by omega]; exact hr)
/-- The state of a search: the tree, and that all that is not in the queue is done. -/
structure BfsI (c : CNet) (f : List Int) (st : List Int × List Int) : Prop where
  b : BOk c.nodes st
  tree : TreeI c f st.1
  q : ∀ x ∈ st.2, st.1.getD x.toNat 0 ≠ -1
  done : ∀ i : Nat, i < c.nodes → st.1.getD i 0 ≠ -1 → (i : Int) ∈ st.2 ∨ DoneI c f st.1 i
theorem BfsI.round {c : CNet} {f by_ q : List Int} {i : Int} (hc : c.Ok) (h : BfsI c f (by_, i :: q)) : BfsI c f (bfsP c f i.toNat c.edges 0 (by_, q)) := by
  have h0 : BOk c.nodes (by_, q) := ⟨h.b.len, fun x hx => h.b.q x (List.mem_cons_of_mem _ hx)⟩
  obtain ⟨g1, _⟩ := bfsP_good (c := c) (f := f) (i := i.toNat) c.edges 0 (by_, q) hc.ne h0
  have hil : i.toNat < c.nodes := by have := h.b.q i List.mem_cons_self; omega
  have hri : by_.getD i.toNat 0 ≠ -1 := h.q i List.mem_cons_self
  have ht := bfsP_tree (c := c) (f := f) (i := i.toNat) hc c.edges 0 (by_, q) (fun j e hj => by rw [Nat.zero_add]; exact hj) h0 h.tree hil hri
  obtain ⟨s1, s2⟩ := bfsP_step (c := c) (f := f) (i := i.toNat) c.edges 0 (by_, q) (fun e he => by have := h.b.len; simp only at this ⊢; rw [this]; exact hc.ne e he) hri
  refine ⟨g1, ht, fun x hx => ?_, fun j hj hrj => ?_⟩
  · rcases s1.q2 x hx with h1 | h1
    · exact s1.le _ (h.q x (List.mem_cons_of_mem _ h1))
    · exact h1
  · by_cases h1 : by_.getD j 0 = -1
    · exact Or.inl (s1.new j h1 hrj)
    · rcases h.done j hj h1 with h2 | h2
      · rcases List.mem_cons.1 h2 with h3 | h3
        · right
          have : i.toNat = j := by omega
          subst this
          intro k e hk hr
          have := s2 k e hk (by rw [Nat.zero_add]; exact hr)
          exact this
        · exact Or.inl (s1.q _ h3)
      · exact Or.inr (h2.mono s1.le)
theorem BfsI.start {c : CNet} (f : List Int) : BfsI c f (byOf c.src c.nodes c.nodes, qOf c.src c.nodes) := by
  have hq : ∀ k, k ≤ c.nodes → (∀ x ∈ qOf c.src k, 0 ≤ x ∧ x < k ∧ c.src.getD x.toNat false = true) ∧ ∀ j, j < k → c.src.getD j false = true → (j : Int) ∈ qOf c.src k := by
    intro k
    induction k with
    | zero => intro _; exact ⟨fun x hx => (by cases hx), fun j h => (by omega)⟩
    | succ k ih =>
      intro hk
      obtain ⟨h1, h2⟩ := ih (by omega)
      unfold qOf
      split
      · rename_i hs
        refine ⟨fun x hx => ?_, fun j hj hsj => ?_⟩
        · rcases List.mem_append.1 hx with hx | hx
          · obtain ⟨a, b, d⟩ := h1 x hx; exact ⟨a, by omega, d⟩
          · simp at hx; subst hx; exact ⟨by omega, by omega, by simpa using hs⟩
        · by_cases h : j = k
          · subst h; simp
          · exact List.mem_append_left _ (h2 j (by omega) hsj)
      · rename_i hs
        refine ⟨fun x hx => ?_, fun j hj hsj => ?_⟩
        · obtain ⟨a, b, d⟩ := h1 x hx; exact ⟨a, by omega, d⟩
        · by_cases h : j = k
          · subst h; exact absurd hsj hs
          · exact h2 j (by omega) hsj
  obtain ⟨q1, q2⟩ := hq c.nodes (Nat.le_refl _)
  have hg : ∀ i, i < c.nodes → (byOf c.src c.nodes c.nodes).getD i 0 = if c.src.getD i false = true then -2 else -1 := fun i hi => byOf_get c.src c.nodes c.nodes i hi hi
  have hmu : ∀ i, i < c.nodes → (byOf c.src c.nodes c.nodes).getD i 0 ≠ -1 → muM (byOf c.src c.nodes c.nodes) < c.nodes := fun i hi hr => by
    have h1 := muM_set ((byOf c.src c.nodes c.nodes).set i (-1)) i (-2) (by decide) (getD_set_eq' (by rw [byOf_len]; exact hi))
    have h2 := muM_le ((byOf c.src c.nodes c.nodes).set i (-1))
    rw [List.length_set, byOf_len] at h2
    rw [List.set_set] at h1
    have h3 : (byOf c.src c.nodes c.nodes).set i (-2) = byOf c.src c.nodes c.nodes := by
      have hl := byOf_len c.src c.nodes c.nodes
      have h4 := hg i hi
      split at h4
      · apply List.ext_getElem?
        intro j
        by_cases hj : i = j
        · subst hj
          rw [List.getElem?_set_self (by omega)]
          rw [List.getD_eq_getElem?_getD, List.getElem?_eq_getElem (by omega)] at h4
          rw [List.getElem?_eq_getElem (by omega)]
          simp at h4; rw [h4]
        · rw [List.getElem?_set_ne hj]
      · exact absurd h4 hr
    rw [h3] at h1
    omega
  refine ⟨⟨byOf_len _ _ _, fun x hx => ⟨(q1 x hx).1, by have := (q1 x hx).2.1; omega⟩⟩, ⟨fun i hi hr => ⟨0, ⟨hi, ?_⟩, by have := hmu i hi hr; simp only; omega⟩, fun i hi h0 => ?_⟩, fun x hx => ?_, fun i hi hr => Or.inl (q2 i hi ?_)⟩
  · have := hg i hi
    split at this
    · rw [this]; decide
    · exact absurd this hr
  · have := hg i hi
    simp only at h0
    split at this <;> omega
  · obtain ⟨a, b, d⟩ := q1 x hx
    simp only
    rw [hg x.toNat (by omega), if_pos d]; decide
  · have := hg i hi
    split at this
    · assumption
    · exact absurd this hr
/-- Behind the search: the tree; and if the fault is not reached, all is done. -/
theorem bfsF_done {c : CNet} {f : List Int} (hc : c.Ok) : ∀ (n : Nat) (st : List Int × List Int), BfsI c f st → st.2.length + muM st.1 < n →
    TreeI c f (bfsF c f n st.1 st.2) ∧ (bfsF c f n st.1 st.2).length = c.nodes ∧ LeM st.1 (bfsF c f n st.1 st.2) ∧ ((bfsF c f n st.1 st.2).getD c.at_ 0 = -1 → ∀ i : Nat, i < c.nodes → (bfsF c f n st.1 st.2).getD i 0 ≠ -1 → DoneI c f (bfsF c f n st.1 st.2) i) := by
  intro n
  induction n with
  | zero => intro st _ h; omega
  | succ n ih =>
    intro st h hn
    obtain ⟨by_, q⟩ := st
    cases q with
    | nil =>
      refine ⟨h.tree, h.b.len, fun _ h => h, fun _ i hi hr => ?_⟩
      rcases h.done i hi hr with h1 | h1
      · cases h1
      · exact h1
    | cons i q =>
      simp only [List.length_cons] at hn
      have h0 : BOk c.nodes (by_, q) := ⟨h.b.len, fun x hx => h.b.q x (List.mem_cons_of_mem _ hx)⟩
      obtain ⟨_, g2⟩ := bfsP_good (c := c) (f := f) (i := i.toNat) c.edges 0 (by_, q) hc.ne h0
      simp only at g2
      unfold bfsF
      split
      · obtain ⟨s1, _⟩ := bfsP_step (c := c) (f := f) (i := i.toNat) c.edges 0 (by_, q) (fun e he => by have := h.b.len; simp only at this ⊢; rw [this]; exact hc.ne e he) (h.q i List.mem_cons_self)
        obtain ⟨r1, r2, r3, r4⟩ := ih (bfsP c f i.toNat c.edges 0 (by_, q)) (h.round hc) (by omega)
        exact ⟨r1, r2, fun j hj => r3 j (s1.le j hj), r4⟩
      · rename_i hat
        exact ⟨h.tree, h.b.len, fun _ h => h, fun h2 => absurd h2 hat⟩
theorem reach_ok {c : CNet} (f : List Int) (hc : c.Ok) : TreeI c f (reachC c f) ∧ (reachC c f).length = c.nodes ∧ (∀ i : Nat, i < c.nodes → c.src.getD i false = true → (reachC c f).getD i 0 ≠ -1) ∧
    ((reachC c f).getD c.at_ 0 = -1 → ∀ i : Nat, i < c.nodes → (reachC c f).getD i 0 ≠ -1 → DoneI c f (reachC c f) i) := by
  obtain ⟨h1, h2, h3, h4⟩ := bfsF_done (c := c) (f := f) hc _ _ (BfsI.start f) (Nat.lt_succ_self _)
  refine ⟨h1, h2, fun i hi hs => h3 i ?_, h4⟩
  simp only
  rw [byOf_get c.src c.nodes c.nodes i hi hi, if_pos hs]; decide
end Go.Proofs.Ytplebibabcdipaa
