/- choose: cuts: what isolated and side say; the largest flow and the smallest cut. -/
import Derived.Test.YtplebibabcdipaaChoF
namespace Go.Proofs.Ytplebibabcdipaa

theorem seenE_cases (out : CEdge → Bool) (st : List Bool × Bool) (e : CEdge) : seenE out st e = st ∨ (seenE out st e).2 = true := by
  unfold seenE; split
  · exact Or.inr rfl
  · exact Or.inl rfl
theorem seenP_flag (out : CEdge → Bool) : ∀ (l : List CEdge) (st : List Bool × Bool), st.2 = true → (seenP out l st).2 = true := by
  intro l
  induction l with
  | nil => intro st h; exact h
  | cons e es ih =>
    intro st h
    refine ih _ ?_
    rcases seenE_cases out st e with h1 | h1
    · rw [h1]; exact h
    · exact h1
theorem seenP_still (out : CEdge → Bool) : ∀ (l : List CEdge) (st : List Bool × Bool), (seenP out l st).2 = false → seenP out l st = st ∧ ∀ e ∈ l, seenE out st e = st := by
  intro l
  induction l with
  | nil => intro st _; exact ⟨rfl, fun e he => by cases he⟩
  | cons e es ih =>
    intro st h
    have h1 : (seenE out st e).2 = false := by
      cases h2 : (seenE out st e).2
      · rfl
      · have := seenP_flag out es _ h2
        rw [show seenP out (e :: es) st = seenP out es (seenE out st e) from rfl, this] at h; cases h
    have h2 : seenE out st e = st := by
      rcases seenE_cases out st e with h2 | h2
      · exact h2
      · rw [h1] at h2; cases h2
    have h' := h
    rw [show seenP out (e :: es) st = seenP out es (seenE out st e) from rfl, h2] at h'
    obtain ⟨i1, i2⟩ := ih st h'
    refine ⟨by rw [show seenP out (e :: es) st = seenP out es (seenE out st e) from rfl, h2]; exact i1, fun x hx => ?_⟩
    rcases List.mem_cons.1 hx with rfl | hx
    · exact h2
    · exact i2 x hx
theorem getDB_set_ne {s : List Bool} {i j : Nat} {v : Bool} (h : j ≠ i) : (s.set i v).getD j false = s.getD j false := by
  rw [List.getD_eq_getElem?_getD, List.getElem?_set_ne (Ne.symm h), ← List.getD_eq_getElem?_getD]
theorem getDB_set_eq {s : List Bool} {i : Nat} {v : Bool} (h : i < s.length) : (s.set i v).getD i false = v := by
  rw [List.getD_eq_getElem?_getD, List.getElem?_set_self h]; rfl
theorem startB_len (c : CNet) : (startB c).length = c.nodes := by unfold startB; simp
theorem startB_at {c : CNet} (hc : c.Ok) : (startB c).getD c.at_ false = true := getDB_set_eq (by simp; exact hc.at_)
theorem startB_only {c : CNet} (i : Nat) (h : (startB c).getD i false = true) : i = c.at_ := by
  by_cases hi : i = c.at_
  · exact hi
  · unfold startB at h
    rw [getDB_set_ne hi, List.getD_eq_getElem?_getD, List.getElem?_replicate] at h
    split at h <;> simp at h
theorem getDB_mono {s : List Bool} {i j : Nat} (h : s.getD j false = true) : (s.set i true).getD j false = true := by
  by_cases hj : j = i
  · subst hj
    by_cases hl : j < s.length
    · exact getDB_set_eq hl
    · rw [List.set_eq_of_length_le (by omega)]; exact h
  · rw [getDB_set_ne hj]; exact h
theorem getDB_set_or {s : List Bool} {i j : Nat} (h : (s.set i true).getD j false = true) : j = i ∨ s.getD j false = true := by
  by_cases hj : j = i
  · exact Or.inl hj
  · rw [getDB_set_ne hj] at h; exact Or.inr h
theorem seenP_mono (out : CEdge → Bool) (j : Nat) : ∀ (l : List CEdge) (st : List Bool × Bool), st.1.getD j false = true → (seenP out l st).1.getD j false = true := by
  intro l
  induction l with
  | nil => intro st h; exact h
  | cons e es ih =>
    intro st h
    refine ih _ ?_
    unfold seenE
    split
    · exact getDB_mono (getDB_mono h)
    · exact h
theorem seenP_in (out : CEdge → Bool) (S : Nat → Bool) : ∀ (l : List CEdge) (st : List Bool × Bool), (∀ e ∈ l, S e.a ≠ S e.b → out e = true) → (∀ i, st.1.getD i false = true → S i = true) → ∀ i, (seenP out l st).1.getD i false = true → S i = true := by
  intro l
  induction l with
  | nil => intro st _ h; exact h
  | cons e es ih =>
    intro st hl h
    refine ih _ (fun x hx => hl x (List.mem_cons_of_mem _ hx)) ?_
    unfold seenE
    split
    · rename_i hh
      simp only [Bool.and_eq_true, bne_iff_ne, Bool.not_eq_true'] at hh
      obtain ⟨h1, h2⟩ := hh
      have hab : S e.a = S e.b := by
        cases hx : (S e.a == S e.b)
        · have := hl e List.mem_cons_self (by simpa using hx)
          rw [h2] at this; cases this
        · simpa using hx
      have hor : S e.a = true ∨ S e.b = true := by
        cases ha : st.1.getD e.a false
        · cases hb : st.1.getD e.b false
          · rw [ha, hb] at h1; exact absurd rfl h1
          · exact Or.inr (h _ hb)
        · exact Or.inl (h _ ha)
      intro i hi
      simp only at hi
      rcases getDB_set_or hi with rfl | hi
      · rcases hor with h3 | h3
        · rw [← hab]; exact h3
        · exact h3
      · rcases getDB_set_or hi with rfl | hi
        · rcases hor with h3 | h3
          · exact h3
          · rw [hab]; exact h3
        · exact h i hi
    · exact h
/-- A fault is isolated exactly if a set of nodes holds it and no source, and only devices that are out leave it. -/
theorem isoC_iff {c : CNet} (hc : c.Ok) (out : CEdge → Bool) : isoC c out = true ↔ ∃ S : Nat → Bool, S c.at_ = true ∧ (∀ i, c.src.getD i false = true → S i = false) ∧ ∀ e ∈ c.edges, S e.a ≠ S e.b → out e = true := by
  constructor
  · intro h
    obtain ⟨hm, _, t, _, _, ht2, hte⟩ := fixB_ind (seen_prog out hc) (fun s => s.getD c.at_ false = true) (fun s _ hs => seenP_mono out c.at_ c.edges (s, false) hs) _ (startB c) (Nat.le_refl _) (startB_len c) (startB_at hc)
    obtain ⟨s1, s2⟩ := seenP_still out c.edges (t, false) ht2
    have he : seenC c out = t := by show fixB _ _ = t; rw [hte, s1]
    unfold isoC at h
    simp only [Bool.not_eq_true'] at h
    refine ⟨fun i => (seenC c out).getD i false, hm, fun i hi => ?_, fun e hme hne => ?_⟩
    · cases hs : (seenC c out).getD i false
      · exact hs
      · have := (srcHit_iff c.src (seenC c out)).2 ⟨i, hi, hs⟩
        rw [this] at h; cases h
    · have := s2 e hme
      rw [he] at hne
      unfold seenE at this
      cases ho : out e
      · rw [ho, if_pos (by simpa using hne)] at this
        have := congrArg Prod.snd this
        cases this
      · rfl
  · rintro ⟨S, h1, h2, h3⟩
    obtain ⟨hm, _⟩ := fixB_ind (seen_prog out hc) (fun s => ∀ i, s.getD i false = true → S i = true) (fun s _ hs => seenP_in out S c.edges (s, false) h3 hs) _ (startB c) (Nat.le_refl _) (startB_len c) (fun i hi => by rw [startB_only i hi]; exact h1)
    unfold isoC
    cases hh : srcHit c.src (seenC c out)
    · rfl
    · obtain ⟨i, hi, hs⟩ := (srcHit_iff _ _).1 hh
      have := hm i hs
      rw [h2 i hi] at this; cases this
theorem isoC_mono {c : CNet} (hc : c.Ok) {out out' : CEdge → Bool} (h : ∀ e, out e = true → out' e = true) (hi : isoC c out = true) : isoC c out' = true := by
  obtain ⟨S, h1, h2, h3⟩ := (isoC_iff hc out).1 hi
  exact (isoC_iff hc out').2 ⟨S, h1, h2, fun e he hne => h e (h3 e he hne)⟩

theorem sideA_cases (c : CNet) (f : List Int) (k : Nat) (st : List Bool × Bool) (e : CEdge) : sideA c f k st e = st ∨ (sideA c f k st e).2 = true := by
  unfold sideA; split
  · exact Or.inr rfl
  · exact Or.inl rfl
theorem sideD_cases (c : CNet) (f : List Int) (k : Nat) (st : List Bool × Bool) (e : CEdge) : sideD c f k st e = st ∨ (sideD c f k st e).2 = true := by
  unfold sideD; split
  · exact Or.inr rfl
  · exact Or.inl rfl
theorem sideD_flag (c : CNet) (f : List Int) (k : Nat) (st : List Bool × Bool) (e : CEdge) (h : st.2 = true) : (sideD c f k st e).2 = true := by
  rcases sideD_cases c f k st e with h1 | h1
  · rw [h1]; exact h
  · exact h1
theorem sideP_flag (c : CNet) (f : List Int) : ∀ (l : List CEdge) (k : Nat) (st : List Bool × Bool), st.2 = true → (sideP c f l k st).2 = true := by
  intro l
  induction l with
  | nil => intro k st h; exact h
  | cons e es ih =>
    intro k st h
    refine ih (k + 1) _ (sideD_flag c f k _ e ?_)
    rcases sideA_cases c f k st e with h1 | h1
    · rw [h1]; exact h
    · exact h1
theorem sideP_still (c : CNet) (f : List Int) : ∀ (l : List CEdge) (k : Nat) (st : List Bool × Bool), (sideP c f l k st).2 = false → sideP c f l k st = st ∧ ∀ j e, l[j]? = some e → sideA c f (k + j) st e = st ∧ sideD c f (k + j) st e = st := by
  intro l
  induction l with
  | nil => intro k st _; exact ⟨rfl, fun j e he => by simp at he⟩
  | cons e es ih =>
    intro k st h
    have hd : (sideD c f k (sideA c f k st e) e).2 = false := by
      cases h2 : (sideD c f k (sideA c f k st e) e).2
      · rfl
      · have := sideP_flag c f es (k + 1) _ h2
        rw [show sideP c f (e :: es) k st = sideP c f es (k + 1) (sideD c f k (sideA c f k st e) e) from rfl, this] at h; cases h
    have ha : sideA c f k st e = st := by
      rcases sideA_cases c f k st e with h2 | h2
      · exact h2
      · have := sideD_flag c f k _ e h2
        rw [hd] at this; cases this
    rw [ha] at hd
    have hd2 : sideD c f k st e = st := by
      rcases sideD_cases c f k st e with h2 | h2
      · exact h2
      · rw [hd] at h2; cases h2
    have h' := h
    rw [show sideP c f (e :: es) k st = sideP c f es (k + 1) (sideD c f k (sideA c f k st e) e) from rfl, ha, hd2] at h'
    obtain ⟨i1, i2⟩ := ih (k + 1) st h'
    refine ⟨by rw [show sideP c f (e :: es) k st = sideP c f es (k + 1) (sideD c f k (sideA c f k st e) e) from rfl, ha, hd2]; exact i1, fun j x hx => ?_⟩
    cases j with
    | zero => simp at hx; subst hx; exact ⟨ha, hd2⟩
    | succ j => rw [show k + (j + 1) = k + 1 + j by omega]; exact i2 j x (by simpa using hx)
theorem sideP_in (c : CNet) (f : List Int) (R : Nat → Bool) (hR : ∀ k e, c.edges[k]? = some e → (R e.a = true → R e.b = false → roomC c f k e.a ≤ 0) ∧ (R e.b = true → R e.a = false → roomC c f k e.b ≤ 0)) :
    ∀ (l : List CEdge) (k : Nat) (st : List Bool × Bool), (∀ j e, l[j]? = some e → c.edges[k + j]? = some e) → (∀ i, st.1.getD i false = true → R i = false) → ∀ i, (sideP c f l k st).1.getD i false = true → R i = false := by
  intro l
  induction l with
  | nil => intro k st _ h; exact h
  | cons e es ih =>
    intro k st hl h
    obtain ⟨r1, r2⟩ := hR k e (hl 0 e rfl)
    have hA : ∀ i, (sideA c f k st e).1.getD i false = true → R i = false := by
      unfold sideA
      split
      · rename_i hh
        simp only [Bool.and_eq_true, Bool.not_eq_true', decide_eq_true_eq] at hh
        intro i hi
        simp only at hi
        rcases getDB_set_or hi with rfl | hi
        · cases hra : R e.a
          · rfl
          · have := r1 hra (h _ hh.1.1); omega
        · exact h i hi
      · exact h
    refine ih (k + 1) _ (fun j x hx => by have := hl (j + 1) x (by simpa using hx); rw [show k + 1 + j = k + (j + 1) by omega]; exact this) ?_
    generalize sideA c f k st e = st1 at *
    unfold sideD
    split
    · rename_i hh
      simp only [Bool.and_eq_true, Bool.not_eq_true', decide_eq_true_eq] at hh
      intro i hi
      simp only at hi
      rcases getDB_set_or hi with rfl | hi
      · cases hra : R e.b
        · rfl
        · have := r2 hra (hA _ hh.1.1); omega
      · exact hA i hi
    · exact hA
theorem sideP_mono (c : CNet) (f : List Int) (j : Nat) : ∀ (l : List CEdge) (k : Nat) (st : List Bool × Bool), st.1.getD j false = true → (sideP c f l k st).1.getD j false = true := by
  intro l
  induction l with
  | nil => intro k st h; exact h
  | cons e es ih =>
    intro k st h
    refine ih (k + 1) _ ?_
    have hA : (sideA c f k st e).1.getD j false = true := by
      unfold sideA
      split
      · exact getDB_mono h
      · exact h
    unfold sideD
    split
    · exact getDB_mono hA
    · exact hA
/-- side: it holds the fault, keeps off what a search has reached, and nothing more can enter it. -/
theorem sideC_ok {c : CNet} (hc : c.Ok) (f : List Int) (R : Nat → Bool) (hat : R c.at_ = false) (hR : ∀ k e, c.edges[k]? = some e → (R e.a = true → R e.b = false → roomC c f k e.a ≤ 0) ∧ (R e.b = true → R e.a = false → roomC c f k e.b ≤ 0)) :
    (sideC c f).getD c.at_ false = true ∧ (∀ i, (sideC c f).getD i false = true → R i = false) ∧ ∀ k e, c.edges[k]? = some e →
      ((sideC c f).getD e.b false = true → (sideC c f).getD e.a false = false → roomC c f k e.a ≤ 0) ∧ ((sideC c f).getD e.a false = true → (sideC c f).getD e.b false = false → roomC c f k e.b ≤ 0) := by
  obtain ⟨⟨m1, m2⟩, _, t, _, _, ht2, hte⟩ := fixB_ind (side_prog c f hc) (fun s => s.getD c.at_ false = true ∧ ∀ i, s.getD i false = true → R i = false)
    (fun s _ hs => ⟨sideP_mono c f c.at_ c.edges 0 (s, false) hs.1, sideP_in c f R hR c.edges 0 (s, false) (fun j e he => by rw [Nat.zero_add]; exact he) hs.2⟩) _ (startB c) (Nat.le_refl _) (startB_len c) ⟨startB_at hc, fun i hi => by rw [startB_only i hi]; exact hat⟩
  obtain ⟨s1, s2⟩ := sideP_still c f c.edges 0 (t, false) ht2
  have he : sideC c f = t := by show fixB _ _ = t; rw [hte, s1]
  refine ⟨m1, m2, fun k e hk => ?_⟩
  obtain ⟨a1, a2⟩ := s2 k e hk
  rw [Nat.zero_add] at a1 a2
  rw [he]
  refine ⟨fun h1 h2 => Int.not_lt.1 fun hr => ?_, fun h1 h2 => Int.not_lt.1 fun hr => ?_⟩
  · unfold sideA at a1
    rw [if_pos (by simp only [h1, h2, decide_eq_true hr]; rfl)] at a1
    have := congrArg Prod.snd a1
    cases this
  · unfold sideD at a2
    rw [if_pos (by simp only [h1, h2, decide_eq_true hr]; rfl)] at a2
    have := congrArg Prod.snd a2
    cases this

def crossB (S : Nat → Bool) (e : CEdge) : Bool := S e.a != S e.b
theorem excS_count (S : Nat → Bool) : ∀ (es : List CEdge) (f : List Int), (∀ k e, es[k]? = some e → S e.a ≠ S e.b → f.getD k 0 = if S e.b = true then 1 else -1) → excS es f S = (es.filter (crossB S)).length := by
  intro es
  induction es with
  | nil => intro f _; rfl
  | cons x xs ih =>
    intro f h
    have h1 := ih f.tail (fun k e he hne => by rw [tail_getD]; exact h (k + 1) e (by simpa using he) hne)
    have h0 := h 0 x rfl
    unfold excS
    rw [h1, headD_getD, List.filter_cons]
    unfold crossB
    cases ha : S x.a <;> cases hb : S x.b
    · simp
    · rw [ha, hb] at h0
      simp only [ne_eq, Bool.false_eq_true, not_false_eq_true, if_true, forall_const] at h0
      rw [h0]; simp; omega
    · rw [ha, hb] at h0
      simp only [ne_eq, Bool.true_eq_false, not_false_eq_true, Bool.false_eq_true, if_false, forall_const] at h0
      rw [h0]; simp; omega
    · simp
theorem excS_le (S : Nat → Bool) : ∀ (es : List CEdge) (f : List Int), (∀ k e, es[k]? = some e → S e.a ≠ S e.b → -1 ≤ f.getD k 0 ∧ f.getD k 0 ≤ 1) → excS es f S ≤ (es.filter (crossB S)).length := by
  intro es
  induction es with
  | nil => intro f _; exact Int.le_refl _
  | cons x xs ih =>
    intro f h
    have h1 := ih f.tail (fun k e he hne => by rw [tail_getD]; exact h (k + 1) e (by simpa using he) hne)
    have h0 := h 0 x rfl
    unfold excS
    rw [headD_getD, List.filter_cons]
    unfold crossB at *
    cases ha : S x.a <;> cases hb : S x.b
    · simp; exact h1
    · rw [ha, hb] at h0
      have := h0 (by decide)
      generalize f.getD 0 0 = d at *
      simp; omega
    · rw [ha, hb] at h0
      have := h0 (by decide)
      generalize f.getD 0 0 = d at *
      simp; omega
    · simp; exact h1
/-- largest. -/
def largF (c : CNet) : Nat → Nat → List Int → List Int × Nat
  | 0, n, f => (f, n)
  | k + 1, n, f => match augC c f with
    | none => (f, n)
    | some f' => largF c k (n + 1) f'
def zeroF (c : CNet) : List Int := List.replicate c.edges.length 0
def largC (c : CNet) : List Int × Nat :=
  if c.src.getD c.at_ false = true then (zeroF c, 1000) else ((largF c 100 0 (zeroF c)).1, if (largF c 100 0 (zeroF c)).2 = 100 then 1000 else (largF c 100 0 (zeroF c)).2)
structure FlowN (c : CNet) (f : List Int) (v : Nat) : Prop where
  fl : FlowV c f v
  bd : ∀ k, -(v : Int) ≤ f.getD k 0 ∧ f.getD k 0 ≤ v
theorem largF_ok {c : CNet} (hc : c.Ok) : ∀ (k n : Nat) (f : List Int), FlowN c f n → FlowN c (largF c k n f).1 (largF c k n f).2 ∧ n ≤ (largF c k n f).2 ∧ (largF c k n f).2 ≤ n + k ∧ ((largF c k n f).2 < n + k → augC c (largF c k n f).1 = none) := by
  intro k
  induction k with
  | zero => intro n f h; exact ⟨h, Nat.le_refl _, Nat.le_refl _, fun h => absurd h (Nat.lt_irrefl _)⟩
  | succ k ih =>
    intro n f h
    unfold largF
    cases ha : augC c f with
    | none => exact ⟨h, Nat.le_refl _, by simp only; omega, fun _ => ha⟩
    | some f' =>
      obtain ⟨a1, a2⟩ := augC_ok hc h.fl ha
      obtain ⟨b1, b2, b3, b4⟩ := ih (n + 1) f' ⟨a1, fun j => by have := h.bd j; have := a2 j; push_cast; omega⟩
      simp only
      exact ⟨b1, by omega, by omega, fun hlt => b4 (by omega)⟩
theorem FlowN.zero (c : CNet) : FlowN c (zeroF c) 0 := by
  refine ⟨FlowV.zero c, fun k => ?_⟩
  have h0 : (zeroF c).getD k 0 = 0 := by
    unfold zeroF; rw [List.getD_eq_getElem?_getD, List.getElem?_replicate]; split <;> rfl
  rw [h0]; simp
/-- What largest answers. -/
theorem largC_ok {c : CNet} (hc : c.Ok) : (c.src.getD c.at_ false = true ∧ (largC c).2 = 1000) ∨ (c.src.getD c.at_ false = false ∧
    ((FlowN c (largC c).1 100 ∧ (largC c).2 = 1000) ∨ ((largC c).2 < 100 ∧ FlowN c (largC c).1 (largC c).2 ∧ augC c (largC c).1 = none))) := by
  cases hs : c.src.getD c.at_ false
  · right
    refine ⟨rfl, ?_⟩
    obtain ⟨h1, h2, h3, h4⟩ := largF_ok hc 100 0 (zeroF c) (FlowN.zero c)
    have e : largC c = ((largF c 100 0 (zeroF c)).1, if (largF c 100 0 (zeroF c)).2 = 100 then 1000 else (largF c 100 0 (zeroF c)).2) := by
      unfold largC; rw [hs]; rfl
    rw [e]
    generalize largF c 100 0 (zeroF c) = L at *
    simp only
    split
    · rename_i hh
      rw [hh] at h1
      exact Or.inl ⟨h1, rfl⟩
    · rename_i hh
      exact Or.inr ⟨by omega, h1, h4 (by omega)⟩
  · left
    exact ⟨rfl, by unfold largC; rw [hs]; rfl⟩
/-- Least: the names of the edges that leave the side. -/
def crossC (c : CNet) (f : List Int) : List CEdge := c.edges.filter fun e => (sideC c f).getD e.a false != (sideC c f).getD e.b false
theorem least_ok {c : CNet} (hc : c.Ok) {f : List Int} {v : Nat} (h : FlowN c f v) (hv : v < 100) (ha : augC c f = none) :
    ∃ S : Nat → Bool, S c.at_ = true ∧ (∀ i, c.src.getD i false = true → S i = false) ∧ crossC c f = c.edges.filter (crossB S) ∧ (crossC c f).length = v ∧ ∀ e ∈ crossC c f, e.brk = true := by
  obtain ⟨R, r1, r2, r3⟩ := augC_none hc ha
  obtain ⟨s1, s2, s3⟩ := sideC_ok hc f R r1 r3
  have hcap : ∀ k e, c.edges[k]? = some e → (sideC c f).getD e.a false ≠ (sideC c f).getD e.b false → e.brk = true ∧ f.getD k 0 = if (sideC c f).getD e.b false = true then 1 else -1 := by
    intro k e he hne
    obtain ⟨q1, q2⟩ := s3 k e he
    have hee : edgeAt c k = e := by unfold edgeAt; simp [he]
    have hcp := h.fl.cap k e he
    have hbd := h.bd k
    have hab : e.a ≠ e.b := fun h => hne (by rw [h])
    unfold roomC at q1 q2
    rw [hee] at q1 q2
    rw [if_pos rfl] at q1
    rw [if_neg (Ne.symm hab)] at q2
    unfold CEdge.cap at *
    generalize f.getD k 0 = d at *
    cases hb : (sideC c f).getD e.b false
    · cases ha : (sideC c f).getD e.a false
      · rw [ha, hb] at hne; exact absurd rfl hne
      · have := q2 ha hb
        cases hk : e.brk
        · simp only [hk, Bool.false_eq_true, if_false] at this; omega
        · simp only [hk, if_true] at this hcp; exact ⟨rfl, by simp; omega⟩
    · cases ha : (sideC c f).getD e.a false
      · have := q1 hb ha
        cases hk : e.brk
        · simp only [hk, Bool.false_eq_true, if_false] at this; omega
        · simp only [hk, if_true] at this hcp; exact ⟨rfl, by simp; omega⟩
      · rw [ha, hb] at hne; exact absurd rfl hne
  have hsrc : ∀ i, c.src.getD i false = true → (sideC c f).getD i false = false := fun i hi => by
    cases hs : (sideC c f).getD i false
    · rfl
    · have hin : i < c.nodes := by
        rw [← hc.src]
        refine Nat.lt_of_not_le fun hle => ?_
        rw [List.getD_eq_getElem?_getD, List.getElem?_eq_none_iff.2 hle] at hi; cases hi
      have := s2 i hs
      rw [r2 i hin hi] at this; cases this
  refine ⟨fun i => (sideC c f).getD i false, s1, hsrc, rfl, ?_, fun e he => ?_⟩
  · have h1 := h.fl.cut hc (fun i => (sideC c f).getD i false) s1 hsrc
    have h2 := excS_count (fun i => (sideC c f).getD i false) c.edges f (fun k e he hne => (hcap k e he hne).2)
    rw [h1] at h2
    have : (crossC c f).length = (c.edges.filter (crossB fun i => (sideC c f).getD i false)).length := rfl
    omega
  · obtain ⟨hm, hx⟩ := List.mem_filter.1 he
    obtain ⟨k, hk⟩ := List.getElem?_of_mem hm
    exact (hcap k e hk (by simpa using hx)).1
/-- Breakers have names of their own. -/
def CNames (c : CNet) : Prop := ∀ (k k' : Nat) (e e' : CEdge), c.edges[k]? = some e → c.edges[k']? = some e' → e.brk = true → e.name = e'.name → k = k'
theorem nodup_le {α : Type} : ∀ (a b : List α), a.Nodup → (∀ x ∈ a, x ∈ b) → a.length ≤ b.length := by
  intro a
  induction a with
  | nil => intro b _ _; exact Nat.zero_le _
  | cons x xs ih =>
    intro b hn hs
    obtain ⟨hx, hn2⟩ := List.nodup_cons.1 hn
    obtain ⟨p, q, rfl⟩ := List.append_of_mem (hs x List.mem_cons_self)
    have := ih (p ++ q) hn2 (fun y hy => by
      have := hs y (List.mem_cons_of_mem _ hy)
      rcases List.mem_append.1 this with h | h
      · exact List.mem_append_left _ h
      · rcases List.mem_cons.1 h with h | h
        · subst h; exact absurd hy hx
        · exact List.mem_append_right _ h)
    simp only [List.length_append, List.length_cons] at this ⊢
    omega
theorem names_nodup : ∀ (es : List CEdge) (p : CEdge → Bool), (∀ (k k' : Nat) (e e' : CEdge), es[k]? = some e → es[k']? = some e' → e.brk = true → e.name = e'.name → k = k') → (∀ e ∈ es.filter p, e.brk = true) → ((es.filter p).map CEdge.name).Nodup := by
  intro es p
  induction es with
  | nil => intro _ _; exact List.nodup_nil
  | cons x xs ih =>
    intro hu hb
    have hu2 : ∀ (k k' : Nat) (e e' : CEdge), xs[k]? = some e → xs[k']? = some e' → e.brk = true → e.name = e'.name → k = k' := fun k k' e e' h1 h2 h3 h4 => by
      have := hu (k + 1) (k' + 1) e e' (by simpa using h1) (by simpa using h2) h3 h4
      omega
    cases hp : p x
    · have e : (x :: xs).filter p = xs.filter p := by rw [List.filter_cons, hp]; rfl
      rw [e] at hb ⊢
      exact ih hu2 hb
    · have e : (x :: xs).filter p = x :: xs.filter p := by rw [List.filter_cons, hp]; rfl
      rw [e] at hb ⊢
      rw [List.map_cons, List.nodup_cons]
      refine ⟨fun hm => ?_, ih hu2 (fun e he => hb e (List.mem_cons_of_mem _ he))⟩
      obtain ⟨e, he, hne⟩ := List.mem_map.1 hm
      obtain ⟨k, hk⟩ := List.getElem?_of_mem (List.mem_filter.1 he).1
      have := hu 0 (k + 1) x e rfl (by simpa using hk) (hb x List.mem_cons_self) hne.symm
      omega
/-- A flow is no greater than a set of breakers that isolates. -/
theorem flow_le {c : CNet} (hc : c.Ok) (hn : CNames c) {f : List Int} {v : Nat} (h : FlowV c f v) (op : List ByteArray) (hi : isoC c (fun e => hasS e.name op) = true) (hmem : ∀ s, hasS s op = true → s ∈ op)
    (hb : ∀ e ∈ c.edges, hasS e.name op = true → e.brk = true) : v ≤ op.length := by
  obtain ⟨S, s1, s2, s3⟩ := (isoC_iff hc _).1 hi
  have h1 := h.cut hc S s1 s2
  have hx : ∀ e ∈ c.edges.filter (crossB S), hasS e.name op = true ∧ e.brk = true := fun e he => by
    obtain ⟨hm, hx⟩ := List.mem_filter.1 he
    have := s3 e hm (by unfold crossB at hx; simpa using hx)
    exact ⟨this, hb e hm this⟩
  have h2 := excS_le S c.edges f (fun k e he hne => by
    have h3 := h.cap k e he
    have h4 := hx e (List.mem_filter.2 ⟨List.mem_of_getElem? he, by unfold crossB; simpa using hne⟩)
    unfold CEdge.cap at h3
    rw [if_pos h4.2] at h3
    exact h3)
  have h3 := names_nodup c.edges (crossB S) hn (fun e he => (hx e he).2)
  have h4 := nodup_le _ op h3 (fun s hs => by
    obtain ⟨e, he, rfl⟩ := List.mem_map.1 hs
    exact hmem _ (hx e he).1)
  rw [List.length_map] at h4
  omega
end Go.Proofs.Ytplebibabcdipaa
