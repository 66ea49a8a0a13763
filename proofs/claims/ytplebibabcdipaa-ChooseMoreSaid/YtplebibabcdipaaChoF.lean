/- choose: flows: the excess of a set of nodes; what augment does to a flow. -/
import Derived.Test.YtplebibabcdipaaCho11
namespace Go.Proofs.Ytplebibabcdipaa

/-- What flows into a set of nodes. -/
def excS : List CEdge → List Int → (Nat → Bool) → Int
  | [], _, _ => 0
  | e :: es, f, S => (if S e.b = true then f.headD 0 else 0) - (if S e.a = true then f.headD 0 else 0) + excS es f.tail S
theorem headD_getD (f : List Int) : f.headD 0 = f.getD 0 0 := by cases f <;> rfl
theorem tail_getD (f : List Int) (k : Nat) : f.tail.getD k 0 = f.getD (k + 1) 0 := by cases f <;> rfl
theorem excS_set : ∀ (es : List CEdge) (f : List Int) (S : Nat → Bool) (k : Nat) (e : CEdge) (d : Int), es[k]? = some e → k < f.length →
    excS es (f.set k (f.getD k 0 + d)) S = excS es f S + (if S e.b = true then d else 0) - (if S e.a = true then d else 0) := by
  intro es
  induction es with
  | nil => intro f S k e d h; simp at h
  | cons x xs ih =>
    intro f S k e d h hk
    cases f with
    | nil => simp at hk
    | cons y ys =>
      cases k with
      | zero =>
        simp at h; subst h
        simp only [List.set_cons_zero, excS, List.headD_cons, List.tail_cons, List.getD_cons_zero]
        split <;> split <;> omega
      | succ k =>
        have := ih ys S k e d (by simpa using h) (by simpa using hk)
        simp only [List.set_cons_succ, excS, List.headD_cons, List.tail_cons, List.getD_cons_succ]
        rw [this]; omega
theorem excS_zero (es : List CEdge) (S : Nat → Bool) : ∀ (n : Nat), excS es (List.replicate n 0) S = 0 := by
  induction es with
  | nil => intro n; rfl
  | cons x xs ih =>
    intro n
    cases n with
    | zero => have := ih 0; simp only [List.replicate_zero] at this; simp [excS, this]
    | succ n => have := ih n; simp [excS, List.replicate_succ, this]
theorem excS_congr (es : List CEdge) (f : List Int) (S T : Nat → Bool) (h : ∀ e ∈ es, S e.a = T e.a ∧ S e.b = T e.b) : excS es f S = excS es f T := by
  induction es generalizing f with
  | nil => rfl
  | cons x xs ih =>
    obtain ⟨h1, h2⟩ := h x List.mem_cons_self
    unfold excS
    rw [h1, h2, ih f.tail (fun e he => h e (List.mem_cons_of_mem _ he))]
theorem excS_none (es : List CEdge) (f : List Int) (S : Nat → Bool) (h : ∀ i, S i = false) : excS es f S = 0 := by
  induction es generalizing f with
  | nil => rfl
  | cons x xs ih => unfold excS; rw [h, h, ih]; simp
theorem excS_split (es : List CEdge) (f : List Int) (S : Nat → Bool) (n : Nat) :
    excS es f (fun i => S i && decide (i < n + 1)) = excS es f (fun i => S i && decide (i < n)) + (if S n = true then excS es f (fun i => i == n) else 0) := by
  induction es generalizing f with
  | nil => simp [excS]
  | cons x xs ih =>
    simp only [excS, ih]
    have key : ∀ j : Nat, (if (S j && decide (j < n + 1)) = true then f.headD 0 else 0) = (if (S j && decide (j < n)) = true then f.headD 0 else 0) + (if S n = true then (if (j == n) = true then f.headD 0 else 0) else 0) := by
      intro j
      by_cases hj : j = n
      · subst hj; cases S j <;> simp
      · have h1 : (j == n) = false := by simpa using hj
        rw [h1]
        by_cases hlt : j < n
        · have h2 : decide (j < n) = true := decide_eq_true hlt
          have h3 : decide (j < n + 1) = true := decide_eq_true (by omega)
          rw [h2, h3]; cases S j <;> cases S n <;> simp
        · have h2 : decide (j < n) = false := decide_eq_false hlt
          have h3 : decide (j < n + 1) = false := decide_eq_false (by omega)
          rw [h2, h3]; cases S j <;> cases S n <;> simp
    rw [key, key]
    cases S n <;> simp <;> omega
/-- A set's excess is the sum of its nodes'. -/
theorem excS_sum (es : List CEdge) (f : List Int) (S : Nat → Bool) (at_ : Nat) (v : Int) (h : ∀ i, S i = true → excS es f (fun j => j == i) = if i = at_ then v else 0) :
    ∀ n, excS es f (fun i => S i && decide (i < n)) = if S at_ = true ∧ at_ < n then v else 0 := by
  intro n
  induction n with
  | zero => rw [excS_none _ _ _ (by intro i; simp)]; simp
  | succ n ih =>
    rw [excS_split, ih]
    cases hn : S n
    · by_cases hat : at_ = n
      · subst hat; simp [hn]
      · have : (at_ < n + 1) ↔ (at_ < n) := by omega
        simp [this]
    · rw [h n hn]
      by_cases hat : n = at_
      · subst hat; simp [hn]
      · have : (at_ < n + 1) ↔ (at_ < n) := by omega
        simp [this, hat]
/-- A flow of v units from the sources to the fault. -/
structure FlowV (c : CNet) (f : List Int) (v : Nat) : Prop where
  len : f.length = c.edges.length
  cap : ∀ k e, c.edges[k]? = some e → -e.cap ≤ f.getD k 0 ∧ f.getD k 0 ≤ e.cap
  bal : ∀ i, c.src.getD i false = false → excS c.edges f (fun j => j == i) = if i = c.at_ then (v : Int) else 0
  out : ∀ k e, c.edges[k]? = some e → (c.src.getD e.a false = true → 0 ≤ f.getD k 0) ∧ (c.src.getD e.b false = true → f.getD k 0 ≤ 0)
theorem cap_le (e : CEdge) : 1 ≤ e.cap ∧ e.cap ≤ 1000 := by unfold CEdge.cap; split <;> omega
theorem FlowV.zero (c : CNet) : FlowV c (List.replicate c.edges.length 0) 0 := by
  have h0 : ∀ k, (List.replicate c.edges.length (0 : Int)).getD k 0 = 0 := fun k => by
    rw [List.getD_eq_getElem?_getD, List.getElem?_replicate]; split <;> rfl
  refine ⟨by simp, fun k e _ => ?_, fun i hi => ?_, fun k e _ => ?_⟩
  · rw [h0]; have := cap_le e; omega
  · rw [excS_zero]; simp
  · rw [h0]; exact ⟨fun _ => Int.le_refl _, fun _ => Int.le_refl _⟩
theorem FlowV.B {c : CNet} {f : List Int} {v : Nat} (h : FlowV c f v) : FlowB c f := by
  have key : ∀ k, -1000 ≤ f.getD k 0 ∧ f.getD k 0 ≤ 1000 := fun k => by
    cases hk : c.edges[k]? with
    | none =>
      have : f.length ≤ k := by rw [h.len]; exact List.getElem?_eq_none_iff.1 hk
      have h0 : f.getD k 0 = 0 := by simp [this]
      rw [h0]; omega
    | some e => have h1 := h.cap k e hk; have h2 := cap_le e; omega
  exact ⟨h.len, fun k => (key k).1, fun k => (key k).2⟩
/-- All that flows into a set with the fault and without a source. -/
theorem FlowV.cut {c : CNet} (hc : c.Ok) {f : List Int} {v : Nat} (h : FlowV c f v) (S : Nat → Bool) (hat : S c.at_ = true) (hs : ∀ i, c.src.getD i false = true → S i = false) : excS c.edges f S = v := by
  have h1 := excS_sum c.edges f S c.at_ v (fun i hi => h.bal i (by
    cases hsi : c.src.getD i false
    · rfl
    · rw [hs i hsi] at hi; cases hi)) c.nodes
  rw [if_pos ⟨hat, hc.at_⟩] at h1
  rw [← h1]
  apply excS_congr
  intro e he
  obtain ⟨ha, hb⟩ := hc.ne e he
  simp [ha, hb]

theorem Chain.uniq {c : CNet} {by_ : List Int} : ∀ (m m' i : Nat), Chain c by_ m i → Chain c by_ m' i → m = m' := by
  intro m
  induction m with
  | zero =>
    intro m' i h h'
    cases m' with
    | zero => rfl
    | succ m' => have := h.2; have := h'.2.1; omega
  | succ m ih =>
    intro m' i h h'
    cases m' with
    | zero => have := h'.2; have := h.2.1; omega
    | succ m' => rw [ih m' _ h.2.2.2 h'.2.2.2]
theorem pushE_len (c : CNet) (k i : Nat) (f : List Int) : (pushE c k i f).length = f.length := by unfold pushE; simp
theorem pathF_len (c : CNet) (by_ : List Int) : ∀ (m i : Nat) (f : List Int), (pathF c by_ m i f).length = f.length := by
  intro m
  induction m with
  | zero => intro i f; rfl
  | succ m ih => intro i f; unfold pathF; split; rw [ih, pushE_len]; rfl
/-- What a way of the search does to one edge. -/
theorem pathF_get {c : CNet} {f0 by_ : List Int} (ht : TreeI c f0 by_) : ∀ (m i : Nat) (f : List Int), f.length = c.edges.length → Chain c by_ m i →
    ∀ k, (pathF c by_ m i f).getD k 0 = f.getD k 0 ∨ ∃ m' j, m' ≤ m ∧ 1 ≤ m' ∧ Chain c by_ m' j ∧ by_.getD j 0 = (k : Int) ∧ (pathF c by_ m i f).getD k 0 = if (edgeAt c k).b = j then f.getD k 0 + 1 else f.getD k 0 - 1 := by
  intro m
  induction m with
  | zero => intro i f _ _ k; exact Or.inl rfl
  | succ m ih =>
    intro i f hf hch k
    have hch0 := hch
    obtain ⟨hi, h0, hk0, hch1⟩ := hch
    obtain ⟨k0, hkk⟩ := Int.eq_ofNat_of_zero_le h0
    have he := (ht.edge i hi h0).2.1
    rw [hkk, Int.toNat_natCast] at hk0 hch1 he
    have e : pathF c by_ (m + 1) i f = pathF c by_ m (farEnd c k0 i) (pushE c k0 i f) := by
      show (if 0 ≤ by_.getD i 0 then pathF c by_ m (farEnd c (by_.getD i 0).toNat i) (pushE c (by_.getD i 0).toNat i f) else f) = _
      rw [if_pos h0, hkk, Int.toNat_natCast]
    rw [e]
    have hlen : k0 < f.length := by rw [hf]; exact hk0
    by_cases hk : k = k0
    · subst hk
      right
      refine ⟨m + 1, i, Nat.le_refl _, by omega, hch0, hkk, ?_⟩
      have hpush : (pushE c k i f).getD k 0 = if (edgeAt c k).b = i then f.getD k 0 + 1 else f.getD k 0 - 1 := by
        unfold pushE; rw [getD_set_eq' hlen]
      rcases ih (farEnd c k i) (pushE c k i f) (by rw [pushE_len]; exact hf) hch1 k with h | ⟨m', j, hm, h1, hcj, hbj, _⟩
      · rw [h, hpush]
      · exfalso
        cases m' with
        | zero => omega
        | succ m' =>
          have hcj0 := hcj
          obtain ⟨hj, hj0, _, hcj1⟩ := hcj
          have hej := (ht.edge j hj hj0).2.1
          rw [hbj, Int.toNat_natCast] at hcj1 hej
          by_cases hij : j = i
          · subst hij
            have := Chain.uniq _ _ _ hcj0 hch0
            omega
          · have hfar : farEnd c k i = j := by
              unfold farEnd
              split
              · rename_i hb
                rcases hej with h | h
                · exact h
                · exact absurd (h.symm.trans hb) hij
              · rename_i hb
                rcases hej with h | h
                · rcases he with h' | h'
                  · exact absurd (h.symm.trans h') hij
                  · exact absurd h' hb
                · exact h
            have hfar2 : farEnd c k j = i := by
              unfold farEnd
              split
              · rename_i hb
                rcases he with h | h
                · exact h
                · exact absurd (hb.symm.trans h) hij
              · rename_i hb
                rcases he with h | h
                · rcases hej with h' | h'
                  · exact absurd (h'.symm.trans h) hij
                  · exact absurd h' hb
                · exact h
            rw [hfar] at hch1
            rw [hfar2] at hcj1
            have a1 := Chain.uniq _ _ _ hch1 hcj0
            have a2 := Chain.uniq _ _ _ hcj1 hch0
            omega
    · have hne : (pushE c k0 i f).getD k 0 = f.getD k 0 := by unfold pushE; exact getD_set_ne' hk
      rcases ih (farEnd c k0 i) (pushE c k0 i f) (by rw [pushE_len]; exact hf) hch1 k with h | ⟨m', j, hm, h1, hcj, hbj, hv⟩
      · left; rw [h, hne]
      · right; exact ⟨m', j, by omega, h1, hcj, hbj, by rw [hv, hne]⟩
/-- One unit more flows into the sets that hold the way's first node, and out of those that hold its root. -/
theorem pathF_exc {c : CNet} {f0 by_ : List Int} (ht : TreeI c f0 by_) (S : Nat → Bool) : ∀ (m i : Nat) (f : List Int), f.length = c.edges.length → Chain c by_ m i →
    ∃ r, Chain c by_ 0 r ∧ excS c.edges (pathF c by_ m i f) S = excS c.edges f S + (if S i = true then 1 else 0) - (if S r = true then 1 else 0) := by
  intro m
  induction m with
  | zero => intro i f _ h; exact ⟨i, h, by show excS c.edges f S = _; omega⟩
  | succ m ih =>
    intro i f hf hch
    obtain ⟨hi, h0, hk0, hch1⟩ := hch
    obtain ⟨k0, hkk⟩ := Int.eq_ofNat_of_zero_le h0
    have he := (ht.edge i hi h0).2.1
    rw [hkk, Int.toNat_natCast] at hk0 hch1 he
    have e : pathF c by_ (m + 1) i f = pathF c by_ m (farEnd c k0 i) (pushE c k0 i f) := by
      show (if 0 ≤ by_.getD i 0 then pathF c by_ m (farEnd c (by_.getD i 0).toNat i) (pushE c (by_.getD i 0).toNat i f) else f) = _
      rw [if_pos h0, hkk, Int.toNat_natCast]
    rw [e]
    have hlen : k0 < f.length := by rw [hf]; exact hk0
    obtain ⟨r, hr, hx⟩ := ih (farEnd c k0 i) (pushE c k0 i f) (by rw [pushE_len]; exact hf) hch1
    refine ⟨r, hr, ?_⟩
    rw [hx]
    obtain ⟨x, hxe⟩ : ∃ x, c.edges[k0]? = some x := ⟨_, List.getElem?_eq_getElem hk0⟩
    have hee : edgeAt c k0 = x := by unfold edgeAt; simp [hxe]
    have hp : excS c.edges (pushE c k0 i f) S = excS c.edges f S + (if S i = true then 1 else 0) - (if S (farEnd c k0 i) = true then 1 else 0) := by
      unfold pushE farEnd
      rw [hee] at he ⊢
      by_cases hb : x.b = i
      · rw [if_pos hb, if_pos hb, excS_set c.edges f S k0 x 1 hxe hlen, hb]
      · rw [if_neg hb, if_neg hb, show f.getD k0 0 - 1 = f.getD k0 0 + (-1) by omega, excS_set c.edges f S k0 x (-1) hxe hlen]
        rcases he with ha | ha
        · rw [ha]; split <;> split <;> omega
        · exact absurd ha hb
    rw [hp]; omega
/-- Where the search knows a root, a source is. -/
def SrcI (c : CNet) (by_ : List Int) : Prop := ∀ i, i < c.nodes → (c.src.getD i false = true ↔ by_.getD i 0 < -1)
theorem addN_src {c : CNet} {f : List Int} {k i t : Nat} {st : List Int × List Int} (h : SrcI c st.1) : SrcI c (addN c f k i t st).1 := by
  unfold addN
  split
  · rename_i hh
    simp only [Bool.and_eq_true, beq_iff_eq, decide_eq_true_eq] at hh
    intro j hj
    simp only
    by_cases hjt : j = t
    · subst hjt
      by_cases hl : j < st.1.length
      · rw [getD_set_eq' hl, h j hj, hh.1]; omega
      · rw [List.set_eq_of_length_le (by omega)]; exact h j hj
    · rw [getD_set_ne' hjt]; exact h j hj
  · exact h
theorem bfsP_src {c : CNet} {f : List Int} {i : Nat} : ∀ (l : List CEdge) (k : Nat) (st : List Int × List Int), SrcI c st.1 → SrcI c (bfsP c f i l k st).1 := by
  intro l
  induction l with
  | nil => intro k st h; exact h
  | cons e es ih =>
    intro k st h
    refine ih (k + 1) _ ?_
    unfold bfsE
    split
    · exact addN_src h
    · split
      · exact addN_src h
      · exact h
theorem bfsF_src {c : CNet} {f : List Int} : ∀ (n : Nat) (by_ q : List Int), SrcI c by_ → SrcI c (bfsF c f n by_ q) := by
  intro n
  induction n with
  | zero => intro by_ q h; exact h
  | succ n ih =>
    intro by_ q h
    cases q with
    | nil => exact h
    | cons i q =>
      unfold bfsF
      split
      · exact ih _ _ (bfsP_src c.edges 0 (by_, q) h)
      · exact h
theorem reach_src (c : CNet) (f : List Int) : SrcI c (reachC c f) := by
  refine bfsF_src _ _ _ fun i hi => ?_
  simp only
  rw [byOf_get c.src c.nodes c.nodes i hi hi]
  cases c.src.getD i false <;> simp
/-- augment: one unit more. -/
theorem augC_ok {c : CNet} (hc : c.Ok) {f f' : List Int} {v : Nat} (h : FlowV c f v) (ha : augC c f = some f') : FlowV c f' (v + 1) ∧ ∀ k, f'.getD k 0 ≤ f.getD k 0 + 1 ∧ f.getD k 0 - 1 ≤ f'.getD k 0 := by
  unfold augC at ha
  split at ha
  · cases ha
  · rename_i hat
    cases ha
    obtain ⟨ht, hlen, _, _⟩ := reach_ok f hc
    have hsr := reach_src c f
    obtain ⟨m, hch, hm⟩ := ht.ok c.at_ hc.at_ hat
    rw [pathF_eq m c.nodes c.at_ f hch (by omega)]
    generalize reachC c f = by_ at *
    have hg := pathF_get ht m c.at_ f h.len hch
    have hroom : ∀ (k : Nat) (e : CEdge) (m' j : Nat), c.edges[k]? = some e → 1 ≤ m' → Chain c by_ m' j → by_.getD j 0 = (k : Int) → c.src.getD j false = false ∧ (e.b = j → f.getD k 0 + 1 ≤ e.cap) ∧ (e.b ≠ j → e.a = j ∧ -e.cap ≤ f.getD k 0 - 1) := by
      intro k e m' j he h1 hcj hbj
      cases m' with
      | zero => omega
      | succ m' =>
        obtain ⟨hj, hj0, _, _⟩ := hcj
        obtain ⟨_, h3, h4⟩ := ht.edge j hj hj0
        rw [hbj, Int.toNat_natCast] at h3 h4
        have hee : edgeAt c k = e := by unfold edgeAt; simp [he]
        unfold roomC farEnd at h4
        rw [hee] at h3 h4
        refine ⟨?_, fun hb => ?_, fun hb => ?_⟩
        · have := (hsr j hj).1
          cases hs : c.src.getD j false
          · rfl
          · have := this hs; omega
        · rw [if_pos hb, if_pos rfl] at h4; omega
        · have hja : e.a = j := by rcases h3 with h3 | h3; exact h3; exact absurd h3 hb
          rw [if_neg hb, if_neg (by rw [hja]; exact hb)] at h4
          exact ⟨hja, by omega⟩
    refine ⟨⟨by rw [pathF_len]; exact h.len, fun k e he => ?_, fun i hi => ?_, fun k e he => ?_⟩, fun k => ?_⟩
    · have hcp := h.cap k e he
      rcases hg k with h1 | ⟨m', j, _, h1, hcj, hbj, hv⟩
      · rw [h1]; exact hcp
      · obtain ⟨_, r1, r2⟩ := hroom k e m' j he h1 hcj hbj
        have hee : edgeAt c k = e := by unfold edgeAt; simp [he]
        rw [hv, hee]
        split
        · rename_i hb; have := r1 hb; omega
        · rename_i hb; have := (r2 hb).2; omega
    · obtain ⟨r, hr, hx⟩ := pathF_exc ht (fun j => j == i) m c.at_ f h.len hch
      have hri : (r == i) = false := by
        rw [beq_eq_false_iff_ne]
        intro e
        have := (hsr r hr.1).2 hr.2
        rw [e, hi] at this; cases this
      rw [hx, h.bal i hi, hri]
      by_cases hia : i = c.at_
      · subst hia; simp
      · have : (c.at_ == i) = false := by rw [beq_eq_false_iff_ne]; exact fun e => hia e.symm
        simp [this, hia]
    · obtain ⟨o1, o2⟩ := h.out k e he
      rcases hg k with h1 | ⟨m', j, _, h1, hcj, hbj, hv⟩
      · rw [h1]; exact ⟨o1, o2⟩
      · obtain ⟨r0, r1, r2⟩ := hroom k e m' j he h1 hcj hbj
        have hee : edgeAt c k = e := by unfold edgeAt; simp [he]
        rw [hv, hee]
        split
        · rename_i hb
          refine ⟨fun hs => ?_, fun hs => ?_⟩
          · have := o1 hs; omega
          · rw [hb, r0] at hs; cases hs
        · rename_i hb
          have hja := (r2 hb).1
          refine ⟨fun hs => ?_, fun hs => ?_⟩
          · rw [hja, r0] at hs; cases hs
          · have := o2 hs; omega
    · rcases hg k with h1 | ⟨m', j, _, h1, hcj, hbj, hv⟩
      · rw [h1]; omega
      · rw [hv]; split <;> omega
/-- augment finds nothing: a set of nodes that holds all sources and not the fault, and that nothing more can leave. -/
theorem augC_none {c : CNet} (hc : c.Ok) {f : List Int} (ha : augC c f = none) : ∃ R : Nat → Bool, R c.at_ = false ∧ (∀ i, i < c.nodes → c.src.getD i false = true → R i = true) ∧
    ∀ k e, c.edges[k]? = some e → (R e.a = true → R e.b = false → roomC c f k e.a ≤ 0) ∧ (R e.b = true → R e.a = false → roomC c f k e.b ≤ 0) := by
  unfold augC at ha
  split at ha
  · rename_i hat
    obtain ⟨_, _, h3, h4⟩ := reach_ok f hc
    refine ⟨fun i => !((reachC c f).getD i 0 == -1), by simp only; rw [hat]; rfl, fun i hi hs => by have := h3 i hi hs; simpa using this, fun k e he => ?_⟩
    obtain ⟨na, nb⟩ := hc.ne e (List.mem_of_getElem? he)
    have hd := h4 hat
    refine ⟨fun h1 h2 => ?_, fun h1 h2 => ?_⟩
    · simp at h1 h2
      refine Int.not_lt.1 fun hr => ?_
      exact ((hd e.a na (by simpa using h1)) k e he hr).2 rfl (by simpa using h2)
    · simp at h1 h2
      refine Int.not_lt.1 fun hr => ?_
      exact ((hd e.b nb (by simpa using h1)) k e he hr).1 rfl (by simpa using h2)
  · cases ha
end Go.Proofs.Ytplebibabcdipaa
