/- choose: ways, follows, Proves: plain functions and what they say. -/
import Derived.Test.YtplebibabcdipaaChoG
namespace Go.Proofs.Ytplebibabcdipaa

/-- way: the first edge by which something flows into a node. -/
def inW (f : List Int) (at_ i : Nat) (e : CEdge) : Bool := (((e.b : Int) == (at_ : Int)) && decide (0 < f.getD i 0)) || (((e.a : Int) == (at_ : Int)) && decide (f.getD i 0 < 0))
def findW (f : List Int) (at_ : Nat) : List CEdge → Nat → Option Nat
  | [], _ => none
  | e :: es, i => if inW f at_ i e = true then some i else findW f at_ es (i + 1)
theorem findW_drop {f : List Int} {at_ : Nat} {l : List CEdge} {k : Nat} {x : CEdge} (h : l[k]? = some x) : findW f at_ (l.drop k) k = if inW f at_ k x = true then some k else findW f at_ (l.drop (k + 1)) (k + 1) := by
  obtain ⟨hk, hx⟩ := List.getElem?_eq_some_iff.1 h
  rw [List.drop_eq_getElem_cons hk, hx]; rfl
theorem findW_some {f : List Int} {at_ : Nat} : ∀ (l : List CEdge) (i k : Nat), findW f at_ l i = some k → i ≤ k ∧ ∃ e, l[k - i]? = some e ∧ inW f at_ k e = true := by
  intro l
  induction l with
  | nil => intro i k h; cases h
  | cons e es ih =>
    intro i k h
    unfold findW at h
    split at h
    · rename_i hh; cases h; exact ⟨Nat.le_refl _, e, by simp, hh⟩
    · obtain ⟨h1, x, h2, h3⟩ := ih (i + 1) k h
      exact ⟨by omega, x, by rw [show k - i = (k - (i + 1)) + 1 by omega]; simpa using h2, h3⟩
theorem findW_none {f : List Int} {at_ : Nat} : ∀ (l : List CEdge) (i : Nat), findW f at_ l i = none → ∀ j e, l[j]? = some e → inW f at_ (i + j) e = false := by
  intro l
  induction l with
  | nil => intro i _ j e h; simp at h
  | cons x es ih =>
    intro i h j e hj
    unfold findW at h
    split at h
    · cases h
    · rename_i hh
      cases j with
      | zero => simp at hj; subst hj; simpa using hh
      | succ j => rw [show i + (j + 1) = i + 1 + j by omega]; exact ih (i + 1) h j e (by simpa using hj)
/-- One step of a way. -/
def mvF (c : CNet) (k at_ : Nat) (f : List Int) : List Int := f.set k (if (edgeAt c k).b = at_ then f.getD k 0 - 1 else f.getD k 0 + 1)
def wayF (c : CNet) : Nat → Nat → List ByteArray → List Int → List ByteArray × List Int
  | 0, _, l, f => (l, f)
  | n + 1, at_, l, f => match findW f at_ c.edges 0 with
    | none => (l, f)
    | some k => if c.src.getD (farEnd c k at_) false = true then ((edgeAt c k).name :: l, mvF c k at_ f) else wayF c n (farEnd c k at_) ((edgeAt c k).name :: l) (mvF c k at_ f)
def sumA : List Int → Nat
  | [] => 0
  | x :: xs => x.natAbs + sumA xs
theorem sumA_set : ∀ (f : List Int) (k : Nat) (v : Int), k < f.length → sumA (f.set k v) + (f.getD k 0).natAbs = sumA f + v.natAbs := by
  intro f
  induction f with
  | nil => intro k v h; simp at h
  | cons x xs ih =>
    intro k v h
    cases k with
    | zero => simp [sumA]; omega
    | succ k => have := ih k v (by simpa using h); simp only [List.set_cons_succ, sumA, List.getD_cons_succ]; omega
theorem inW_cases {f : List Int} {at_ i : Nat} {e : CEdge} (h : inW f at_ i e = true) : (e.b = at_ ∧ 0 < f.getD i 0) ∨ (e.b ≠ at_ ∧ e.a = at_ ∧ f.getD i 0 < 0) ∨ (e.b = at_ ∧ e.a = at_ ∧ f.getD i 0 < 0) := by
  unfold inW at h
  simp only [Bool.or_eq_true, Bool.and_eq_true, beq_iff_eq, decide_eq_true_eq] at h
  rcases h with ⟨h1, h2⟩ | ⟨h1, h2⟩
  · exact Or.inl ⟨by omega, h2⟩
  · by_cases hb : e.b = at_
    · exact Or.inr (Or.inr ⟨hb, by omega, h2⟩)
    · exact Or.inr (Or.inl ⟨hb, by omega, h2⟩)
/-- No edge has both ends at one node. -/
def NoLoop (c : CNet) : Prop := ∀ e ∈ c.edges, e.a ≠ e.b
theorem mvF_ok {c : CNet} (hl : NoLoop c) {f : List Int} {at_ k : Nat} {e : CEdge} (hf : f.length = c.edges.length) (he : c.edges[k]? = some e) (hi : inW f at_ k e = true) :
    (mvF c k at_ f).length = f.length ∧ ((mvF c k at_ f).getD k 0).natAbs + 1 = (f.getD k 0).natAbs ∧ (∀ j, j ≠ k → (mvF c k at_ f).getD j 0 = f.getD j 0) ∧ ((0 ≤ (mvF c k at_ f).getD k 0 ∧ (mvF c k at_ f).getD k 0 ≤ f.getD k 0) ∨ (f.getD k 0 ≤ (mvF c k at_ f).getD k 0 ∧ (mvF c k at_ f).getD k 0 ≤ 0)) ∧
    sumA (mvF c k at_ f) + 1 = sumA f ∧ ((e.a = farEnd c k at_ ∧ e.b = at_) ∨ (e.b = farEnd c k at_ ∧ e.a = at_)) ∧ (∀ S : Nat → Bool, excS c.edges (mvF c k at_ f) S = excS c.edges f S + (if S (farEnd c k at_) = true then 1 else 0) - (if S at_ = true then 1 else 0)) ∧
    ((e.a = farEnd c k at_ ∧ 0 < f.getD k 0) ∨ (e.b = farEnd c k at_ ∧ f.getD k 0 < 0)) := by
  have hk : k < f.length := by rw [hf]; exact (List.getElem?_eq_some_iff.1 he).1
  have hee : edgeAt c k = e := by unfold edgeAt; simp [he]
  have hne := hl e (List.mem_of_getElem? he)
  have hs := sumA_set f k (if e.b = at_ then f.getD k 0 - 1 else f.getD k 0 + 1) hk
  have hx := fun S d => excS_set c.edges f S k e d he hk
  unfold mvF farEnd
  rw [hee]
  rcases inW_cases hi with ⟨h1, h2⟩ | ⟨h1, h2, h3⟩ | ⟨h1, h2, _⟩
  · rw [if_pos h1] at hs ⊢
    rw [if_pos h1]
    refine ⟨by simp, by rw [getD_set_eq' hk]; omega, fun j hj => getD_set_ne' hj, Or.inl (by rw [getD_set_eq' hk]; omega), by omega, Or.inl ⟨rfl, h1⟩, fun S => ?_, Or.inl ⟨rfl, h2⟩⟩
    rw [show f.getD k 0 - 1 = f.getD k 0 + (-1) by omega, hx S (-1), h1]
    split <;> split <;> omega
  · rw [if_neg h1] at hs ⊢
    rw [if_neg h1]
    refine ⟨by simp, by rw [getD_set_eq' hk]; omega, fun j hj => getD_set_ne' hj, Or.inr (by rw [getD_set_eq' hk]; omega), by omega, Or.inr ⟨rfl, h2⟩, fun S => ?_, Or.inr ⟨rfl, h3⟩⟩
    rw [hx S 1, h2]
  · exact absurd (h2.trans h1.symm) hne
def wayG (c : CNet) (at_ : Nat) (l : List ByteArray) (f : List Int) : List ByteArray × List Int := wayF c (sumA f + 1) at_ l f
theorem wayG_none {c : CNet} {at_ : Nat} {l : List ByteArray} {f : List Int} (h : findW f at_ c.edges 0 = none) : wayG c at_ l f = (l, f) := by
  unfold wayG wayF; rw [h]
theorem wayG_some {c : CNet} (hl : NoLoop c) {at_ k : Nat} {l : List ByteArray} {f : List Int} (hf : f.length = c.edges.length) (h : findW f at_ c.edges 0 = some k) :
    wayG c at_ l f = if c.src.getD (farEnd c k at_) false = true then ((edgeAt c k).name :: l, mvF c k at_ f) else wayG c (farEnd c k at_) ((edgeAt c k).name :: l) (mvF c k at_ f) := by
  obtain ⟨_, e, he, hi⟩ := findW_some _ _ _ h
  rw [Nat.sub_zero] at he
  obtain ⟨_, _, _, _, h5, _⟩ := mvF_ok hl hf he hi
  unfold wayG
  rw [show sumA f + 1 = (sumA (mvF c k at_ f) + 1) + 1 by omega]
  conv => lhs; unfold wayF
  simp only [h]
def wayC (c : CNet) (f : List Int) : List ByteArray × List Int := wayG c c.at_ [] f
def waysC (c : CNet) : Nat → List Int → List (List ByteArray)
  | 0, _ => []
  | n + 1, f => (wayC c f).1 :: waysC c n (wayC c f).2
/-- Devices that lead from a node to another. -/
def Lead (c : CNet) : Nat → List ByteArray → Nat → Prop
  | x, [], y => x = y
  | x, s :: l, y => ∃ e z, e ∈ c.edges ∧ e.name = s ∧ ((e.a = x ∧ e.b = z) ∨ (e.b = x ∧ e.a = z)) ∧ Lead c z l y
def Shrink (f' f : List Int) : Prop := ∀ k, (0 ≤ f'.getD k 0 ∧ f'.getD k 0 ≤ f.getD k 0) ∨ (f.getD k 0 ≤ f'.getD k 0 ∧ f'.getD k 0 ≤ 0)
theorem Shrink.refl (f : List Int) : Shrink f f := fun k => by omega
theorem Shrink.trans {a b d : List Int} (h : Shrink a b) (k : Shrink b d) : Shrink a d := fun i => by have := h i; have := k i; omega
theorem exc_in (x : Nat) : ∀ (es : List CEdge) (f : List Int), 0 < excS es f (fun j => j == x) → ∃ k e, es[k]? = some e ∧ inW f x k e = true := by
  intro es
  induction es with
  | nil => intro f h; simp [excS] at h
  | cons e es ih =>
    intro f h
    by_cases hx : inW f x 0 e = true
    · exact ⟨0, e, rfl, hx⟩
    · have h2 : 0 < excS es f.tail (fun j => j == x) := by
        have hx' : inW f x 0 e = false := by simpa using hx
        unfold inW at hx'
        simp only [Bool.or_eq_false_iff, Bool.and_eq_false_iff, beq_eq_false_iff_ne, decide_eq_false_iff_not] at hx'
        unfold excS at h
        rw [headD_getD] at h
        generalize f.getD 0 0 = d at *
        simp only [beq_iff_eq] at h
        split at h <;> split at h <;> omega
      obtain ⟨k, y, h3, h4⟩ := ih f.tail h2
      refine ⟨k + 1, y, by simpa using h3, ?_⟩
      unfold inW at h4 ⊢
      rw [tail_getD] at h4; exact h4
/-- A flow of v units, while a way is followed back: one unit stops at node x. -/
structure WayI (c : CNet) (f0 f : List Int) (v x : Nat) (l : List ByteArray) : Prop where
  len : f.length = c.edges.length
  bal : ∀ i, c.src.getD i false = false → excS c.edges f (fun j => j == i) = (if i = c.at_ then (v : Int) else 0) + (if i = x then 1 else 0)
  out : ∀ k e, c.edges[k]? = some e → (c.src.getD e.a false = true → 0 ≤ f.getD k 0) ∧ (c.src.getD e.b false = true → f.getD k 0 ≤ 0)
  xs : c.src.getD x false = false
  shr : Shrink f f0
  lead : Lead c x l c.at_
  used : ∀ s ∈ l, ∃ k e, c.edges[k]? = some e ∧ e.name = s ∧ (f.getD k 0).natAbs < (f0.getD k 0).natAbs
structure WayE (c : CNet) (f0 f : List Int) (v : Nat) (l : List ByteArray) : Prop where
  len : f.length = c.edges.length
  bal : ∀ i, c.src.getD i false = false → excS c.edges f (fun j => j == i) = if i = c.at_ then (v : Int) else 0
  out : ∀ k e, c.edges[k]? = some e → (c.src.getD e.a false = true → 0 ≤ f.getD k 0) ∧ (c.src.getD e.b false = true → f.getD k 0 ≤ 0)
  shr : Shrink f f0
  lead : ∃ y, c.src.getD y false = true ∧ Lead c y l c.at_
  ne : l ≠ []
  used : ∀ s ∈ l, ∃ k e, c.edges[k]? = some e ∧ e.name = s ∧ (f.getD k 0).natAbs < (f0.getD k 0).natAbs
theorem wayF_ok {c : CNet} (hl : NoLoop c) {f0 : List Int} {v : Nat} : ∀ (n x : Nat) (l : List ByteArray) (f : List Int), sumA f < n → WayI c f0 f v x l → WayE c f0 (wayF c n x l f).2 v (wayF c n x l f).1 := by
  intro n
  induction n with
  | zero => intro x l f h; omega
  | succ n ih =>
    intro x l f hn h
    have hpos : 0 < excS c.edges f (fun j => j == x) := by rw [h.bal x h.xs, if_pos rfl]; split <;> omega
    obtain ⟨k0, e0, he0, hi0⟩ := exc_in x c.edges f hpos
    unfold wayF
    cases hfw : findW f x c.edges 0 with
    | none =>
      have := findW_none _ _ hfw k0 e0 he0
      rw [Nat.zero_add, hi0] at this; cases this
    | some k =>
      simp only
      obtain ⟨_, e, he, hi⟩ := findW_some _ _ _ hfw
      rw [Nat.sub_zero] at he
      have hee : edgeAt c k = e := by unfold edgeAt; simp [he]
      obtain ⟨m1, m2, m3, m4, m5, m6, m7, m8⟩ := mvF_ok hl h.len he hi
      rw [hee]
      have hshr : Shrink (mvF c k x f) f := fun j => by
        by_cases hj : j = k
        · subst hj; exact m4
        · rw [m3 j hj]; omega
      have hout : ∀ j e, c.edges[j]? = some e → (c.src.getD e.a false = true → 0 ≤ (mvF c k x f).getD j 0) ∧ (c.src.getD e.b false = true → (mvF c k x f).getD j 0 ≤ 0) := fun j e hj => by
        obtain ⟨o1, o2⟩ := h.out j e hj
        have := hshr j
        exact ⟨fun hs => by have := o1 hs; omega, fun hs => by have := o2 hs; omega⟩
      have hlead : Lead c (farEnd c k x) (e.name :: l) c.at_ := ⟨e, x, List.mem_of_getElem? he, rfl, m6, h.lead⟩
      have hused : ∀ s ∈ e.name :: l, ∃ k' e', c.edges[k']? = some e' ∧ e'.name = s ∧ ((mvF c k x f).getD k' 0).natAbs < (f0.getD k' 0).natAbs := fun s hs => by
        rcases List.mem_cons.1 hs with rfl | hs
        · refine ⟨k, e, he, rfl, ?_⟩
          have := h.shr k; omega
        · obtain ⟨k', e', a1, a2, a3⟩ := h.used s hs
          refine ⟨k', e', a1, a2, ?_⟩
          have := hshr k'; omega
      split
      · rename_i hs
        refine ⟨m1.trans h.len, fun i hi => ?_, hout, hshr.trans h.shr, ⟨_, hs, hlead⟩, by simp, hused⟩
        have hne : (farEnd c k x == i) = false := by rw [beq_eq_false_iff_ne]; intro e; rw [e, hi] at hs; cases hs
        rw [m7, h.bal i hi]
        simp only [hne, beq_iff_eq, Bool.false_eq_true, if_false]
        by_cases hix : i = x
        · subst hix; simp
        · have : ¬ x = i := fun e => hix e.symm
          simp [hix, this]
      · rename_i hs
        refine ih _ _ _ (by omega) ⟨m1.trans h.len, fun i hi => ?_, hout, by simpa using hs, hshr.trans h.shr, hlead, hused⟩
        rw [m7, h.bal i hi]
        simp only [beq_iff_eq]
        by_cases hix : i = x
        · subst hix
          by_cases hf : i = farEnd c k i
          · rw [← hf]; simp
          · have : ¬ farEnd c k i = i := fun e => hf e.symm
            simp [hf, this]
        · have h1 : ¬ x = i := fun e => hix e.symm
          by_cases hf : i = farEnd c k x
          · rw [← hf]; simp [hix, h1]
          · have : ¬ farEnd c k x = i := fun e => hf e.symm
            simp [hix, h1, hf, this]
/-- way takes one unit off a flow. -/
theorem wayC_ok {c : CNet} (hl : NoLoop c) (hs : c.src.getD c.at_ false = false) {f : List Int} {v : Nat} (h : FlowV c f (v + 1)) : FlowV c (wayC c f).2 v ∧ WayE c f (wayC c f).2 v (wayC c f).1 := by
  have hw := wayF_ok hl (sumA f + 1) c.at_ [] f (Nat.lt_succ_self _) (v := v) (f0 := f) ⟨h.len, fun i hi => by rw [h.bal i hi]; split <;> push_cast <;> omega, h.out, hs, Shrink.refl f, rfl, fun s hs => by cases hs⟩
  have e : wayF c (sumA f + 1) c.at_ [] f = wayC c f := rfl
  rw [e] at hw
  refine ⟨⟨hw.len, fun k e he => ?_, hw.bal, hw.out⟩, hw⟩
  have := h.cap k e he
  have := hw.shr k
  omega
/-- follows: one round, over the edges of a name. -/
def folE (s : ByteArray) (at_ : List Bool) (nx : List Bool) (e : CEdge) : List Bool :=
  if sameB e.name s = true then (nx.set e.a (nx.getD e.a false || at_.getD e.b false)).set e.b ((nx.set e.a (nx.getD e.a false || at_.getD e.b false)).getD e.b false || at_.getD e.a false) else nx
def folP (s : ByteArray) (at_ : List Bool) : List CEdge → List Bool → List Bool
  | [], nx => nx
  | e :: es, nx => folP s at_ es (folE s at_ nx e)
theorem folP_drop {s : ByteArray} {at_ : List Bool} {l : List CEdge} {k : Nat} {x : CEdge} (h : l[k]? = some x) (nx : List Bool) : folP s at_ (l.drop k) nx = folP s at_ (l.drop (k + 1)) (folE s at_ nx x) := by
  obtain ⟨hk, hx⟩ := List.getElem?_eq_some_iff.1 h
  rw [List.drop_eq_getElem_cons hk, hx]; rfl
theorem folE_len (s : ByteArray) (at_ nx : List Bool) (e : CEdge) : (folE s at_ nx e).length = nx.length := by unfold folE; split <;> simp
theorem folP_len (s : ByteArray) (at_ : List Bool) : ∀ (l : List CEdge) (nx : List Bool), (folP s at_ l nx).length = nx.length := by
  intro l
  induction l with
  | nil => intro nx; rfl
  | cons e es ih => intro nx; exact (ih _).trans (folE_len _ _ _ _)
def folW (c : CNet) : List ByteArray → List Bool → List Bool
  | [], at_ => at_
  | s :: l, at_ => folW c l (folP s at_ c.edges (List.replicate c.nodes false))
theorem folW_len (c : CNet) : ∀ (l : List ByteArray) (at_ : List Bool), at_.length = c.nodes → (folW c l at_).length = c.nodes := by
  intro l
  induction l with
  | nil => intro at_ h; exact h
  | cons s l ih => intro at_ _; exact ih _ (by rw [folP_len]; simp)
theorem folW_drop {c : CNet} {l : List ByteArray} {k : Nat} {x : ByteArray} (h : l[k]? = some x) (at_ : List Bool) : folW c (l.drop k) at_ = folW c (l.drop (k + 1)) (folP x at_ c.edges (List.replicate c.nodes false)) := by
  obtain ⟨hk, hx⟩ := List.getElem?_eq_some_iff.1 h
  rw [List.drop_eq_getElem_cons hk, hx]; rfl
def folC (c : CNet) (l : List ByteArray) : Bool := decide (0 < l.length) && (folW c l c.src).getD c.at_ false
theorem folE_mono (s : ByteArray) (at_ nx : List Bool) (e : CEdge) (j : Nat) (h : nx.getD j false = true) : (folE s at_ nx e).getD j false = true := by
  unfold folE
  split
  · have h1 : (nx.set e.a (nx.getD e.a false || at_.getD e.b false)).getD j false = true := by
      by_cases hj : j = e.a
      · subst hj; rw [h]; exact getDB_mono h
      · rw [getDB_set_ne hj]; exact h
    generalize nx.set e.a (nx.getD e.a false || at_.getD e.b false) = n1 at *
    by_cases hj : j = e.b
    · subst hj; rw [h1]; exact getDB_mono h1
    · rw [getDB_set_ne hj]; exact h1
  · exact h
theorem folP_mono (s : ByteArray) (at_ : List Bool) (j : Nat) : ∀ (l : List CEdge) (nx : List Bool), nx.getD j false = true → (folP s at_ l nx).getD j false = true := by
  intro l
  induction l with
  | nil => intro nx h; exact h
  | cons e es ih => intro nx h; exact ih _ (folE_mono s at_ nx e j h)
theorem folE_hit (s : ByteArray) (at_ nx : List Bool) (e : CEdge) (hn : sameB e.name s = true) (x z : Nat) (he : (e.a = x ∧ e.b = z) ∨ (e.b = x ∧ e.a = z)) (hx : at_.getD x false = true) (hz : z < nx.length) : (folE s at_ nx e).getD z false = true := by
  unfold folE
  rw [if_pos hn]
  rcases he with ⟨h1, h2⟩ | ⟨h1, h2⟩
  · rw [h1, h2, hx, Bool.or_true]
    exact getDB_set_eq (by simp; exact hz)
  · rw [h1, h2, hx, Bool.or_true]
    have h3 : (nx.set z true).getD z false = true := getDB_set_eq hz
    by_cases hzx : z = x
    · subst hzx; rw [h3]; exact getDB_mono h3
    · rw [getDB_set_ne hzx]; exact h3
theorem folP_hit (s : ByteArray) (at_ : List Bool) (x z : Nat) : ∀ (l : List CEdge) (nx : List Bool) (e : CEdge), e ∈ l → sameB e.name s = true → ((e.a = x ∧ e.b = z) ∨ (e.b = x ∧ e.a = z)) → at_.getD x false = true → z < nx.length → (folP s at_ l nx).getD z false = true := by
  intro l
  induction l with
  | nil => intro nx e h; cases h
  | cons y ys ih =>
    intro nx e hm hn he hx hz
    rcases List.mem_cons.1 hm with rfl | hm
    · exact folP_mono s at_ z ys _ (folE_hit s at_ nx e hn x z he hx hz)
    · exact ih _ e hm hn he hx (by rw [folE_len]; exact hz)
theorem folW_lead {c : CNet} (hc : c.Ok) (y : Nat) : ∀ (l : List ByteArray) (x : Nat) (at_ : List Bool), at_.getD x false = true → Lead c x l y → (folW c l at_).getD y false = true := by
  intro l
  induction l with
  | nil => intro x at_ h hl; have : x = y := hl; rw [← this]; exact h
  | cons s l ih =>
    intro x at_ h hl
    obtain ⟨e, z, h1, h2, h3, h4⟩ := hl
    obtain ⟨na, nb⟩ := hc.ne e h1
    refine ih z _ (folP_hit s at_ x z c.edges _ e h1 (by rw [h2]; exact sameB_self s) h3 h ?_) h4
    rw [List.length_replicate]
    rcases h3 with ⟨_, h3⟩ | ⟨_, h3⟩ <;> omega
theorem folC_ok {c : CNet} (hc : c.Ok) {f0 f : List Int} {v : Nat} {l : List ByteArray} (h : WayE c f0 f v l) : folC c l = true := by
  obtain ⟨y, h1, h2⟩ := h.lead
  unfold folC
  rw [folW_lead hc c.at_ l y c.src h1 h2, decide_eq_true (List.length_pos_iff.2 h.ne)]; rfl
/-- Proves. -/
def brkN (c : CNet) (s : ByteArray) : Bool := c.edges.any fun e => sameB e.name s && e.brk
def opensC (c : CNet) (op : List ByteArray) : Nat → List ByteArray → Bool
  | _, [] => true
  | i, s :: ss => brkN c s && !hasS s (op.take i) && opensC c op (i + 1) ss
def ownW (c : CNet) (w : List ByteArray) : List ByteArray := w.filter (brkN c)
def provesF (c : CNet) : List (List ByteArray) → List ByteArray → Bool
  | [], _ => true
  | w :: ws, used => folC c w && !(ownW c w).any (fun s => hasS s used) && provesF c ws (used ++ ownW c w)
def provesC (c : CNet) (op : List ByteArray) (ws : List (List ByteArray)) : Bool :=
  opensC c op 0 op && (decide (ws.length = op.length) && isoC c (fun e => hasS e.name op)) && provesF c ws []
theorem waysC_len (c : CNet) : ∀ (n : Nat) (f : List Int), (waysC c n f).length = n := by
  intro n
  induction n with
  | zero => intro f; rfl
  | succ n ih => intro f; simp [waysC, ih]
theorem brkN_iff {c : CNet} {s : ByteArray} : brkN c s = true ↔ ∃ (k : Nat) (e : CEdge), c.edges[k]? = some e ∧ e.name = s ∧ e.brk = true := by
  unfold brkN
  rw [List.any_eq_true]
  constructor
  · rintro ⟨e, he, hh⟩
    simp only [Bool.and_eq_true] at hh
    obtain ⟨k, hk⟩ := List.getElem?_of_mem he
    exact ⟨k, e, hk, sameB_eq hh.1, hh.2⟩
  · rintro ⟨k, e, hk, rfl, hb⟩
    exact ⟨e, List.mem_of_getElem? hk, by rw [sameB_self, hb]; rfl⟩
theorem provesF_ok {c : CNet} (hc : c.Ok) (hl : NoLoop c) (hn : CNames c) (hs : c.src.getD c.at_ false = false) : ∀ (v : Nat) (f : List Int) (used : List ByteArray), FlowV c f v → (∀ s ∈ used, ∀ (k : Nat) (e : CEdge), c.edges[k]? = some e → e.name = s → e.brk = true → f.getD k 0 = 0) → provesF c (waysC c v f) used = true := by
  intro v
  induction v with
  | zero => intro f used _ _; rfl
  | succ v ih =>
    intro f used h hu
    obtain ⟨w1, w2⟩ := wayC_ok hl hs h
    have hz : ∀ s ∈ ownW c (wayC c f).1, ∀ (k : Nat) (e : CEdge), c.edges[k]? = some e → e.name = s → e.brk = true → f.getD k 0 ≠ 0 ∧ (wayC c f).2.getD k 0 = 0 := fun s hs k e he hes hb => by
      obtain ⟨h1, _⟩ := List.mem_filter.1 hs
      obtain ⟨k', e', he', hes', hlt⟩ := w2.used s h1
      have hkk := hn k k' e e' he he' hb (hes.trans hes'.symm)
      subst hkk
      have hcp := h.cap k e he
      unfold CEdge.cap at hcp
      rw [if_pos hb] at hcp
      omega
    show (folC c (wayC c f).1 && !(ownW c (wayC c f).1).any (fun s => hasS s used) && provesF c (waysC c v (wayC c f).2) (used ++ ownW c (wayC c f).1)) = true
    rw [folC_ok hc w2]
    have hno : (ownW c (wayC c f).1).any (fun s => hasS s used) = false := by
      rw [List.any_eq_false]
      intro s hs hh
      have hm := hasS_iff.1 hh
      obtain ⟨_, hb⟩ := List.mem_filter.1 hs
      obtain ⟨k, e, he, hes, hbk⟩ := brkN_iff.1 hb
      exact (hz s hs k e he hes hbk).1 (hu s hm k e he hes hbk)
    rw [hno, ih (wayC c f).2 (used ++ ownW c (wayC c f).1) w1 (fun s hs k e he hes hb => ?_)]
    · rfl
    · rcases List.mem_append.1 hs with hs | hs
      · have h1 := hu s hs k e he hes hb
        have h2 := w2.shr k
        omega
      · exact (hz s hs k e he hes hb).2
theorem opensC_ok {c : CNet} (op : List ByteArray) (hb : ∀ s ∈ op, brkN c s = true) (hn : op.Nodup) : ∀ (l : List ByteArray) (i : Nat), op.drop i = l → opensC c op i l = true := by
  intro l
  induction l with
  | nil => intro i _; rfl
  | cons s ss ih =>
    intro i h
    have hi : op[i]? = some s := by
      have := congrArg (fun l => l[0]?) h
      simpa [List.getElem?_drop] using this
    have hil := (List.getElem?_eq_some_iff.1 hi).1
    have h1 : brkN c s = true := hb s (List.mem_of_getElem? hi)
    have h2 : hasS s (op.take i) = false := by
      cases hh : hasS s (op.take i)
      · rfl
      · have hm := hasS_iff.1 hh
        have hap : op = op.take i ++ op.drop i := (List.take_append_drop i op).symm
        rw [hap] at hn
        have := (List.nodup_append.1 hn).2.2 s hm s (by rw [h]; exact List.mem_cons_self)
        exact absurd rfl this
    unfold opensC
    rw [h1, h2, ih (i + 1) (by rw [← List.drop_drop, h]; rfl)]; rfl
/-- The smallest set and the ways: Proves accepts them. -/
theorem proves_ok {c : CNet} (hc : c.Ok) (hl : NoLoop c) (hn : CNames c) (hs : c.src.getD c.at_ false = false) {f : List Int} {v : Nat} (h : FlowN c f v) (hv : v < 100) (ha : augC c f = none) :
    isoC c (fun e => hasS e.name ((crossC c f).map CEdge.name)) = true ∧ provesC c ((crossC c f).map CEdge.name) (waysC c v f) = true := by
  obtain ⟨S, s1, s2, s3, s4, s5⟩ := least_ok hc h hv ha
  have hiso : isoC c (fun e => hasS e.name ((crossC c f).map CEdge.name)) = true := (isoC_iff hc _).2 ⟨S, s1, s2, fun e he hne => hasS_iff.2 (List.mem_map.2 ⟨e, by rw [s3]; exact List.mem_filter.2 ⟨he, by unfold crossB; simpa using hne⟩, rfl⟩)⟩
  refine ⟨hiso, ?_⟩
  unfold provesC
  rw [hiso, waysC_len, List.length_map, s4, provesF_ok hc hl hn hs v f [] h.fl (fun s hs => by cases hs)]
  have ho := opensC_ok (c := c) ((crossC c f).map CEdge.name) (fun s hs => by
    obtain ⟨e, he, rfl⟩ := List.mem_map.1 hs
    obtain ⟨k, hk⟩ := List.getElem?_of_mem (List.mem_filter.1 (s3 ▸ he)).1
    exact brkN_iff.2 ⟨k, e, hk, rfl, s5 e he⟩) (by
    rw [s3]
    exact names_nodup c.edges (crossB S) hn (fun e he => s5 e (by rw [s3]; exact he))) _ 0 rfl
  rw [List.drop_zero] at ho
  rw [ho]
  simp
end Go.Proofs.Ytplebibabcdipaa
