/- choose: what the search of augment keeps: every node that is reached has a way back to a source. -/
import Derived.Test.YtplebibabcdipaaCho9
namespace Go.Proofs.Ytplebibabcdipaa
open Go.RowKit

structure TreeI (c : CNet) (f by_ : List Int) : Prop where
  ok : ∀ i : Nat, i < c.nodes → by_.getD i 0 ≠ -1 → ∃ m, Chain c by_ m i ∧ m + muM by_ < c.nodes
  edge : ∀ i : Nat, i < c.nodes → 0 ≤ by_.getD i 0 → (by_.getD i 0).toNat < c.edges.length ∧ ((edgeAt c (by_.getD i 0).toNat).a = i ∨ (edgeAt c (by_.getD i 0).toNat).b = i) ∧ 0 < roomC c f (by_.getD i 0).toNat (farEnd c (by_.getD i 0).toNat i)
theorem getD_set_ne' {s : List Int} {i j : Nat} {v : Int} (h : j ≠ i) : (s.set i v).getD j 0 = s.getD j 0 := by
  rw [List.getD_eq_getElem?_getD, List.getElem?_set_ne (Ne.symm h), ← List.getD_eq_getElem?_getD]
theorem getD_set_eq' {s : List Int} {i : Nat} {v : Int} (h : i < s.length) : (s.set i v).getD i 0 = v := by
  rw [List.getD_eq_getElem?_getD, List.getElem?_set_self h]; rfl
theorem Chain.set {c : CNet} {by_ : List Int} {t : Nat} {v : Int} (ht : by_.getD t 0 = -1) : ∀ (m i : Nat), Chain c by_ m i → Chain c (by_.set t v) m i := by
  intro m
  induction m with
  | zero =>
    intro i h
    have hne : i ≠ t := fun e => by have := h.2; rw [e, ht] at this; omega
    unfold Chain
    rw [getD_set_ne' hne]
    exact h
  | succ m ih =>
    intro i h
    have hne : i ≠ t := fun e => by have := h.2.1; rw [e, ht] at this; omega
    unfold Chain
    rw [getD_set_ne' hne]
    exact ⟨h.1, h.2.1, h.2.2.1, ih _ h.2.2.2⟩
theorem addN_tree {c : CNet} {f : List Int} {k i t : Nat} {st : List Int × List Int} (hs : BOk c.nodes st) (h : TreeI c f st.1) (hi : i < c.nodes) (hri : st.1.getD i 0 ≠ -1) (ht : t < c.nodes) (hk : k < c.edges.length)
    (he : ((edgeAt c k).b = i ∧ (edgeAt c k).a = t) ∨ ((edgeAt c k).a = i ∧ (edgeAt c k).b = t)) : TreeI c f (addN c f k i t st).1 ∧ (addN c f k i t st).1.getD i 0 ≠ -1 := by
  unfold addN
  split
  · rename_i hh
    simp only [Bool.and_eq_true, beq_iff_eq, decide_eq_true_eq] at hh
    obtain ⟨h1, h2⟩ := hh
    have hit : i ≠ t := fun e => hri (by rw [e]; exact h1)
    have hmu := muM_set st.1 t k (by omega) h1
    have hlen := hs.len
    have hself : (st.1.set t (k : Int)).getD t 0 = k := getD_set_eq' (by omega)
    have hfar : farEnd c k t = i := by
      unfold farEnd
      rcases he with ⟨e1, e2⟩ | ⟨e1, e2⟩
      · rw [if_neg (by rw [e1]; exact hit), e1]
      · rw [if_pos e2, e1]
    refine ⟨⟨fun j hj hrj => ?_, fun j hj h0 => ?_⟩, by rw [show (st.1.set t (k : Int), st.2 ++ [(t : Int)]).1 = st.1.set t (k : Int) from rfl, getD_set_ne' hit]; exact hri⟩
    · simp only at hrj ⊢
      by_cases hjt : j = t
      · subst hjt
        obtain ⟨m, hm, hb⟩ := h.ok i hi hri
        refine ⟨m + 1, ⟨hj, ?_, ?_, ?_⟩, by omega⟩
        · rw [hself]; omega
        · rw [hself]; simpa using hk
        · rw [hself, Int.toNat_natCast, hfar]; exact hm.set h1
      · rw [getD_set_ne' hjt] at hrj
        obtain ⟨m, hm, hb⟩ := h.ok j hj hrj
        exact ⟨m, hm.set h1, by omega⟩
    · simp only at h0 ⊢
      by_cases hjt : j = t
      · subst hjt
        rw [hself, Int.toNat_natCast, hfar]
        exact ⟨hk, he.elim (fun h => Or.inl h.2) (fun h => Or.inr h.2), h2⟩
      · rw [getD_set_ne' hjt] at h0 ⊢
        exact h.edge j hj h0
  · exact ⟨h, hri⟩
theorem bfsE_tree {c : CNet} {f : List Int} {k i : Nat} {st : List Int × List Int} {e : CEdge} (hc : c.Ok) (hs : BOk c.nodes st) (h : TreeI c f st.1) (hi : i < c.nodes) (hri : st.1.getD i 0 ≠ -1) (hk : c.edges[k]? = some e) :
    TreeI c f (bfsE c f i k st e).1 ∧ (bfsE c f i k st e).1.getD i 0 ≠ -1 := by
  have hkl := (List.getElem?_eq_some_iff.1 hk).1
  have hee : edgeAt c k = e := by unfold edgeAt; simp [hk]
  obtain ⟨ha, hb⟩ := hc.ne e (List.mem_of_getElem? hk)
  unfold bfsE
  split
  · rename_i h1; exact addN_tree hs h hi hri ha hkl (Or.inl ⟨by rw [hee]; exact h1.symm, by rw [hee]⟩)
  · split
    · rename_i h1; exact addN_tree hs h hi hri hb hkl (Or.inr ⟨by rw [hee]; exact h1.symm, by rw [hee]⟩)
    · exact ⟨h, hri⟩
theorem bfsP_tree {c : CNet} {f : List Int} {i : Nat} (hc : c.Ok) : ∀ (l : List CEdge) (k : Nat) (st : List Int × List Int), (∀ j e, l[j]? = some e → c.edges[k + j]? = some e) → BOk c.nodes st → TreeI c f st.1 → i < c.nodes → st.1.getD i 0 ≠ -1 →
    TreeI c f (bfsP c f i l k st).1 := by
  intro l
  induction l with
  | nil => intro k st _ _ h _ _; exact h
  | cons e es ih =>
    intro k st hl hs h hi hri
    have hk : c.edges[k]? = some e := hl 0 e rfl
    obtain ⟨ha, hb⟩ := hc.ne e (List.mem_of_getElem? hk)
    obtain ⟨t1, t2⟩ := bfsE_tree hc hs h hi hri hk
    exact ih (k + 1) _ (fun j x hj => by have := hl (j + 1) x (by simpa using hj); rw [show k + 1 + j = k + (j + 1) by omega]; exact this) (bfsE_good ha hb st hs).1 t1 hi t2
end Go.Proofs.Ytplebibabcdipaa
