/- Coordination, the plain law: with the dials of Coordinate no pair is wrong. -/
import Derived.Test.YtplebibabcdipaaSetP
namespace Go.Proofs.Ytplebibabcdipaa
open Go.RowKit

theorem bad_mono {a x y : Pts} (hx : x.Ok) (hy : y.Ok) (hlen : x.length = y.length) (hm : ∀ i, i < x.length → (x.pt i).1 = (y.pt i).1) (ht : ∀ i, i < x.length → (x.pt i).2 ≤ (y.pt i).2) {pa pb m k : Int} (p1 : 1 ≤ pb)
    (h : badAt a pa x pb m k = false) : badAt a pa y pb m k = false := by
  unfold badAt at h ⊢
  rcases Pts.time_scales hx hy hlen hm ht p1 (cur := k) with ⟨_, h2⟩ | ⟨t, u, h1, h2, h3⟩
  · rw [h2]
  · rw [h1] at h
    rw [h2]
    cases ha : a.time pa k with
    | none => rw [ha] at h; exact h
    | some v => rw [ha] at h; simp only [decide_eq_false_iff_not] at h ⊢; omega
theorem conf_mono {a b : Pts} {pa pb m lo hi d d' : Int} (h : (conflictR a pa (b.scaled d) pb m lo hi).2 = 8) (h1 : b.scaleE d = 0) (h2 : b.scaleE d' = 0) (hd : d ≤ d') : (conflictR a pa (b.scaled d') pb m lo hi).2 = 8 := by
  obtain ⟨_, _, _, hpb, _, _, _, hn, _, hall⟩ := conf_none h
  obtain ⟨o1, o2, _⟩ := Pts.scaled_ok h1
  obtain ⟨_, o3, _⟩ := Pts.scaled_ok h2
  refine hall _ o3 (fun x x0 x1 => ?_)
  refine bad_mono o2 o3 (by rw [Pts.scaled_len, Pts.scaled_len]) (fun i hi => ?_) (fun i hi => ?_) hpb (hn x x0 x1)
  · rw [Pts.scaled_len] at hi; rw [Pts.scaled_pt hi, Pts.scaled_pt hi]; rfl
  · rw [Pts.scaled_len] at hi; rw [Pts.scaled_pt hi, Pts.scaled_pt hi]
    have := Int.mul_le_mul_of_nonneg_left hd (o1.t1 i hi)
    show ((b.pt i).2 * d + 999) / 1000 ≤ ((b.pt i).2 * d' + 999) / 1000
    omega
theorem cIn_ok {l : List CRA} {cur : List Pts} {m lo hi k : Int} : ∀ (ps : List IPr) (d : Int), (cIn l cur m lo hi k ps d).2 = 0 →
    d ≤ (cIn l cur m lo hi k ps d).1 ∧ ∀ p ∈ ps, p.2 = k → (dialE (curR l cur p.1) (relOf l k) m lo hi).2 = 0 ∧ (dialE (curR l cur p.1) (relOf l k) m lo hi).1 ≤ (cIn l cur m lo hi k ps d).1 := by
  intro ps
  induction ps with
  | nil => intro d _; exact ⟨Int.le_refl _, fun p hp => (by cases hp)⟩
  | cons q qs ih =>
    intro d h
    unfold cIn at h ⊢
    by_cases hq : q.2 = k
    · rw [if_pos hq] at h ⊢
      by_cases he : (dialE (curR l cur q.1) (relOf l k) m lo hi).2 ≠ 0
      · rw [if_pos he] at h; exact absurd h he
      · rw [if_neg he] at h ⊢
        obtain ⟨h1, h2⟩ := ih _ h
        refine ⟨by omega, fun p hp hpk => ?_⟩
        rcases List.mem_cons.1 hp with rfl | hp
        · exact ⟨Decidable.not_not.1 he, by omega⟩
        · exact h2 p hp hpk
    · rw [if_neg hq] at h ⊢
      obtain ⟨h1, h2⟩ := ih _ h
      refine ⟨h1, fun p hp hpk => ?_⟩
      rcases List.mem_cons.1 hp with rfl | hp
      · exact absurd hpk hq
      · exact h2 p hp hpk
/-- What holds of the relays that have been looked at. -/
structure CInv (l : List CRA) (ps : List IPr) (m lo hi : Int) (done ds : List Int) (cur : List Pts) : Prop where
  ld : ds.length = l.length
  lc : cur.length = l.length
  one : ∀ j : Nat, j < l.length → (j : Int) ∈ done → (relOf l j).pts.scaleE (ds.getD j 0) = 0 ∧ cur.getD j [] = (relOf l j).pts.scaled (ds.getD j 0) ∧
    ∀ p ∈ ps, p.2 = j → p.1 ∈ done ∧ (conflictR (cur.getD p.1.toNat []) (relOf l p.1).pk (cur.getD j []) (relOf l j).pk m lo hi).2 = 8
theorem hasI_mem {x : Int} {l : List Int} : hasI x l = true ↔ x ∈ l := by
  unfold hasI
  rw [List.any_eq_true]
  constructor
  · rintro ⟨y, hy, h⟩; have : x = y := by simpa using h
    subst this; exact hy
  · intro h; exact ⟨x, h, by simp⟩
theorem ready_spec {ps : List IPr} {out : List Int} {k : Int} (h : readyS ps out k = true) : k ∉ out ∧ ∀ p ∈ ps, p.2 = k → p.1 ∈ out := by
  unfold readyS at h
  simp only [Bool.and_eq_true, Bool.not_eq_true'] at h
  obtain ⟨h1, h2⟩ := h
  refine ⟨fun hm => (by rw [hasI_mem.2 hm] at h1; cases h1), fun p hp hpk => ?_⟩
  rw [List.any_eq_false] at h2
  have h3 := h2 p hp
  unfold waitP at h3
  rw [hpk] at h3
  simp only [beq_self_eq_true, Bool.true_and, Bool.not_eq_true', Bool.not_eq_false] at h3
  exact hasI_mem.1 (by simpa using h3)
theorem getD_set_self' {α : Type} {l : List α} {k : Nat} {x d : α} (h : k < l.length) : (l.set k x).getD k d = x := by simp [h]
theorem getD_set_other {α : Type} {l : List α} {k j : Nat} {x d : α} (h : j ≠ k) : (l.set k x).getD j d = l.getD j d := by
  simp [List.getD_eq_getElem?_getD, List.getElem?_set_ne (Ne.symm h)]
theorem CInv.next {l : List CRA} {ps : List IPr} {m lo hi : Int} {done ds : List Int} {cur : List Pts} (h : CInv l ps m lo hi done ds cur) (hdn : ∀ x ∈ done, 0 ≤ x) {k : Nat} (hk : k < l.length) (hr : readyS ps done k = true)
    (h1 : (cIn l cur m lo hi k ps (ds.getD k 0)).2 = 0) (h2 : (relOf l k).pts.scaleE (thou (cIn l cur m lo hi k ps (ds.getD k 0)).1) = 0) :
    CInv l ps m lo hi (done ++ [(k : Int)]) (ds.set k (thou (cIn l cur m lo hi k ps (ds.getD k 0)).1)) (cur.set k ((relOf l k).pts.scaled (thou (cIn l cur m lo hi k ps (ds.getD k 0)).1))) := by
  obtain ⟨hkn, hkp⟩ := ready_spec hr
  obtain ⟨c1, c2⟩ := cIn_ok _ _ h1
  generalize (cIn l cur m lo hi k ps (ds.getD k 0)).1 = X at *
  have hne : ∀ x ∈ done, x.toNat ≠ k := fun x hx e => hkn (by have := hdn x hx; rw [show (k : Int) = x by omega]; exact hx)
  refine ⟨by rw [List.length_set]; exact h.ld, by rw [List.length_set]; exact h.lc, fun j hj hjd => ?_⟩
  by_cases hjk : j = k
  · subst hjk
    rw [getD_set_self' (by rw [h.ld]; exact hk), getD_set_self' (by rw [h.lc]; exact hk)]
    refine ⟨h2, rfl, fun p hp hpk => ?_⟩
    have hpd := hkp p hp hpk
    refine ⟨List.mem_append_left _ hpd, ?_⟩
    rw [getD_set_other (hne _ hpd)]
    obtain ⟨e1, e2⟩ := c2 p hp hpk
    obtain ⟨d1, _, d3, d4, _⟩ := dial_ok e1
    have hX : thou X = X := by unfold thou; rw [if_neg (by omega)]
    rw [hX] at h2 ⊢
    exact conf_mono d4 d3 h2 e2
  · have hjd' : (j : Int) ∈ done := by
      rcases List.mem_append.1 hjd with h' | h'
      · exact h'
      · simp at h'; omega
    obtain ⟨e1, e2, e3⟩ := h.one j hj hjd'
    rw [getD_set_other hjk, getD_set_other hjk]
    refine ⟨e1, e2, fun p hp hpk => ?_⟩
    obtain ⟨e4, e5⟩ := e3 p hp hpk
    refine ⟨List.mem_append_left _ e4, ?_⟩
    rw [getD_set_other (hne _ e4)]
    exact e5
theorem cOut_inv {l : List CRA} {ps : List IPr} {m lo hi : Int} : ∀ (rest done ds : List Int) (cur : List Pts), CInv l ps m lo hi done ds cur → (∀ x ∈ done ++ rest, 0 ≤ x ∧ x < l.length) →
    (∀ a k b, done ++ rest = a ++ k :: b → readyS ps a k = true) → (cOut l ps m lo hi rest (ds, cur)).2 = 0 → ∃ cur', CInv l ps m lo hi (done ++ rest) (cOut l ps m lo hi rest (ds, cur)).1 cur' := by
  intro rest
  induction rest with
  | nil => intro done ds cur h _ _ _; exact ⟨cur, by rw [List.append_nil]; exact h⟩
  | cons k ks ih =>
    intro done ds cur h hr ho he
    unfold cOut at he ⊢
    simp only at he ⊢
    have hk := hr k (List.mem_append_right _ (List.mem_cons_self ..))
    obtain ⟨k, rfl⟩ := Int.eq_ofNat_of_zero_le hk.1
    simp only [Int.toNat_natCast] at he ⊢
    by_cases h1 : (cIn l cur m lo hi k ps (ds.getD k 0)).2 ≠ 0
    · rw [if_pos h1] at he; exact absurd he h1
    · rw [if_neg h1] at he ⊢
      by_cases h2 : (relOf l k).pts.scaleE (thou (cIn l cur m lo hi k ps (ds.getD k 0)).1) ≠ 0
      · rw [if_pos h2] at he; cases he
      · rw [if_neg h2] at he ⊢
        have hn := h.next (fun x hx => (hr x (List.mem_append_left _ hx)).1) (by omega) (ho done k ks rfl) (Decidable.not_not.1 h1) (Decidable.not_not.1 h2)
        have e : done ++ ((k : Int) :: ks) = (done ++ [(k : Int)]) ++ ks := by simp
        rw [e] at hr ho ⊢
        exact ih _ _ _ hn hr ho he
theorem seqF_order {ps : List IPr} {n : Nat} : ∀ (f : Nat) (out : List Int), (∀ a k b, out = a ++ k :: b → readyS ps a k = true) → ∀ a k b, seqF ps n f out = a ++ k :: b → readyS ps a k = true := by
  intro f
  induction f with
  | zero => intro out h; exact h
  | succ f ih =>
    intro out h
    unfold seqF
    cases hf : findR ps out n 0 with
    | none => exact h
    | some j =>
      refine ih _ (fun a k b e => ?_)
      obtain ⟨_, _, hr⟩ := findR_some _ _ _ hf
      rcases List.eq_nil_or_concat b with rfl | ⟨b', x, rfl⟩
      · have := List.append_inj' e rfl
        obtain ⟨h1, h2⟩ := this
        simp only [List.cons.injEq, and_true] at h2
        rw [← h1, ← h2]; exact hr
      · have e2 : out ++ [(j : Int)] = (a ++ k :: b') ++ [x] := by rw [e]; simp
        exact h a k b' (List.append_inj' e2 rfl).1
theorem muR_zero {out : List Int} : ∀ {n : Nat}, muR out n = 0 → ∀ j : Nat, j < n → (j : Int) ∈ out := by
  intro n
  induction n with
  | zero => intro _ j h; omega
  | succ n ih =>
    intro h j hj
    unfold muR at h
    by_cases hn : j = n
    · subst hn
      by_cases hh : hasI (j : Int) out = true
      · exact hasI_mem.1 hh
      · rw [if_neg hh] at h; omega
    · exact ih (by omega) j (by omega)
/-- With the dials of Coordinate every curve can be scaled, and no pair is wrong. -/
theorem coord_ok {l : List CRA} {ps : List IPr} {m lo hi : Int} (h : (coordE l ps m lo hi).2 = 0) :
    setE l ps = 0 ∧ (coordE l ps m lo hi).1.length = l.length ∧ (∀ j : Nat, j < l.length → (relOf l j).pts.scaleE ((coordE l ps m lo hi).1.getD j 0) = 0) ∧
    ∀ p ∈ ps, (conflictR ((relOf l p.1).pts.scaled ((coordE l ps m lo hi).1.getD p.1.toNat 0)) (relOf l p.1).pk ((relOf l p.2).pts.scaled ((coordE l ps m lo hi).1.getD p.2.toNat 0)) (relOf l p.2).pk m lo hi).2 = 8 := by
  by_cases h0 : setE l ps ≠ 0
  · unfold coordE at h; rw [if_pos h0] at h; exact absurd h h0
  by_cases h1 : (seqE ps l.length []).length < l.length
  · unfold coordE at h; rw [if_neg h0, if_pos h1] at h; cases h
  have e : coordE l ps m lo hi = cOut l ps m lo hi (seqE ps l.length []) (List.replicate l.length 0, l.map (·.pts)) := by
    show (if setE l ps ≠ 0 then ([], setE l ps) else _) = _
    rw [if_neg h0, if_neg h1]
  rw [e] at h ⊢
  obtain ⟨s1, s2⟩ := seqE_ok ps l.length
  have hall := muR_zero (out := seqE ps l.length []) (n := l.length) (by omega)
  obtain ⟨_, _, _, hpo⟩ := setE_ok (Decidable.not_not.1 h0)
  obtain ⟨cur, hc⟩ := cOut_inv (seqE ps l.length []) [] (List.replicate l.length 0) (l.map (·.pts)) ⟨by simp, by simp, fun j _ hj => (by cases hj)⟩ (by simpa using s1)
    (fun a k b e => seqF_order (muR [] l.length + 1) [] (fun a k b e => by simp at e) a k b e) h
  rw [List.nil_append] at hc
  generalize (cOut l ps m lo hi (seqE ps l.length []) (List.replicate l.length 0, l.map (·.pts))).1 = D at *
  refine ⟨Decidable.not_not.1 h0, hc.ld, fun j hj => (hc.one j hj (hall j hj)).1, fun p hp => ?_⟩
  obtain ⟨q1, q2, q3, q4, _⟩ := hpo p hp
  obtain ⟨a, ha⟩ := Int.eq_ofNat_of_zero_le q1
  obtain ⟨b, hb⟩ := Int.eq_ofNat_of_zero_le q3
  have hal : a < l.length := by omega
  have hbl : b < l.length := by omega
  obtain ⟨_, e2, e3⟩ := hc.one b hbl (hall b hbl)
  obtain ⟨_, e5⟩ := e3 p hp hb
  obtain ⟨_, f2, _⟩ := hc.one a hal (hall a hal)
  rw [ha] at e5 ⊢
  rw [hb]
  simp only [Int.toNat_natCast] at e5 ⊢
  rw [f2, e2] at e5
  exact e5
end Go.Proofs.Ytplebibabcdipaa
