/- choose: what a valid network gives: the net of build is in order; and the laws, in plain functions. -/
import Derived.Test.YtplebibabcdipaaChoH
import Derived.Test.YtplebibabcdipaaCho2
namespace Go.Proofs.Ytplebibabcdipaa

theorem addR_zero {met : List ByteArray} {s : ByteArray} (h : (addR met s).1 = 0) : hasS s met = false ∧ (addR met s).2 = met ++ [s] := by
  unfold addR at h ⊢
  split at h
  · cases h
  · rename_i h1
    split at h
    · cases h
    · rename_i h2
      rw [if_neg h1, if_neg h2]
      exact ⟨by simpa using h2, rfl⟩
theorem deviceE_add {nl met ls : List ByteArray} {s : ByteArray} (h : deviceE nl met s ls = 0) : (addR met s).1 = 0 := by
  unfold deviceE at h
  split at h
  · rename_i h1; exact h
  · rename_i h1; simpa using h1
theorem devAll_names {α : Type} {nl : List ByteArray} {name : α → ByteArray} {ends : α → List ByteArray} {test : α → Int} : ∀ (l : List α) (met : List ByteArray), (devAll nl name ends test l met).1 = 0 →
    (l.map name).Nodup ∧ (∀ s ∈ l.map name, s ∉ met) ∧ (devAll nl name ends test l met).2 = met ++ l.map name := by
  intro l
  induction l with
  | nil => intro met _; exact ⟨List.nodup_nil, (fun s hs => by cases hs), by simp [devAll]⟩
  | cons y ys ih =>
    intro met h
    unfold devAll at h ⊢
    split at h
    · rename_i hd; exact absurd h hd
    · rename_i hd
      split at h
      · rename_i ht; exact absurd h ht
      · rename_i ht
        rw [if_neg hd, if_neg ht]
        obtain ⟨a1, a2⟩ := addR_zero (deviceE_add (by simpa using hd))
        obtain ⟨i1, i2, i3⟩ := ih _ h
        rw [a2] at i2 i3 ⊢
        have hy : name y ∉ met := fun hm => by rw [hasS_iff.2 hm] at a1; cases a1
        refine ⟨?_, fun s hs => ?_, by rw [i3]; simp⟩
        · rw [List.map_cons, List.nodup_cons]
          exact ⟨fun hm => i2 _ hm (List.mem_append_right _ List.mem_cons_self), i1⟩
        · rcases List.mem_cons.1 (by simpa using hs : s ∈ name y :: ys.map name) with rfl | hs
          · exact hy
          · exact fun hm => i2 s hs (List.mem_append_left _ hm)
/-- Of a valid network: its switches and branches. -/
theorem net_names {n : Net} (h : netE n = 0) : (n.sws.map NSw.name).Nodup ∧ (∀ b ∈ n.brs, ∀ s ∈ n.sws, b.name ≠ s.name) ∧ (∀ s ∈ n.sws, sameB s.a s.b = false) := by
  unfold netE at h
  split at h
  · cases h
  · simp only at h
    split at h
    · rename_i ha; exact absurd h ha
    · split at h
      · rename_i ha; exact absurd h ha
      · rename_i hsw
        have hsw' := Decidable.not_not.1 hsw
        split at h
        · rename_i ha; exact absurd h ha
        · rename_i hbr
          have hbr' := Decidable.not_not.1 hbr
          obtain ⟨s1, s2, s3⟩ := devAll_names n.sws _ hsw'
          obtain ⟨b1, b2, b3⟩ := devAll_names n.brs _ hbr'
          refine ⟨s1, fun b hb s hs e => ?_, fun s hs => ?_⟩
          · refine b2 b.name (List.mem_map.2 ⟨b, hb, rfl⟩) ?_
            rw [s3, e]
            exact List.mem_append_right _ (List.mem_map.2 ⟨s, hs, rfl⟩)
          · obtain ⟨_, h2⟩ := devAll_ok n.sws _ hsw' s hs
            unfold NSw.test at h2
            split at h2
            · cases h2
            · rename_i hh; simpa using hh
theorem idxS_get {s : ByteArray} : ∀ (l : List ByteArray) (i : Int), hasS s l = true → l[(idxS s l i - i).toNat]? = some s := by
  intro l
  induction l with
  | nil => intro i h; cases h
  | cons x xs ih =>
    intro i h
    unfold idxS
    split
    · rename_i hh
      have := (Lib.bytes_beq_iff s x).1 hh
      simp [this]
    · rename_i hh
      have h2 : hasS s xs = true := by
        have h3 : ((s.toList == x.toList) || hasS s xs) = true := h
        rw [Bool.or_eq_true] at h3
        exact h3.resolve_left hh
      have h3 := ih (i + 1) h2
      have h4 := idxS_lt xs (i + 1) h2
      rw [show (idxS s xs (i + 1) - i).toNat = (idxS s xs (i + 1) - (i + 1)).toNat + 1 by omega]
      simpa using h3
theorem ixN_ne {nl : List ByteArray} {s t : ByteArray} (hs : hasS s nl = true) (ht : hasS t nl = true) (h : sameB s t = false) : ixN nl s ≠ ixN nl t := by
  intro e
  have h1 := idxS_get nl 0 hs
  have h2 := idxS_get nl 0 ht
  rw [Int.sub_zero] at h1 h2
  unfold ixN at e
  rw [e, h2] at h1
  cases h1
  rw [sameB_self] at h; cases h
theorem swC_mem {nl : List ByteArray} : ∀ {l : List NSw} {e : CEdge}, e ∈ swC nl l → ∃ s ∈ l, s.opn = false ∧ e = ⟨s.name, ixN nl s.a, ixN nl s.b, s.brk⟩ := by
  intro l
  induction l with
  | nil => intro e h; cases h
  | cons x xs ih =>
    intro e h
    unfold swC at h
    split at h
    · obtain ⟨s, h1, h2⟩ := ih h; exact ⟨s, List.mem_cons_of_mem _ h1, h2⟩
    · rename_i ho
      rcases List.mem_cons.1 h with rfl | h
      · exact ⟨x, List.mem_cons_self, by simpa using ho, rfl⟩
      · obtain ⟨s, h1, h2⟩ := ih h; exact ⟨s, List.mem_cons_of_mem _ h1, h2⟩
theorem brC_mem {nl : List ByteArray} {p : Plc} : ∀ {l : List NBr} {e : CEdge}, e ∈ brC nl p l → ∃ b ∈ l, e ∈ brC1 nl p b := by
  intro l
  induction l with
  | nil => intro e h; cases h
  | cons x xs ih =>
    intro e h
    unfold brC at h
    rcases List.mem_append.1 h with h | h
    · exact ⟨x, List.mem_cons_self, h⟩
    · obtain ⟨s, h1, h2⟩ := ih h; exact ⟨s, List.mem_cons_of_mem _ h1, h2⟩
theorem brC1_mem {nl : List ByteArray} {p : Plc} {b : NBr} {e : CEdge} (h : e ∈ brC1 nl p b) : e.name = b.name ∧ e.brk = false ∧ ((e.a = ixN nl b.fr ∧ e.b = ixN nl b.to) ∨ (e.a = ixN nl b.fr ∧ e.b = nl.length) ∨ (e.a = nl.length ∧ e.b = ixN nl b.to)) := by
  unfold brC1 at h
  split at h
  · rw [List.mem_singleton] at h; subst h; exact ⟨rfl, rfl, Or.inl ⟨rfl, rfl⟩⟩
  · rcases List.mem_cons.1 h with rfl | h
    · exact ⟨rfl, rfl, Or.inr (Or.inl ⟨rfl, rfl⟩)⟩
    · rw [List.mem_singleton] at h; subst h; exact ⟨rfl, rfl, Or.inr (Or.inr ⟨rfl, rfl⟩)⟩
theorem swC_sub (nl : List ByteArray) : ∀ (l : List NSw), ((swC nl l).map CEdge.name).Sublist (l.map NSw.name) := by
  intro l
  induction l with
  | nil => exact List.Sublist.slnil
  | cons x xs ih =>
    unfold swC
    split
    · exact List.Sublist.cons _ ih
    · exact List.Sublist.cons_cons _ ih
theorem atC_lt {nl : List ByteArray} {p : Plc} : ∀ (l : List NBr) (cur : Nat), (∀ b ∈ l, hasS b.fr nl = true ∧ hasS b.to nl = true) → cur < nl.length + 1 → atC nl p l cur < nl.length + 1 := by
  intro l
  induction l with
  | nil => intro cur _ h; exact h
  | cons b bs ih =>
    intro cur hl h
    obtain ⟨h1, h2⟩ := hl b List.mem_cons_self
    have q1 := (ixN_lt h1).1
    have q2 := (ixN_lt h2).1
    refine ih _ (fun x hx => hl x (List.mem_cons_of_mem _ hx)) ?_
    unfold atC1
    split
    · split
      · omega
      · split <;> omega
    · exact h
theorem build_ok {n : Net} {p : Plc} (h : netE n = 0) : (buildC n p).Ok ∧ NoLoop (buildC n p) ∧ CNames (buildC n p) := by
  have ho := netE_ok h
  obtain ⟨n1, n2, n3⟩ := net_names h
  have n4 := br_ne h
  have hl1 := swC_len n.nodes n.sws
  have hl2 := brC_len n.nodes p n.brs
  have hnn := ho.nn
  have hns := ho.ns
  have hnb := ho.nb
  have hedge : ∀ e ∈ (buildC n p).edges, (e.a < n.nodes.length + 1 ∧ e.b < n.nodes.length + 1) ∧ e.a ≠ e.b := fun e he => by
    rcases List.mem_append.1 he with he | he
    · obtain ⟨s, h1, _, rfl⟩ := swC_mem he
      obtain ⟨a1, a2⟩ := ho.sw s h1
      have q1 := (ixN_lt a1).1
      have q2 := (ixN_lt a2).1
      exact ⟨⟨by simp only; omega, by simp only; omega⟩, ixN_ne a1 a2 (n3 s h1)⟩
    · obtain ⟨b, h1, h2⟩ := brC_mem he
      obtain ⟨_, _, h3⟩ := brC1_mem h2
      obtain ⟨a1, a2, _⟩ := ho.br b h1
      have q1 := (ixN_lt a1).1
      have q2 := (ixN_lt a2).1
      have q3 := ixN_ne a1 a2 (n4 b h1)
      rcases h3 with ⟨e1, e2⟩ | ⟨e1, e2⟩ | ⟨e1, e2⟩ <;> rw [e1, e2] <;> exact ⟨⟨by omega, by omega⟩, by omega⟩
  refine ⟨⟨fun e he => (hedge e he).1, ?_, ?_, ?_, ?_⟩, fun e he => (hedge e he).2, ?_⟩
  · show (srcC n.nodes NStore.node n.stores (srcC n.nodes NGen.node n.gens (List.replicate (n.nodes.length + 1) false))).length = n.nodes.length + 1
    rw [srcC_len, srcC_len, List.length_replicate]
  · exact atC_lt n.brs 0 (fun b hb => ⟨(ho.br b hb).1, (ho.br b hb).2.1⟩) (by omega)
  · show n.nodes.length + 1 ≤ 1000; omega
  · show (swC n.nodes n.sws ++ brC n.nodes p n.brs).length ≤ 1000
    rw [List.length_append]; omega
  · intro k k' e e' hk hk' hb hne
    have hsub := swC_sub n.nodes n.sws
    have hnd := hsub.nodup n1
    have hsw : ∀ (j : Nat) (x : CEdge), (buildC n p).edges[j]? = some x → (j < (swC n.nodes n.sws).length ∧ (swC n.nodes n.sws)[j]? = some x) ∨ x ∈ brC n.nodes p n.brs := fun j x hj => by
      have hj' : (swC n.nodes n.sws ++ brC n.nodes p n.brs)[j]? = some x := hj
      by_cases hlt : j < (swC n.nodes n.sws).length
      · rw [List.getElem?_append_left hlt] at hj'; exact Or.inl ⟨hlt, hj'⟩
      · rw [List.getElem?_append_right (by omega)] at hj'; exact Or.inr (List.mem_of_getElem? hj')
    rcases hsw k e hk with ⟨h1, h2⟩ | h2
    · rcases hsw k' e' hk' with ⟨h3, h4⟩ | h4
      · refine (List.getElem?_inj (i := k) (j := k') (by rw [List.length_map]; exact h1) hnd).1 ?_
        rw [List.getElem?_map, List.getElem?_map, h2, h4]
        simp [hne]
      · obtain ⟨s, h5, _, h6⟩ := swC_mem (List.mem_of_getElem? h2)
        obtain ⟨b, h7, h8⟩ := brC_mem h4
        have h9 := (brC1_mem h8).1
        exact absurd (h9.symm.trans (hne.symm.trans (by rw [h6]))) (n2 b h7 s h5)
    · obtain ⟨b, _, h8⟩ := brC_mem h2
      rw [(brC1_mem h8).2.1] at hb; cases hb
/-- Least, Ways, Isolated, Proves: what they answer. -/
def leastE (n : Net) (p : Plc) : List ByteArray × Int :=
  if placeE n p ≠ 0 then ([], placeE n p) else if (largC (buildC n p)).2 = 1000 then ([], 8) else ((crossC (buildC n p) (largC (buildC n p)).1).map CEdge.name, 0)
def waysE (n : Net) (p : Plc) : List (List ByteArray) × Int :=
  if placeE n p ≠ 0 then ([], placeE n p) else if (largC (buildC n p)).2 = 1000 then ([], 8) else (waysC (buildC n p) (largC (buildC n p)).2 (largC (buildC n p)).1, 0)
def knownS (n : Net) (op : List ByteArray) : Bool := op.all fun s => n.sws.any fun x => sameB x.name s
def isolE (n : Net) (op : List ByteArray) (p : Plc) : Bool × Int :=
  if placeE n p ≠ 0 then (false, placeE n p) else if knownS n op = true then (isoC (buildC n p) (fun e => hasS e.name op), 0) else (false, 6)
def provesE (n : Net) (p : Plc) (op : List ByteArray) (ws : List (List ByteArray)) : Bool × Int :=
  if placeE n p ≠ 0 then (false, placeE n p) else (provesC (buildC n p) op ws, 0)
theorem placeE_net {n : Net} {p : Plc} (h : placeE n p = 0) : netE n = 0 := by
  unfold placeE at h
  split at h
  · rename_i h1; exact absurd h h1
  · rename_i h1; simpa using h1
/-- ChooseMore. -/
theorem law_more (n : Net) (p : Plc) (op op' : List ByteArray) (hsub : ∀ s ∈ op, s ∈ op') :
    ((isolE n op p).2 ≠ 0 → (isolE n op p).1 = false) ∧ ((isolE n op p).2 = 0 → ((isolE n op' p).2 ≠ 0 ∧ (isolE n op' p).1 = false) ∨ ((isolE n op' p).2 = 0 ∧ ((isolE n op p).1 = true → (isolE n op' p).1 = true))) := by
  unfold isolE
  by_cases hp : placeE n p = 0
  · have hc := (build_ok (p := p) (placeE_net hp)).1
    rw [if_neg (fun h : placeE n p ≠ 0 => h hp), if_neg (fun h : placeE n p ≠ 0 => h hp)]
    cases h1 : knownS n op
    · exact ⟨fun _ => rfl, fun h => by cases h⟩
    · refine ⟨fun h => absurd rfl h, fun _ => ?_⟩
      cases h2 : knownS n op'
      · left; exact ⟨by simp, rfl⟩
      · right
        refine ⟨rfl, fun h => ?_⟩
        exact isoC_mono hc (fun e he => hasS_iff.2 (hsub _ (hasS_iff.1 he))) h
  · rw [if_pos hp, if_pos hp]
    exact ⟨fun _ => rfl, fun h => absurd h hp⟩
theorem swEdge {n : Net} {p : Plc} (h : netE n = 0) {op : List ByteArray} (hk : knownS n op = true) (hb : ∀ s ∈ op, ∀ x ∈ n.sws, sameB x.name s = true → x.brk = true) : ∀ e ∈ (buildC n p).edges, hasS e.name op = true → e.brk = true := by
  obtain ⟨_, n2, _⟩ := net_names h
  intro e he ho
  have hm := hasS_iff.1 ho
  rcases List.mem_append.1 he with he | he
  · obtain ⟨s, h1, _, rfl⟩ := swC_mem he
    exact hb _ hm s h1 (sameB_self _)
  · obtain ⟨b, h1, h2⟩ := brC_mem he
    have h3 := (brC1_mem h2).1
    have h4 := List.all_eq_true.1 hk _ hm
    obtain ⟨x, h5, h6⟩ := List.any_eq_true.1 h4
    exact absurd (h3.symm.trans (sameB_eq h6).symm) (n2 b h1 x h5)
theorem isoC_src {c : CNet} (hc : c.Ok) {out : CEdge → Bool} (h : isoC c out = true) : c.src.getD c.at_ false = false := by
  obtain ⟨S, s1, s2, _⟩ := (isoC_iff hc out).1 h
  cases hs : c.src.getD c.at_ false
  · rfl
  · have := s2 _ hs
    rw [s1] at this; cases this
/-- ChooseSmallest. -/
theorem law_small (n : Net) (p : Plc) (op : List ByteArray) (h8 : op.length ≤ 8) (h0 : (isolE n op p).2 = 0) (hi : (isolE n op p).1 = true) (hb : ∀ s ∈ op, ∀ x ∈ n.sws, sameB x.name s = true → x.brk = true) :
    (leastE n p).2 = 0 ∧ (leastE n p).1.length ≤ op.length := by
  unfold isolE at h0 hi
  by_cases hp : placeE n p = 0
  · have hne := placeE_net hp
    obtain ⟨hc, _, hn⟩ := build_ok (p := p) hne
    rw [if_neg (fun h : placeE n p ≠ 0 => h hp)] at h0 hi
    cases h1 : knownS n op
    · rw [h1] at h0; cases h0
    · rw [h1, if_pos rfl] at hi
      have hsrc := isoC_src hc hi
      have hed := swEdge (p := p) hne h1 hb
      have hfl := fun {f : List Int} {v : Nat} (h : FlowV (buildC n p) f v) => flow_le hc hn h op hi (fun s hs => hasS_iff.1 hs) hed
      rcases largC_ok hc with ⟨h2, _⟩ | ⟨_, ⟨h2, _⟩ | ⟨h2, h3, h4⟩⟩
      · rw [hsrc] at h2; cases h2
      · have := hfl h2.fl; omega
      · obtain ⟨_, _, _, _, h5, _⟩ := least_ok hc h3 h2 h4
        have h6 := hfl h3.fl
        unfold leastE
        rw [if_neg (fun h : placeE n p ≠ 0 => h hp), if_neg (by omega)]
        refine ⟨rfl, ?_⟩
        simp only [List.length_map]
        omega
  · rw [if_pos hp] at h0; exact absurd h0 hp
/-- ChooseProves. -/
theorem law_proves (n : Net) (p : Plc) : ((leastE n p).2 ≠ 0 → (waysE n p).2 = (leastE n p).2 ∧ (leastE n p).1 = [] ∧ (waysE n p).1 = []) ∧
    ((leastE n p).2 = 0 → (waysE n p).2 = 0 ∧ isolE n (leastE n p).1 p = (true, 0) ∧ provesE n p (leastE n p).1 (waysE n p).1 = (true, 0)) := by
  by_cases hp : placeE n p = 0
  · have hne := placeE_net hp
    obtain ⟨hc, hl, hn⟩ := build_ok (p := p) hne
    have hbig : (largC (buildC n p)).2 = 1000 → leastE n p = ([], 8) ∧ waysE n p = ([], 8) := fun h => by
      unfold leastE waysE
      rw [if_neg (fun h : placeE n p ≠ 0 => h hp), if_neg (fun h : placeE n p ≠ 0 => h hp), if_pos h, if_pos h]; exact ⟨rfl, rfl⟩
    have hbig2 : (largC (buildC n p)).2 = 1000 → ((leastE n p).2 ≠ 0 → (waysE n p).2 = (leastE n p).2 ∧ (leastE n p).1 = [] ∧ (waysE n p).1 = []) ∧
        ((leastE n p).2 = 0 → (waysE n p).2 = 0 ∧ isolE n (leastE n p).1 p = (true, 0) ∧ provesE n p (leastE n p).1 (waysE n p).1 = (true, 0)) := fun h => by
      obtain ⟨e1, e2⟩ := hbig h
      rw [e1, e2]
      exact ⟨fun _ => ⟨rfl, rfl, rfl⟩, fun h => by cases h⟩
    rcases largC_ok hc with ⟨_, h2⟩ | ⟨hsrc, ⟨_, h2⟩ | ⟨h2, h3, h4⟩⟩
    · exact hbig2 h2
    · exact hbig2 h2
    · obtain ⟨p1, p2⟩ := proves_ok hc hl hn hsrc h3 h2 h4
      obtain ⟨S, _, _, _, _, h5⟩ := least_ok hc h3 h2 h4
      have e1 : leastE n p = ((crossC (buildC n p) (largC (buildC n p)).1).map CEdge.name, 0) := by
        unfold leastE; rw [if_neg (fun h : placeE n p ≠ 0 => h hp), if_neg (by omega)]
      have e2 : waysE n p = (waysC (buildC n p) (largC (buildC n p)).2 (largC (buildC n p)).1, 0) := by
        unfold waysE; rw [if_neg (fun h : placeE n p ≠ 0 => h hp), if_neg (by omega)]
      rw [e1, e2]
      refine ⟨fun h => absurd rfl h, fun _ => ⟨rfl, ?_, ?_⟩⟩
      · have hk : knownS n ((crossC (buildC n p) (largC (buildC n p)).1).map CEdge.name) = true := by
          refine List.all_eq_true.2 fun s hs => ?_
          obtain ⟨e, he, rfl⟩ := List.mem_map.1 hs
          have hb := h5 e he
          rcases List.mem_append.1 (List.mem_filter.1 he).1 with hm | hm
          · obtain ⟨x, q1, _, rfl⟩ := swC_mem hm
            exact List.any_eq_true.2 ⟨x, q1, sameB_self _⟩
          · obtain ⟨b, _, q2⟩ := brC_mem hm
            rw [(brC1_mem q2).2.1] at hb; cases hb
        unfold isolE
        rw [if_neg (fun h : placeE n p ≠ 0 => h hp), if_pos hk, p1]
      · unfold provesE
        rw [if_neg (fun h : placeE n p ≠ 0 => h hp), p2]
  · have e1 : leastE n p = ([], placeE n p) := by unfold leastE; rw [if_pos hp]
    have e2 : waysE n p = ([], placeE n p) := by unfold waysE; rw [if_pos hp]
    rw [e1, e2]
    exact ⟨fun _ => ⟨rfl, rfl, rfl⟩, fun h => absurd h hp⟩
end Go.Proofs.Ytplebibabcdipaa
