/- Plain: the reduced echelon form: its law. Plain: ranks of lists of rows. -/
import Derived.Test.YthcddboeejbncaaLinA
import Derived.Test.YthcddboeejbncaaPzMat3
namespace Go.Proofs.Ythcddboeejbncaa.Lin
/-- Two matrices with the same row space, whatever the number of columns. -/
def REq (R : Nat) (M N : Nat → Vc) : Prop := ∀ L i, i < R → Sp L (Rows R M) (N i) ∧ Sp L (Rows R N) (M i)
theorem REq.refl (R : Nat) (M : Nat → Vc) : REq R M M := fun _ i hi => ⟨.mem ⟨i, hi, rfl⟩, .mem ⟨i, hi, rfl⟩⟩
theorem REq.trans {R : Nat} {M N K : Nat → Vc} (h : REq R M N) (k : REq R N K) : REq R M K := fun L i hi =>
  ⟨(k L i hi).1.trans fun _ ⟨j, hj, e⟩ => e ▸ (h L j hj).1, (h L i hi).2.trans fun _ ⟨j, hj, e⟩ => e ▸ (k L j hj).2⟩
theorem REq.swap {R a b : Nat} (M : Nat → Vc) (ha : a < R) (hb : b < R) : REq R M (swapM M a b) := fun _ i hi =>
  ⟨.mem ⟨sw a b i, sw_lt ha hb hi, rfl⟩, .mem ⟨sw a b i, sw_lt ha hb hi, by funext c; show M i c = M (sw a b (sw a b i)) c; rw [sw_sw]⟩⟩
theorem clear_at (M : Nat → Vc) (t k c : Nat) : clearM M t k t c = M t c / M t k := by
  unfold clearM elimM scaleM; simp
theorem clear_other (M : Nat → Vc) (t k : Nat) {i : Nat} (hi : i ≠ t) (c : Nat) : clearM M t k i c = M i c - M i k * (M t c / M t k) := by
  unfold clearM elimM scaleM
  simp only [hi, false_or, if_false, if_true]
  split
  · rename_i h; rw [h]; grind
  · rfl
theorem REq.clear {R t k : Nat} (M : Nat → Vc) (ht : t < R) (hk : M t k ≠ 0) : REq R M (clearM M t k) := by
  intro L i hi
  have h1 : Sp L (Rows R M) (clearM M t k t) := (Sp.smul (1 / M t k) (.mem ⟨t, ht, rfl⟩)).congr fun c _ => by rw [clear_at]; grind
  by_cases e : i = t
  · subst e
    exact ⟨h1, (Sp.smul (M i k) (.mem ⟨i, ht, rfl⟩)).congr fun c _ => by rw [clear_at]; grind⟩
  · refine ⟨((Sp.smul (- M i k) h1).add (.mem ⟨i, hi, rfl⟩)).congr fun c _ => ?_, ((Sp.smul (M i k) (.mem ⟨t, ht, rfl⟩)).add (.mem ⟨i, hi, rfl⟩)).congr fun c _ => ?_⟩
    · rw [clear_at, clear_other M t k e]; grind
    · show M i c = M i k * clearM M t k t c + clearM M t k i c
      rw [clear_at, clear_other M t k e]; grind
theorem findF_spec (M : Nat → Vc) (k : Nat) : ∀ f i, (∀ j, i ≤ j → j < findF M k f i → M j k = 0) ∧ (findF M k f i < i + f → M (findF M k f i) k ≠ 0)
  | 0, i => ⟨fun j h1 h2 => absurd h2 (by show ¬ j < i; omega), fun h => absurd h (by show ¬ i < i + 0; omega)⟩
  | f + 1, i => by
    unfold findF
    by_cases e : M i k = 0
    · rw [if_pos e]
      obtain ⟨h1, h2⟩ := findF_spec M k f (i + 1)
      refine ⟨fun j hj hl => ?_, fun h => h2 (by omega)⟩
      by_cases ej : j = i
      · rw [ej]; exact e
      · exact h1 j (by omega) hl
    · rw [if_neg e]
      exact ⟨fun j h1 h2 => by omega, fun _ => e⟩
theorem findF_le (M : Nat → Vc) (k : Nat) : ∀ f i, i ≤ findF M k f i ∧ findF M k f i ≤ i + f
  | 0, i => ⟨Nat.le_refl _, Nat.le_refl _⟩
  | f + 1, i => by
    unfold findF
    split
    · have := findF_le M k f (i + 1); omega
    · omega
/-- The echelon form of the first k columns. -/
structure Ech (R k : Nat) (M : Nat → Vc) (p : List Int) : Prop where
  le : p.length ≤ R
  piv : ∀ j, j < p.length → ∃ c : Nat, p[j]? = some (c : Int) ∧ c < k ∧ ∀ i, i < R → M i c = if i = j then 1 else 0
  rest : ∀ i, p.length ≤ i → i < R → ∀ c, c < k → M i c = 0
theorem Ech.next {R k : Nat} {M : Nat → Vc} {p : List Int} (h : Ech R k M p) (hf : findF M k (R - p.length) p.length = R) : Ech R (k + 1) M p := by
  refine ⟨h.le, fun j hj => ?_, fun i h1 h2 c hc => ?_⟩
  · obtain ⟨c, a, b, d⟩ := h.piv j hj
    exact ⟨c, a, by omega, d⟩
  · by_cases e : c = k
    · have := (findF_spec M k (R - p.length) p.length).1 i h1 (by rw [hf]; exact h2)
      rw [e]; exact this
    · exact h.rest i h1 h2 c (by omega)
theorem sw_id {a b i : Nat} (h1 : i ≠ a) (h2 : i ≠ b) : sw a b i = i := by unfold sw; rw [if_neg h1, if_neg h2]
theorem Ech.step {R k : Nat} {M : Nat → Vc} {p : List Int} (h : Ech R k M p) (hp : p.length < R) (hf : findF M k (R - p.length) p.length ≠ R) :
    Ech R (k + 1) (clearM (swapM M p.length (findF M k (R - p.length) p.length)) p.length k) (p ++ [(k : Int)]) ∧ REq R M (clearM (swapM M p.length (findF M k (R - p.length) p.length)) p.length k) := by
  obtain ⟨hl, hu⟩ := findF_le M k (R - p.length) p.length
  obtain ⟨_, hne⟩ := findF_spec M k (R - p.length) p.length
  have hne := hne (by omega)
  have hfR : findF M k (R - p.length) p.length < R := by omega
  generalize findF M k (R - p.length) p.length = f at *
  have hN : swapM M p.length f p.length k ≠ 0 := by show M (sw p.length f p.length) k ≠ 0; unfold sw; rw [if_pos rfl]; exact hne
  refine ⟨⟨by simp; omega, fun j hj => ?_, fun i h1 h2 c hc => ?_⟩, (REq.swap M hp hfR).trans (REq.clear _ hp hN)⟩
  · by_cases e : j = p.length
    · subst e
      refine ⟨k, by simp, by omega, fun i hi => ?_⟩
      by_cases ei : i = p.length
      · rw [if_pos ei, ei, clear_at]; grind
      · rw [if_neg ei, clear_other _ _ _ ei]; grind
    · have hj' : j < p.length := by simp at hj; omega
      obtain ⟨c, a, b, d⟩ := h.piv j hj'
      have hs : ∀ i, i < R → swapM M p.length f i c = if i = j then 1 else 0 := fun i hi => by
        show M (sw p.length f i) c = _
        rw [d _ (sw_lt hp hfR hi)]
        by_cases ei : i = j
        · rw [if_pos ei, if_pos]; rw [sw_id (by omega) (by omega)]; exact ei
        · rw [if_neg ei, if_neg]; intro hh
          have := congrArg (sw p.length f) hh
          rw [sw_sw, sw_id (i := j) (by omega) (by omega)] at this
          exact ei this
      refine ⟨c, by rw [List.getElem?_append_left hj']; exact a, by omega, fun i hi => ?_⟩
      have ht : swapM M p.length f p.length c = 0 := by rw [hs _ hp, if_neg (by omega)]
      by_cases ei : i = p.length
      · rw [ei, clear_at, ht, if_neg (by omega)]; grind
      · rw [clear_other _ _ _ ei, ht, hs i hi]; grind
  · have h1' : p.length + 1 ≤ i := by simpa using h1
    by_cases e : c = k
    · subst e
      rw [clear_other _ _ _ (by omega)]; grind
    · have hz : ∀ i, p.length ≤ i → i < R → swapM M p.length f i c = 0 := fun i a b => by
        show M (sw p.length f i) c = 0
        refine h.rest _ ?_ (sw_lt hp hfR b) c (by omega)
        unfold sw; split <;> (try split) <;> omega
      rw [clear_other _ _ _ (by omega), hz i (by omega) h2, hz _ (Nat.le_refl _) hp]; grind
theorem echF_spec (R : Nat) : ∀ f k M p, Ech R k M p → (Ech R (k + f) (echF R f k M p).1 (echF R f k M p).2) ∧ REq R M (echF R f k M p).1
  | 0, k, M, p, h => ⟨h, REq.refl R M⟩
  | f + 1, k, M, p, h => by
    unfold echF
    by_cases hp : p.length < R
    · rw [if_pos hp]
      by_cases hf : findF M k (R - p.length) p.length = R
      · rw [if_pos hf]
        obtain ⟨h1, h2⟩ := echF_spec R f (k + 1) M p (h.next hf)
        rw [show k + (f + 1) = k + 1 + f by omega]
        exact ⟨h1, h2⟩
      · rw [if_neg hf]
        obtain ⟨h3, h4⟩ := h.step hp hf
        obtain ⟨h1, h2⟩ := echF_spec R f (k + 1) _ _ h3
        rw [show k + (f + 1) = k + 1 + f by omega]
        exact ⟨h1, h4.trans h2⟩
    · rw [if_neg hp]
      refine ⟨⟨h.le, fun j hj => ?_, fun i h1 h2 => absurd h2 (by have h1 : p.length ≤ i := h1; omega)⟩, REq.refl R M⟩
      obtain ⟨c, a, b, d⟩ := h.piv j hj
      exact ⟨c, a, by omega, d⟩
theorem ech_spec (R n : Nat) (M : Nat → Vc) : Ech R n (echE R n M).1 (echE R n M).2 ∧ REq R M (echE R n M).1 := by
  have := echF_spec R n 0 M [] ⟨Nat.zero_le _, fun j hj => absurd hj (Nat.not_lt_zero _), fun i _ _ c hc => absurd hc (Nat.not_lt_zero _)⟩
  rw [Nat.zero_add] at this
  exact this
theorem Ech.rank {R n : Nat} {M : Nat → Vc} {p : List Int} (h : Ech R n M p) : Rk n (Rows R M) p.length := by
  refine ⟨M, fun c hc j hj => ?_, fun i hi => .mem ⟨i, Nat.lt_of_lt_of_le hi h.le, rfl⟩, fun u ⟨i, hi, e⟩ => ?_⟩
  · obtain ⟨k, _, hk, hd⟩ := h.piv j hj
    have h1 := hc k hk
    have hle := h.le
    rw [sumN_single p.length (f := fun i => c i * M i k) (k := j) hj (fun i hi hn => by show c i * M i k = 0; rw [hd i (by omega), if_neg hn]; grind)] at h1
    have h2 : c j * M j k = c j := by rw [hd j (by omega), if_pos rfl]; grind
    have h1 : c j * M j k = 0 := h1
    rw [h2] at h1; exact h1
  · subst e
    by_cases hl : i < p.length
    · exact .mem ⟨i, hl, rfl⟩
    · exact .zero fun k hk => h.rest i (by omega) hi k hk
theorem ech_rank (R n : Nat) (M : Nat → Vc) : Rk n (Rows R M) (echE R n M).2.length := by
  obtain ⟨h1, h2⟩ := ech_spec R n M
  exact h1.rank.congr (fun _ ⟨i, hi, e⟩ => e ▸ (h2 n i hi).1) (fun _ ⟨i, hi, e⟩ => e ▸ (h2 n i hi).2)
end Go.Proofs.Ythcddboeejbncaa.Lin
namespace Go.Proofs.Ythcddboeejbncaa.Lin
/-- The rank of a list of rows. -/
def rankL (w : Nat) (g : List Vc) : Nat := (echE g.length w (fun i => g.getD i (fun _ => 0))).2.length
theorem rows_list {g : List Vc} {u : Vc} : Rows g.length (fun i => g.getD i (fun _ => 0)) u ↔ u ∈ g := by
  constructor
  · rintro ⟨i, hi, rfl⟩
    show g.getD i _ ∈ g
    rw [show g.getD i (fun _ => 0) = g[i] by simp [hi]]; exact List.getElem_mem _
  · intro h
    obtain ⟨i, hi, e⟩ := List.getElem_of_mem h
    exact ⟨i, hi, by show u = g.getD i _; rw [show g.getD i (fun _ => 0) = g[i] by simp [hi], e]⟩
theorem rankL_rk (w : Nat) (g : List Vc) : Rk w (· ∈ g) (rankL w g) :=
  (ech_rank g.length w (fun i => g.getD i (fun _ => 0))).congr (fun _ h => .mem (rows_list.1 h)) (fun _ h => .mem (rows_list.2 h))
theorem rankL_eq {w r : Nat} {g : List Vc} (h : Rk w (· ∈ g) r) : rankL w g = r := (rankL_rk w g).uniq h
theorem rankL_le (w : Nat) (g : List Vc) : rankL w g ≤ w ∧ rankL w g ≤ g.length :=
  ⟨(rankL_rk w g).le_n, (ech_rank g.length w (fun i => g.getD i (fun _ => 0))).le_rows⟩
theorem rankL_span {w : Nat} {g h : List Vc} (h1 : ∀ u ∈ g, Sp w (· ∈ h) u) (h2 : ∀ u ∈ h, Sp w (· ∈ g) u) : rankL w g = rankL w h :=
  rankL_eq ((rankL_rk w h).congr h2 h1)
theorem rankL_set {w : Nat} {g h : List Vc} (e : ∀ u, u ∈ g ↔ u ∈ h) : rankL w g = rankL w h :=
  rankL_span (fun u hu => .mem ((e u).1 hu)) (fun u hu => .mem ((e u).2 hu))
theorem rankL_mono {w : Nat} {g h : List Vc} (e : ∀ u ∈ g, Sp w (· ∈ h) u) : rankL w g ≤ rankL w h := (rankL_rk w g).le (rankL_rk w h) e
/-- One row more: the rank is the same exactly if the row depends on the others. -/
theorem rankL_snoc_in {w : Nat} {g : List Vc} {v : Vc} (h : Sp w (· ∈ g) v) : rankL w (g ++ [v]) = rankL w g :=
  rankL_eq (((rankL_rk w g).plus_in h).congr (fun u hu => .mem (by rcases hu with hu | rfl <;> simp [*])) (fun u hu => .mem (by rcases List.mem_append.1 hu with hu | hu; exact Or.inl hu; exact Or.inr (List.mem_singleton.1 hu))))
theorem rankL_snoc_out {w : Nat} {g : List Vc} {v : Vc} (h : ¬ Sp w (· ∈ g) v) : rankL w (g ++ [v]) = rankL w g + 1 :=
  rankL_eq (((rankL_rk w g).plus_out h).congr (fun u hu => .mem (by rcases hu with hu | rfl <;> simp [*])) (fun u hu => .mem (by rcases List.mem_append.1 hu with hu | hu; exact Or.inl hu; exact Or.inr (List.mem_singleton.1 hu))))
theorem rankL_snoc (w : Nat) (g : List Vc) (v : Vc) : rankL w (g ++ [v]) = rankL w g ∨ rankL w (g ++ [v]) = rankL w g + 1 := by
  by_cases h : Sp w (· ∈ g) v
  · exact Or.inl (rankL_snoc_in h)
  · exact Or.inr (rankL_snoc_out h)
theorem rankL_in {w : Nat} {g : List Vc} {v : Vc} : rankL w (g ++ [v]) = rankL w g ↔ Sp w (· ∈ g) v :=
  ⟨fun h => Classical.byContradiction fun hn => by have := rankL_snoc_out hn; omega, rankL_snoc_in⟩
theorem rankL_full {w : Nat} {g : List Vc} (h : rankL w g = w) (v : Vc) : Sp w (· ∈ g) v := by
  have := rankL_rk w g; rw [h] at this; exact this.full v
theorem rankL_of_full {w : Nat} {g : List Vc} (h : ∀ i, i < w → Sp w (· ∈ g) (unitV i)) : rankL w g = w := (rankL_rk w g).of_full h
/-- Without row k: the rank is the same or less by one. -/
theorem mem_erase {g : List Vc} {k : Nat} {v : Vc} (hk : g[k]? = some v) (u : Vc) : u ∈ (g.take k ++ g.drop (k + 1)) ++ [v] ↔ u ∈ g := by
  obtain ⟨hl, e⟩ := List.getElem?_eq_some_iff.1 hk
  have h1 : g = g.take k ++ (g[k] :: g.drop (k + 1)) := by rw [← List.drop_eq_getElem_cons hl, List.take_append_drop]
  conv => rhs; rw [h1, e]
  simp only [List.mem_append, List.mem_cons, List.not_mem_nil, or_false]
  constructor
  · rintro ((h | h) | h)
    · exact Or.inl h
    · exact Or.inr (Or.inr h)
    · exact Or.inr (Or.inl h)
  · rintro (h | h | h)
    · exact Or.inl (Or.inl h)
    · exact Or.inr h
    · exact Or.inl (Or.inr h)
theorem rankL_erase {w : Nat} {g : List Vc} {k : Nat} {v : Vc} (hk : g[k]? = some v) :
    rankL w g = rankL w (g.take k ++ g.drop (k + 1)) ∨ rankL w g = rankL w (g.take k ++ g.drop (k + 1)) + 1 := by
  have h1 : rankL w g = rankL w ((g.take k ++ g.drop (k + 1)) ++ [v]) := rankL_set fun u => (mem_erase hk u).symm
  rw [h1]; exact rankL_snoc w _ v
/-- A row that occurs twice may be left out. -/
theorem rankL_twice {w : Nat} {g : List Vc} {k : Nat} {v : Vc} (hk : g[k]? = some v) :
    rankL w ((g ++ [v]).take k ++ (g ++ [v]).drop (k + 1)) = rankL w (g ++ [v]) := by
  obtain ⟨hl, _⟩ := List.getElem?_eq_some_iff.1 hk
  refine rankL_set fun u => ?_
  rw [List.take_append_of_le_length (by omega), List.drop_append_of_le_length (by omega), ← List.append_assoc, mem_erase hk u]
  simp only [List.mem_append, List.mem_singleton]
  exact ⟨Or.inl, fun h => h.elim id fun e => e ▸ List.mem_of_getElem? hk⟩
theorem rankL_last {w : Nat} {g : List Vc} {k : Nat} {v : Vc} (hk : g[k]? = some v) :
    rankL w ((g ++ [v]).take g.length ++ (g ++ [v]).drop (g.length + 1)) = rankL w (g ++ [v]) := by
  refine rankL_set fun u => ?_
  rw [List.take_left, List.drop_eq_nil_of_le (by simp)]
  simp only [List.mem_append, List.mem_singleton, List.not_mem_nil, or_false]
  exact ⟨Or.inl, fun h => h.elim id fun e => e ▸ List.mem_of_getElem? hk⟩
end Go.Proofs.Ythcddboeejbncaa.Lin
