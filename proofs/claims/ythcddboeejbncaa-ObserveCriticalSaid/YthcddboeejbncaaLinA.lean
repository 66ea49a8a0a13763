/- Plain: sums, spans, ranks of vectors of rational numbers. -/
namespace Go.Proofs.Ythcddboeejbncaa.Lin

/-- The sum of f over all i < n. -/
def sumN : Nat → (Nat → Rat) → Rat
  | 0, _ => 0
  | n + 1, f => sumN n f + f n

theorem sumN_congr : ∀ {n : Nat} {f g : Nat → Rat}, (∀ i, i < n → f i = g i) → sumN n f = sumN n g
  | 0, _, _, _ => rfl
  | n + 1, f, g, h => by
    show sumN n f + f n = sumN n g + g n
    rw [sumN_congr (fun i hi => h i (Nat.lt_succ_of_lt hi)), h n (Nat.lt_succ_self n)]
theorem sumN_add : ∀ (n : Nat) (f g : Nat → Rat), sumN n (fun i => f i + g i) = sumN n f + sumN n g
  | 0, _, _ => by show (0 : Rat) = 0 + 0; grind
  | n + 1, f, g => by
    show sumN n (fun i => f i + g i) + (f n + g n) = (sumN n f + f n) + (sumN n g + g n)
    rw [sumN_add n f g]; grind
theorem sumN_mul : ∀ (n : Nat) (c : Rat) (f : Nat → Rat), sumN n (fun i => c * f i) = c * sumN n f
  | 0, c, _ => by show (0 : Rat) = c * 0; grind
  | n + 1, c, f => by
    show sumN n (fun i => c * f i) + c * f n = c * (sumN n f + f n)
    rw [sumN_mul n c f]; grind
theorem sumN_zero : ∀ (n : Nat) {f : Nat → Rat}, (∀ i, i < n → f i = 0) → sumN n f = 0
  | 0, _, _ => rfl
  | n + 1, f, h => by
    show sumN n f + f n = 0
    rw [sumN_zero n (fun i hi => h i (Nat.lt_succ_of_lt hi)), h n (Nat.lt_succ_self n)]; grind
theorem sumN_single : ∀ (n : Nat) {f : Nat → Rat} {k : Nat}, k < n → (∀ i, i < n → i ≠ k → f i = 0) → sumN n f = f k
  | 0, _, _, hk, _ => absurd hk (Nat.not_lt_zero _)
  | n + 1, f, k, hk, h => by
    show sumN n f + f n = f k
    by_cases e : k = n
    · subst e
      rw [sumN_zero k (fun i hi => h i (by omega) (by omega))]; grind
    · rw [sumN_single n (k := k) (by omega) (fun i hi => h i (by omega)), h n (by omega) (by omega)]; grind
theorem sumN_swap : ∀ (n m : Nat) (f : Nat → Nat → Rat), sumN n (fun i => sumN m (fun j => f i j)) = sumN m (fun j => sumN n (fun i => f i j))
  | 0, m, f => by
    show (0 : Rat) = sumN m (fun j => 0)
    rw [sumN_zero m (fun _ _ => rfl)]
  | n + 1, m, f => by
    show sumN n (fun i => sumN m (fun j => f i j)) + sumN m (fun j => f n j) = sumN m (fun j => sumN n (fun i => f i j) + f n j)
    rw [sumN_swap n m f, ← sumN_add]
theorem sumN_sub (n : Nat) (f g : Nat → Rat) : sumN n (fun i => f i - g i) = sumN n f - sumN n g := by
  have h1 : sumN n (fun i => f i - g i) = sumN n (fun i => f i + (-1) * g i) := sumN_congr (fun i _ => by grind)
  rw [h1, sumN_add, sumN_mul]; grind
theorem sumN_nonneg : ∀ (n : Nat) {f : Nat → Rat}, (∀ i, i < n → 0 ≤ f i) → 0 ≤ sumN n f
  | 0, _, _ => Rat.le_refl
  | n + 1, f, h => by
    show 0 ≤ sumN n f + f n
    have := sumN_nonneg n (fun i hi => h i (Nat.lt_succ_of_lt hi))
    have := h n (Nat.lt_succ_self n)
    grind
theorem sumN_eq_zero : ∀ (n : Nat) {f : Nat → Rat}, (∀ i, i < n → 0 ≤ f i) → sumN n f = 0 → ∀ i, i < n → f i = 0
  | 0, _, _, _, i, hi => absurd hi (Nat.not_lt_zero _)
  | n + 1, f, h, hs, i, hi => by
    have h1 := sumN_nonneg n (fun i hi => h i (Nat.lt_succ_of_lt hi))
    have h2 := h n (Nat.lt_succ_self n)
    have hs' : sumN n f + f n = 0 := hs
    have h3 : sumN n f = 0 := by grind
    have h4 : f n = 0 := by grind
    by_cases e : i = n
    · rw [e]; exact h4
    · exact sumN_eq_zero n (fun i hi => h i (Nat.lt_succ_of_lt hi)) h3 i (by omega)
/-- A term taken out of the sum. -/
theorem sumN_out : ∀ (n : Nat) (f : Nat → Rat) {k : Nat}, k < n → sumN n f = sumN n (fun i => if i = k then 0 else f i) + f k
  | 0, _, _, hk => absurd hk (Nat.not_lt_zero _)
  | n + 1, f, k, hk => by
    show sumN n f + f n = (sumN n (fun i => if i = k then 0 else f i) + (if n = k then 0 else f n)) + f k
    by_cases e : k = n
    · subst e
      rw [if_pos rfl, sumN_congr (n := k) (f := fun i => if i = k then 0 else f i) (g := f) (fun i hi => if_neg (by omega))]; grind
    · rw [if_neg (Ne.symm e), sumN_out n f (k := k) (by omega)]; grind

/-- More unknowns than equations: there is a solution that is not zero. -/
theorem hom : ∀ (q : Nat) (a : Nat → Nat → Rat), ∃ x : Nat → Rat, (∃ i, i < q + 1 ∧ x i ≠ 0) ∧ ∀ j, j < q → sumN (q + 1) (fun i => x i * a i j) = 0
  | 0, _ => ⟨fun _ => 1, ⟨0, Nat.zero_lt_one, by decide⟩, fun _ h => absurd h (Nat.not_lt_zero _)⟩
  | q + 1, a => by
    by_cases hz : ∀ i, i < q + 2 → a i q = 0
    · -- the last equation says nothing
      obtain ⟨x, ⟨i, hi, hx⟩, h⟩ := hom q a
      refine ⟨fun k => if k < q + 1 then x k else 0, ⟨i, by omega, by simp [hi, hx]⟩, fun j hj => ?_⟩
      show sumN (q + 1) (fun i => (if i < q + 1 then x i else 0) * a i j) + (if q + 1 < q + 1 then x (q + 1) else 0) * a (q + 1) j = 0
      rw [if_neg (Nat.lt_irrefl _), sumN_congr (g := fun i => x i * a i j) (fun i hi => by rw [if_pos hi])]
      by_cases e : j = q
      · subst e
        rw [sumN_zero _ (fun i hi => by rw [hz i (by omega)]; grind)]; grind
      · rw [h j (by omega)]; grind
    · -- the unknown p is eliminated by the last equation
      have ⟨p, hp, hpa⟩ : ∃ p, p < q + 2 ∧ a p q ≠ 0 := by
        apply Classical.byContradiction; intro hn
        exact hz fun i hi => Classical.byContradiction fun h => hn ⟨i, hi, h⟩
      -- the others are numbered anew: the last one takes p's place
      let s : Nat → Nat := fun i => if i = p then q + 1 else i
      obtain ⟨x, ⟨i, hi, hx⟩, h⟩ := hom q (fun i j => a (s i) j - a (s i) q * a p j / a p q)
      let S : Rat := sumN (q + 1) (fun i => x i * a (s i) q)
      let y : Nat → Rat := fun k => if k = p then - S / a p q else if k = q + 1 then x p else x k
      have hy : ∀ j, sumN (q + 2) (fun i => y i * a i j) = sumN (q + 1) (fun i => x i * a (s i) j) + (- S / a p q) * a p j := by
        intro j
        show sumN (q + 1) (fun i => y i * a i j) + y (q + 1) * a (q + 1) j = _
        by_cases e : p = q + 1
        · have h1 : y (q + 1) = - S / a p q := by show (if q + 1 = p then _ else _) = _; rw [if_pos e.symm]
          rw [h1, ← e]
          congr 1
          refine sumN_congr fun i hi => ?_
          show (if i = p then _ else if i = q + 1 then _ else x i) * a i j = x i * a (if i = p then q + 1 else i) j
          rw [if_neg (by omega), if_neg (by omega), if_neg (by omega)]
        · have h1 : y (q + 1) = x p := by show (if q + 1 = p then _ else if q + 1 = q + 1 then _ else _) = _; rw [if_neg (Ne.symm e), if_pos rfl]
          have hp' : p < q + 1 := by omega
          rw [h1, sumN_out (q + 1) (fun i => y i * a i j) hp', sumN_out (q + 1) (fun i => x i * a (s i) j) hp']
          have h2 : s p = q + 1 := if_pos rfl
          have h3 : y p = - S / a p q := if_pos rfl
          rw [h2, h3, sumN_congr (n := q + 1) (f := fun i => if i = p then 0 else y i * a i j) (g := fun i => if i = p then 0 else x i * a (s i) j) (fun i hi => ?_)]
          · grind
          · by_cases e2 : i = p
            · rw [if_pos e2, if_pos e2]
            · rw [if_neg e2, if_neg e2]
              show (if i = p then _ else if i = q + 1 then _ else x i) * a i j = x i * a (if i = p then q + 1 else i) j
              rw [if_neg e2, if_neg (by omega), if_neg e2]
      refine ⟨y, ?_, fun j hj => ?_⟩
      · by_cases e : i = p
        · by_cases e2 : p = q + 1
          · omega
          · exact ⟨q + 1, by omega, by show (if q + 1 = p then _ else if q + 1 = q + 1 then x p else _) ≠ 0; rw [if_neg (Ne.symm e2), if_pos rfl, ← e]; exact hx⟩
        · exact ⟨i, by omega, by show (if i = p then _ else if i = q + 1 then _ else x i) ≠ 0; rw [if_neg e, if_neg (by omega)]; exact hx⟩
      · rw [hy j]
        by_cases e : j = q
        · subst e
          show S + (- S / a p j) * a p j = 0
          have : (- S / a p j) * a p j = - S := by grind
          rw [this]; grind
        · have h1 := h j (by omega)
          have h2 : sumN (q + 1) (fun i => x i * (a (s i) j - a (s i) q * a p j / a p q)) = sumN (q + 1) (fun i => x i * a (s i) j) - (a p j / a p q) * S := by
            rw [← sumN_mul (q + 1) (a p j / a p q) (fun i => x i * a (s i) q), ← sumN_sub]
            exact sumN_congr fun i _ => by grind
          rw [h2] at h1
          grind
abbrev Vc := Nat → Rat
/-- The span of a set of vectors, on the first n coordinates. -/
inductive Sp (n : Nat) (S : Vc → Prop) : Vc → Prop
  | zero {v : Vc} : (∀ k, k < n → v k = 0) → Sp n S v
  | step {u v w : Vc} (c : Rat) : S u → Sp n S v → (∀ k, k < n → w k = c * u k + v k) → Sp n S w

theorem Sp.congr {n : Nat} {S : Vc → Prop} {v w : Vc} (h : Sp n S v) (e : ∀ k, k < n → w k = v k) : Sp n S w := by
  cases h with
  | zero h => exact .zero fun k hk => by rw [e k hk, h k hk]
  | step c hu hv h => exact .step c hu hv fun k hk => by rw [e k hk, h k hk]
theorem Sp.mem {n : Nat} {S : Vc → Prop} {v : Vc} (h : S v) : Sp n S v := .step 1 h (.zero (v := fun _ => 0) fun _ _ => rfl) fun k _ => by grind
theorem Sp.add {n : Nat} {S : Vc → Prop} {u v : Vc} (hu : Sp n S u) (hv : Sp n S v) : Sp n S (fun k => u k + v k) := by
  induction hu generalizing v with
  | zero h => exact hv.congr fun k hk => by rw [h k hk]; grind
  | step c h1 _ h3 ih => exact .step c h1 (ih hv) fun k hk => by rw [h3 k hk]; grind
theorem Sp.smul {n : Nat} {S : Vc → Prop} {v : Vc} (c : Rat) (hv : Sp n S v) : Sp n S (fun k => c * v k) := by
  induction hv with
  | zero h => exact .zero fun k hk => by show c * _ = 0; rw [h k hk]; grind
  | step d h1 _ h3 ih => exact .step (c * d) h1 ih fun k hk => by rw [h3 k hk]; grind
theorem Sp.trans {n : Nat} {S T : Vc → Prop} {v : Vc} (h : Sp n S v) (hs : ∀ u, S u → Sp n T u) : Sp n T v := by
  induction h with
  | zero h => exact .zero h
  | step c h1 _ h3 ih => exact ((Sp.smul c (hs _ h1)).add ih).congr h3
theorem Sp.mono {n : Nat} {S T : Vc → Prop} {v : Vc} (h : Sp n S v) (hs : ∀ u, S u → T u) : Sp n T v := h.trans fun u hu => .mem (hs u hu)
theorem Sp.sum {n : Nat} {S : Vc → Prop} : ∀ (m : Nat) (c : Nat → Rat) (M : Nat → Vc), (∀ i, i < m → Sp n S (M i)) → Sp n S (fun k => sumN m (fun i => c i * M i k))
  | 0, _, _, _ => .zero fun _ _ => rfl
  | m + 1, c, M, h => (Sp.sum m c M fun i hi => h i (Nat.lt_succ_of_lt hi)).add (Sp.smul (c m) (h m (Nat.lt_succ_self m)))
/-- The rows of a matrix. -/
def Rows (m : Nat) (M : Nat → Vc) : Vc → Prop := fun u => ∃ i, i < m ∧ u = M i
theorem Sp.coef {n m : Nat} {M : Nat → Vc} {v : Vc} (h : Sp n (Rows m M) v) : ∃ c : Nat → Rat, ∀ k, k < n → v k = sumN m (fun i => c i * M i k) := by
  induction h with
  | zero h => exact ⟨fun _ => 0, fun k hk => by rw [h k hk, sumN_zero]; intro i _; grind⟩
  | step d h1 _ h3 ih =>
    obtain ⟨c, hc⟩ := ih
    obtain ⟨i, hi, rfl⟩ := h1
    refine ⟨fun j => (if j = i then d else 0) + c j, fun k hk => ?_⟩
    rw [h3 k hk, hc k hk]
    rw [sumN_congr (n := m) (f := fun j => ((if j = i then d else 0) + c j) * M j k) (g := fun j => (if j = i then d else 0) * M j k + c j * M j k) (fun j _ => by grind), sumN_add,
      sumN_single m (f := fun j => (if j = i then d else 0) * M j k) (k := i) hi (fun j _ hn => by show (if j = i then d else 0) * M j k = 0; rw [if_neg hn]; grind)]
    show _ = (if i = i then d else 0) * M i k + _
    rw [if_pos rfl]
/-- Independent rows. -/
def Ind (n m : Nat) (M : Nat → Vc) : Prop := ∀ c : Nat → Rat, (∀ k, k < n → sumN m (fun i => c i * M i k) = 0) → ∀ i, i < m → c i = 0
theorem exch {n p q : Nat} {B S : Nat → Vc} (hB : Ind n p B) (h : ∀ i, i < p → Sp n (Rows q S) (B i)) : p ≤ q := by
  apply Classical.byContradiction; intro hn
  have ha : ∀ i, ∃ c : Nat → Rat, i < p → ∀ k, k < n → B i k = sumN q (fun j => c j * S j k) := fun i => by
    by_cases hi : i < p
    · obtain ⟨c, hc⟩ := (h i hi).coef
      exact ⟨c, fun _ => hc⟩
    · exact ⟨fun _ => 0, fun h => absurd h hi⟩
  let a : Nat → Nat → Rat := fun i => Classical.choose (ha i)
  have hh : ∀ i, i < p → ∀ k, k < n → B i k = sumN q (fun j => a i j * S j k) := fun i => Classical.choose_spec (ha i)
  obtain ⟨x, ⟨i, hi, hx⟩, hz⟩ := hom q a
  refine hx ?_
  have := hB (fun i => if i < q + 1 then x i else 0) (fun k hk => ?_) i (by omega)
  · simpa [hi] using this
  have h1 : sumN p (fun i => (if i < q + 1 then x i else 0) * B i k) = sumN p (fun i => sumN q (fun j => ((if i < q + 1 then x i else 0) * a i j) * S j k)) := sumN_congr fun i hi => by
    show _ * B i k = _
    rw [hh i hi k hk, ← sumN_mul]
    exact sumN_congr fun j _ => by grind
  rw [h1, sumN_swap]
  refine sumN_zero q fun j hj => ?_
  have h2 : sumN p (fun i => ((if i < q + 1 then x i else 0) * a i j) * S j k) = S j k * sumN p (fun i => (if i < q + 1 then x i else 0) * a i j) := by
    rw [← sumN_mul]; exact sumN_congr fun i _ => by grind
  have h3 : ∀ p, q + 1 ≤ p → sumN p (fun i => (if i < q + 1 then x i else 0) * a i j) = sumN (q + 1) (fun i => x i * a i j) := by
    intro p hp
    induction p with
    | zero => omega
    | succ p ih =>
      by_cases e : p + 1 = q + 1
      · rw [e]; exact sumN_congr fun i hi => by rw [if_pos hi]
      · show sumN p _ + (if p < q + 1 then x p else 0) * a p j = _
        rw [ih (by omega), if_neg (by omega)]; grind
  show sumN p (fun i => ((if i < q + 1 then x i else 0) * a i j) * S j k) = 0
  rw [h2, h3 p (by omega), hz j hj]; grind
/-- The rank of a set of vectors. -/
def Rk (n : Nat) (S : Vc → Prop) (r : Nat) : Prop := ∃ B : Nat → Vc, Ind n r B ∧ (∀ i, i < r → Sp n S (B i)) ∧ ∀ u, S u → Sp n (Rows r B) u
theorem Rk.le {n r q : Nat} {S T : Vc → Prop} (h : Rk n S r) (k : Rk n T q) (hs : ∀ u, S u → Sp n T u) : r ≤ q := by
  obtain ⟨B, h1, h2, _⟩ := h
  obtain ⟨C, _, _, k3⟩ := k
  exact exch h1 fun i hi => ((h2 i hi).trans hs).trans k3
theorem Rk.uniq {n r q : Nat} {S : Vc → Prop} (h : Rk n S r) (k : Rk n S q) : r = q :=
  Nat.le_antisymm (h.le k fun _ hu => .mem hu) (k.le h fun _ hu => .mem hu)
theorem Rk.congr {n r : Nat} {S T : Vc → Prop} (h : Rk n S r) (h1 : ∀ u, S u → Sp n T u) (h2 : ∀ u, T u → Sp n S u) : Rk n T r := by
  obtain ⟨B, b1, b2, b3⟩ := h
  exact ⟨B, b1, fun i hi => (b2 i hi).trans h1, fun _ hu => (h2 _ hu).trans b3⟩
/-- The rank is at most the number of rows. -/
theorem Rk.le_rows {n r m : Nat} {M : Nat → Vc} (h : Rk n (Rows m M) r) : r ≤ m := by
  obtain ⟨B, h1, h2, _⟩ := h
  exact exch h1 h2
/-- The unit vectors. -/
def unitV (i : Nat) : Vc := fun k => if k = i then 1 else 0
theorem span_unit {n : Nat} (v : Vc) : Sp n (Rows n unitV) v :=
  (Sp.sum n v unitV fun i hi => .mem ⟨i, hi, rfl⟩).congr fun k hk => by
    rw [sumN_single n (k := k) hk (fun i _ hn => by show v i * (if k = i then 1 else 0) = 0; rw [if_neg (Ne.symm hn)]; grind)]
    show v k = v k * (if k = k then 1 else 0)
    rw [if_pos rfl]; grind
theorem ind_unit (n : Nat) : Ind n n unitV := fun c h i hi => by
  have := h i hi
  rw [sumN_single n (k := i) hi (fun j _ hn => by show c j * (if i = j then 1 else 0) = 0; rw [if_neg (Ne.symm hn)]; grind)] at this
  have e : c i * unitV i i = c i := by show c i * (if i = i then 1 else 0) = c i; rw [if_pos rfl]; grind
  rw [e] at this; exact this
theorem Rk.le_n {n r : Nat} {S : Vc → Prop} (h : Rk n S r) : r ≤ n := by
  obtain ⟨B, h1, _, _⟩ := h
  exact exch h1 fun i _ => span_unit (B i)
/-- One vector more. -/
def Plus (S : Vc → Prop) (v : Vc) : Vc → Prop := fun u => S u ∨ u = v
theorem Ind.plus {n r : Nat} {B : Nat → Vc} {v : Vc} (h : Ind n r B) (hv : ¬ Sp n (Rows r B) v) : Ind n (r + 1) (fun i => if i < r then B i else v) := by
  intro c hc
  have hsum : ∀ k, k < n → sumN r (fun i => c i * B i k) + c r * v k = 0 := fun k hk => by
    have h1 := hc k hk
    have h2 : sumN (r + 1) (fun i => c i * (if i < r then B i else v) k) = sumN r (fun i => c i * B i k) + c r * v k := by
      show sumN r (fun i => c i * (if i < r then B i else v) k) + c r * (if r < r then B r else v) k = _
      rw [if_neg (Nat.lt_irrefl r), sumN_congr (g := fun i => c i * B i k) (fun i hi => by rw [if_pos hi])]
    rw [h2] at h1; exact h1
  have hr : c r = 0 := by
    apply Classical.byContradiction; intro hn
    refine hv (((Sp.sum r (fun i => - c i / c r) B fun i hi => .mem ⟨i, hi, rfl⟩)).congr fun k hk => ?_)
    have h1 := hsum k hk
    have h2 : sumN r (fun i => - c i / c r * B i k) = (- 1 / c r) * sumN r (fun i => c i * B i k) := by
      rw [← sumN_mul]; exact sumN_congr fun i _ => by grind
    rw [h2]; grind
  intro i hi
  by_cases e : i = r
  · rw [e]; exact hr
  · exact h c (fun k hk => by have := hsum k hk; rw [hr] at this; grind) i (by omega)
theorem Rk.plus_in {n r : Nat} {S : Vc → Prop} {v : Vc} (h : Rk n S r) (hv : Sp n S v) : Rk n (Plus S v) r :=
  h.congr (fun _ hu => .mem (Or.inl hu)) (fun _ hu => hu.elim .mem (fun e => e ▸ hv))
theorem Rk.plus_out {n r : Nat} {S : Vc → Prop} {v : Vc} (h : Rk n S r) (hv : ¬ Sp n S v) : Rk n (Plus S v) (r + 1) := by
  obtain ⟨B, b1, b2, b3⟩ := h
  refine ⟨fun i => if i < r then B i else v, b1.plus fun hs => hv (hs.trans fun u ⟨i, hi, e⟩ => e ▸ b2 i hi), fun i hi => ?_, fun u hu => ?_⟩
  · show Sp n (Plus S v) (if i < r then B i else v)
    by_cases e : i < r
    · rw [if_pos e]; exact (b2 i e).mono fun _ => Or.inl
    · rw [if_neg e]; exact .mem (Or.inr rfl)
  · rcases hu with hu | rfl
    · exact (b3 u hu).mono fun x ⟨i, hi, e⟩ => ⟨i, by omega, by show x = if i < r then B i else v; rw [if_pos hi]; exact e⟩
    · exact .mem ⟨r, by omega, by show u = if r < r then B r else u; rw [if_neg (Nat.lt_irrefl r)]⟩
theorem Rk.empty {n : Nat} {S : Vc → Prop} (h : ∀ u, ¬ S u) : Rk n S 0 := ⟨fun _ _ => 0, fun _ _ _ hi => absurd hi (Nat.not_lt_zero _), fun _ hi => absurd hi (Nat.not_lt_zero _), fun u hu => absurd hu (h u)⟩
/-- The rank is n exactly if all vectors are spanned. -/
theorem Rk.full {n : Nat} {S : Vc → Prop} (h : Rk n S n) (v : Vc) : Sp n S v := by
  apply Classical.byContradiction; intro hv
  have := (h.plus_out hv).le_n
  omega
theorem Rk.of_full {n r : Nat} {S : Vc → Prop} (h : Rk n S r) (hs : ∀ i, i < n → Sp n S (unitV i)) : r = n := by
  obtain ⟨B, b1, b2, b3⟩ := h
  exact Nat.le_antisymm (exch b1 fun i _ => span_unit (B i)) (exch (ind_unit n) fun i hi => (hs i hi).trans b3)
/-- Equal ranks, and one span within the other: the spans are equal. -/
theorem Rk.same {n r : Nat} {S T : Vc → Prop} (h : Rk n S r) (k : Rk n T r) (hs : ∀ u, S u → Sp n T u) {v : Vc} (hv : Sp n T v) : Sp n S v := by
  apply Classical.byContradiction; intro hn
  have := (h.plus_out hn).le k (fun u hu => hu.elim (hs u) (fun e => e ▸ hv))
  omega
end Go.Proofs.Ythcddboeejbncaa.Lin
