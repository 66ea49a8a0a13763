/- The lengths of shortest ways: what zone.lengths computes, and why it ends. Plain Lean. -/
import Derived.Test.YtplebibabcdipaaZon3
namespace Go.Proofs.Ytplebibabcdipaa
open Go.RowKit

theorem sum_set (l : List Nat) : ∀ (i a x : Nat), l[i]? = some x → (l.set i a).sum + x = l.sum + a := by
  induction l with
  | nil => intro i a x h; simp at h
  | cons y ys ih =>
    intro i a x h
    cases i with
    | zero => simp at h; subst h; simp; omega
    | succ i => simp at h ⊢; have := ih i a x h; omega
theorem sum_le_len (l : List Nat) (h : ∀ x ∈ l, x ≤ 1) : l.sum ≤ l.length := by
  induction l with
  | nil => simp
  | cons y ys ih => have := ih (fun x hx => h x (List.mem_cons_of_mem _ hx)); have := h y (List.mem_cons_self); simp; omega
/-- How many numbers are not negative. -/
def finN (d : List Int) : Nat := (d.map (fun x => if 0 ≤ x then 1 else 0)).sum
/-- What falls with each improvement. -/
def muN (d : List Int) : Nat := (d.map (fun x => if 0 ≤ x then x.toNat else 240000001)).sum
theorem finN_le (d : List Int) : finN d ≤ d.length := by
  have := sum_le_len (d.map (fun x => if 0 ≤ x then 1 else 0)) (fun x hx => by obtain ⟨y, _, rfl⟩ := List.mem_map.1 hx; split <;> omega)
  simpa [finN] using this
theorem finN_set {d : List Int} {v : Nat} {y x : Int} (hx : d[v]? = some x) (hy : 0 ≤ y) : finN (d.set v y) + (if 0 ≤ x then 1 else 0) = finN d + 1 := by
  unfold finN
  rw [List.map_set]
  have := sum_set (d.map (fun x => if 0 ≤ x then 1 else 0)) v (if 0 ≤ y then 1 else 0) (if 0 ≤ x then 1 else 0) (by simp [hx])
  rw [if_pos hy] at this ⊢
  exact this
theorem muN_set {d : List Int} {v : Nat} {y x : Int} (hx : d[v]? = some x) (hy : 0 ≤ y) : muN (d.set v y) + (if 0 ≤ x then x.toNat else 240000001) = muN d + y.toNat := by
  unfold muN
  rw [List.map_set]
  have := sum_set (d.map (fun x => if 0 ≤ x then x.toNat else 240000001)) v (if 0 ≤ y then y.toNat else 240000001) (if 0 ≤ x then x.toNat else 240000001) (by simp [hx])
  rw [if_pos hy] at this ⊢
  exact this
/-- Each number is bounded by how many numbers there are. -/
def Bd (d : List Int) : Prop := ∀ x ∈ d, x < 0 ∨ x + 10000000 ≤ finN d * 10000000
def hitB (x y len : Int) : Bool := decide (0 ≤ x) && (decide (y < 0) || decide (x + len < y))
/-- One improvement of v by u. -/
def relax (s : List Int × Bool) (u v : Nat) (len : Int) : List Int × Bool :=
  if hitB (s.1.getD u 0) (s.1.getD v 0) len = true then (s.1.set v (s.1.getD u 0 + len), true) else s
theorem relax_good {d : List Int} {q : Bool} {u v : Nat} {len : Int} {n : Nat} (hn : d.length = n) (h24 : n ≤ 24) (hd : Bd d) (hu : u < n) (hv : v < n) (hl0 : 0 ≤ len) (hl1 : len ≤ 10000000) :
    (relax (d, q) u v len).1.length = n ∧ Bd (relax (d, q) u v len).1 ∧ (relax (d, q) u v len = (d, q) ∨ ((relax (d, q) u v len).2 = true ∧ muN (relax (d, q) u v len).1 < muN d)) := by
  unfold relax
  split
  · rename_i h
    unfold hitB at h
    simp only [Bool.and_eq_true, Bool.or_eq_true, decide_eq_true_eq] at h
    obtain ⟨h1, h2⟩ := h
    simp only at *
    have hxu : d[u]? = some (d.getD u 0) := by rw [List.getD_eq_getElem?_getD, List.getElem?_eq_getElem (by omega)]; rfl
    have hxv : d[v]? = some (d.getD v 0) := by rw [List.getD_eq_getElem?_getD, List.getElem?_eq_getElem (by omega)]; rfl
    have bu := hd _ (List.mem_of_getElem? hxu)
    have bv := hd _ (List.mem_of_getElem? hxv)
    generalize d.getD u 0 = x at *
    generalize d.getD v 0 = y at *
    have f1 := finN_set (y := x + len) hxv (by omega)
    have m1 := muN_set (y := x + len) hxv (by omega)
    have fl := finN_le d
    have fz : (finN d : Int) ≤ 24 := by omega
    have hnew : x + len + 10000000 ≤ finN (d.set v (x + len)) * 10000000 := by
      split at f1
      · have : finN (d.set v (x + len)) = finN d := by omega
        rw [this]; omega
      · have : finN (d.set v (x + len)) = finN d + 1 := by omega
        rw [this]; push_cast; omega
    have hge : finN d ≤ finN (d.set v (x + len)) := by split at f1 <;> omega
    refine ⟨by simp [hn], ?_, Or.inr ⟨by first | rfl | trivial, ?_⟩⟩
    · intro z hz
      rcases List.mem_or_eq_of_mem_set hz with h | h
      · rcases hd z h with h | h
        · exact Or.inl h
        · right; have : (finN d : Int) ≤ finN (d.set v (x + len)) := by omega
          omega
      · right; rw [h]; exact hnew
    · show muN (d.set v (x + len)) < muN d
      split at m1 <;> omega
  · exact ⟨hn, hd, Or.inl rfl⟩
def relaxE (s : List Int × Bool) (e : Edg) : List Int × Bool := relax (relax s e.a.toNat e.b.toNat e.len) e.b.toNat e.a.toNat e.len
def passE (l : List Edg) (d : List Int) : List Int × Bool := l.foldl relaxE (d, false)
def EdgOk (n : Nat) (e : Edg) : Prop := 0 ≤ e.a ∧ e.a < n ∧ 0 ≤ e.b ∧ e.b < n ∧ 0 ≤ e.len ∧ e.len ≤ 10000000
/-- What holds of a list of lengths. -/
def DOk (n : Nat) (d : List Int) : Prop := d.length = n ∧ Bd d
theorem relaxE_good {n : Nat} {d : List Int} {q : Bool} {e : Edg} (h24 : n ≤ 24) (hd : DOk n d) (he : EdgOk n e) :
    DOk n (relaxE (d, q) e).1 ∧ (relaxE (d, q) e = (d, q) ∨ ((relaxE (d, q) e).2 = true ∧ muN (relaxE (d, q) e).1 < muN d)) := by
  obtain ⟨a0, a1, b0, b1, l0, l1⟩ := he
  obtain ⟨p1, p2, p3⟩ := relax_good (q := q) hd.1 h24 hd.2 (u := e.a.toNat) (v := e.b.toNat) (by omega) (by omega) l0 l1
  unfold relaxE
  generalize relax (d, q) e.a.toNat e.b.toNat e.len = s at *
  obtain ⟨d1, q1⟩ := s
  obtain ⟨r1, r2, r3⟩ := relax_good (q := q1) p1 h24 p2 (u := e.b.toNat) (v := e.a.toNat) (by omega) (by omega) l0 l1
  simp only at *
  generalize relax (d1, q1) e.b.toNat e.a.toNat e.len = s2 at *
  refine ⟨⟨r1, r2⟩, ?_⟩
  rcases p3 with h | ⟨h, h'⟩
  · cases h; exact r3
  · rcases r3 with k | ⟨k, k'⟩
    · subst k; exact Or.inr ⟨h, h'⟩
    · exact Or.inr ⟨k, by omega⟩
theorem foldE_good {n : Nat} (h24 : n ≤ 24) : ∀ (l : List Edg) (d : List Int) (q : Bool), (∀ e ∈ l, EdgOk n e) → DOk n d →
    DOk n (l.foldl relaxE (d, q)).1 ∧ (l.foldl relaxE (d, q) = (d, q) ∨ ((l.foldl relaxE (d, q)).2 = true ∧ muN (l.foldl relaxE (d, q)).1 < muN d)) := by
  intro l
  induction l with
  | nil => intro d q _ hd; exact ⟨hd, Or.inl rfl⟩
  | cons e es ih =>
    intro d q hl hd
    obtain ⟨h1, h2⟩ := relaxE_good (q := q) h24 hd (hl e List.mem_cons_self)
    show DOk n (es.foldl relaxE (relaxE (d, q) e)).1 ∧ _
    rw [List.foldl_cons]
    generalize relaxE (d, q) e = s at *
    obtain ⟨d1, q1⟩ := s
    obtain ⟨h3, h4⟩ := ih d1 q1 (fun x hx => hl x (List.mem_cons_of_mem _ hx)) h1
    refine ⟨h3, ?_⟩
    rcases h2 with h | ⟨h, h'⟩
    · cases h; exact h4
    · rcases h4 with k | ⟨k, k'⟩
      · rw [k]; exact Or.inr ⟨h, h'⟩
      · exact Or.inr ⟨k, by simp only at h'; omega⟩
/-- The passes, one after another, while something changes. -/
def lensF (l : List Edg) : Nat → List Int → List Int
  | 0, d => d
  | f + 1, d => if (passE l d).2 = true then lensF l f (passE l d).1 else (passE l d).1
theorem lensF_stable {n : Nat} (h24 : n ≤ 24) (l : List Edg) (hl : ∀ e ∈ l, EdgOk n e) : ∀ (f g : Nat) (d : List Int), DOk n d → muN d < f → muN d < g → lensF l f d = lensF l g d := by
  intro f
  induction f with
  | zero => intro g d _ h; omega
  | succ f ih =>
    intro g d hd h1 h2
    cases g with
    | zero => omega
    | succ g =>
      unfold lensF
      obtain ⟨h3, h4⟩ := foldE_good h24 l d false hl hd
      split
      · rename_i hq
        rcases h4 with h | ⟨_, h⟩
        · unfold passE at hq; rw [h] at hq; cases hq
        · exact ih g _ h3 (by unfold passE; omega) (by unfold passE; omega)
      · rfl
def lens (l : List Edg) (d : List Int) : List Int := lensF l (muN d + 1) d
theorem lens_step {n : Nat} (h24 : n ≤ 24) (l : List Edg) (hl : ∀ e ∈ l, EdgOk n e) (d : List Int) (hd : DOk n d) : lens l d = if (passE l d).2 = true then lens l (passE l d).1 else (passE l d).1 := by
  unfold lens
  conv => lhs; unfold lensF
  obtain ⟨h3, h4⟩ := foldE_good h24 l d false hl hd
  split
  · rename_i hq
    rcases h4 with h | ⟨_, h⟩
    · unfold passE at hq; rw [h] at hq; cases hq
    · exact lensF_stable h24 l hl _ _ _ h3 (by unfold passE; omega) (by omega)
  · rfl
/-- The list with which the passes begin. -/
def len0 (n : Nat) (s : Nat) : List Int := (List.replicate n (-1)).set s 0
theorem len0_ok {n s : Nat} (hs : s < n) : DOk n (len0 n s) := by
  refine ⟨by simp [len0], fun x hx => ?_⟩
  unfold len0 at hx
  rcases List.mem_or_eq_of_mem_set hx with h | h
  · left; rw [List.eq_of_mem_replicate h]; decide
  · right
    have := finN_set (d := List.replicate n (-1)) (v := s) (y := 0) (x := -1) (by simp [hs]) (by decide)
    simp at this
    subst h
    unfold len0
    omega
/-- Whether the passes end in time. -/
def endF (l : List Edg) : Nat → List Int → Bool
  | 0, _ => false
  | f + 1, d => if (passE l d).2 = true then endF l f (passE l d).1 else true
theorem lensF_end (l : List Edg) : ∀ (f g : Nat) (d : List Int), endF l f d = true → f ≤ g → lensF l g d = lensF l f d := by
  intro f
  induction f with
  | zero => intro g d h _; cases h
  | succ f ih =>
    intro g d h hg
    cases g with
    | zero => omega
    | succ g =>
      unfold lensF
      unfold endF at h
      split
      · rename_i hq
        rw [if_pos hq] at h
        exact ih g _ h (by omega)
      · rfl
theorem lens_eval {n : Nat} (h24 : n ≤ 24) (l : List Edg) (hl : ∀ e ∈ l, EdgOk n e) (f : Nat) (d : List Int) (hd : DOk n d) (he : endF l f d = true) : lens l d = lensF l f d := by
  unfold lens
  rcases Nat.lt_or_ge (muN d) f with h | h
  · exact lensF_stable h24 l hl _ _ _ hd (Nat.lt_succ_self _) h
  · exact lensF_end l f _ d he (by omega)
end Go.Proofs.Ytplebibabcdipaa
