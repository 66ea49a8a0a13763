/- journal: the order of events is total; a sorted row in memory. -/
import Derived.Test.YtjakhgilkogcnaaDoorJr2
import Derived.Shelf.SlSortCmp.InsertionK
namespace Go.Proofs.YtjakhgilkogcnaaDoor
open Go.RowKit Go.Sort

instance : Inhabited Ev := ⟨⟨0, .empty, .empty, 0⟩⟩
theorem less_irr : ∀ a : List UInt8, Op.bytesLess a a = false := by
  intro a
  induction a with
  | nil => rfl
  | cons x xs ih => simp [Op.bytesLess, ih]
theorem less_tri : ∀ a b : List UInt8, Op.bytesLess a b = false → Op.bytesLess b a = false → a = b := by
  intro a
  induction a with
  | nil => intro b h; cases b with
    | nil => intro _; rfl
    | cons y ys => simp [Op.bytesLess] at h
  | cons x xs ih =>
    intro b
    cases b with
    | nil => intro _ h; simp [Op.bytesLess] at h
    | cons y ys =>
      intro h1 h2
      simp only [Op.bytesLess, Bool.or_eq_false_iff, Bool.and_eq_false_iff, decide_eq_false_iff_not, beq_eq_false_iff_ne] at h1 h2
      have e : x = y := by
        rcases UInt8.lt_or_eq_of_le (UInt8.not_lt.1 h1.1) with h | h
        · exact absurd h h2.1
        · exact h.symm
      subst e
      rw [ih ys (h1.2.resolve_left (fun h => h rfl)) (h2.2.resolve_left (fun h => h rfl))]
theorem less_trans : ∀ a b c : List UInt8, Op.bytesLess a b = true → Op.bytesLess b c = true → Op.bytesLess a c = true := by
  intro a
  induction a with
  | nil => intro b c h1 h2; cases b with
    | nil => simp [Op.bytesLess] at h1
    | cons y ys => cases c with
      | nil => simp [Op.bytesLess] at h2
      | cons z zs => rfl
  | cons x xs ih =>
    intro b c h1 h2
    cases b with
    | nil => simp [Op.bytesLess] at h1
    | cons y ys =>
      cases c with
      | nil => simp [Op.bytesLess] at h2
      | cons z zs =>
        simp only [Op.bytesLess, Bool.or_eq_true, Bool.and_eq_true, decide_eq_true_eq, beq_iff_eq] at h1 h2 ⊢
        rcases h1 with h1 | ⟨rfl, h1⟩
        · rcases h2 with h2 | ⟨rfl, h2⟩
          · exact Or.inl (UInt8.lt_trans h1 h2)
          · exact Or.inl h1
        · rcases h2 with h2 | ⟨rfl, h2⟩
          · exact Or.inl h2
          · exact Or.inr ⟨rfl, ih ys zs h1 h2⟩
theorem toList_inj {a b : ByteArray} (h : a.toList = b.toList) : a = b := (Lib.bytes_beq_iff a b).1 (by simp [h])
theorem cmpI_flip (a b : Int) : cmpI b a = -cmpI a b := by unfold cmpI; split <;> split <;> first | omega | rfl
theorem cmpI_zero {a b : Int} : cmpI a b = 0 ↔ a = b := by unfold cmpI; split <;> (try split) <;> omega
theorem cmpS_cases (a b : ByteArray) : (lessS a b = true ∧ cmpS a b = -1) ∨ (a = b ∧ cmpS a b = 0) ∨ (lessS b a = true ∧ cmpS a b = 1) := by
  unfold cmpS
  cases h1 : lessS a b
  · cases h2 : lessS b a
    · have := less_tri _ _ h1 h2
      exact Or.inr (Or.inl ⟨toList_inj this, by simp [this]⟩)
    · refine Or.inr (Or.inr ⟨rfl, ?_⟩)
      have hne : (a.toList == b.toList) = false := by
        rw [beq_eq_false_iff_ne]; intro e
        unfold lessS at h2; rw [e, less_irr] at h2; cases h2
      rw [hne]; rfl
  · exact Or.inl ⟨rfl, by simp⟩
theorem lessS_asym {a b : ByteArray} (h : lessS a b = true) : lessS b a = false := by
  cases h2 : lessS b a
  · rfl
  · have := less_trans _ _ _ h h2
    rw [less_irr] at this; cases this
theorem cmpS_flip (a b : ByteArray) : cmpS b a = -cmpS a b := by
  rcases cmpS_cases a b with ⟨h, e⟩ | ⟨rfl, e⟩ | ⟨h, e⟩
  · rcases cmpS_cases b a with ⟨h', e'⟩ | ⟨rfl, e'⟩ | ⟨h', e'⟩
    · rw [lessS_asym h] at h'; cases h'
    · unfold lessS at h; rw [less_irr] at h; cases h
    · rw [e, e']; rfl
  · rw [e]; rfl
  · rcases cmpS_cases b a with ⟨h', e'⟩ | ⟨rfl, e'⟩ | ⟨h', e'⟩
    · rw [e, e']
    · unfold lessS at h; rw [less_irr] at h; cases h
    · rw [lessS_asym h] at h'; cases h'
theorem cmpS_zero {a b : ByteArray} : cmpS a b = 0 ↔ a = b := by
  rcases cmpS_cases a b with ⟨h, e⟩ | ⟨rfl, e⟩ | ⟨h, e⟩
  · rw [e]; refine ⟨fun h => by omega, fun h' => ?_⟩
    subst h'; unfold lessS at h; rw [less_irr] at h; cases h
  · exact ⟨fun _ => rfl, fun _ => e⟩
  · rw [e]; refine ⟨fun h => by omega, fun h' => ?_⟩
    subst h'; unfold lessS at h; rw [less_irr] at h; cases h
theorem cmpS_trans {a b c : ByteArray} (h1 : cmpS a b ≤ 0) (h2 : cmpS b c ≤ 0) : cmpS a c ≤ 0 ∧ (cmpS a b < 0 ∨ cmpS b c < 0 → cmpS a c < 0) := by
  rcases cmpS_cases a b with ⟨h, e⟩ | ⟨rfl, e⟩ | ⟨h, e⟩
  · rcases cmpS_cases b c with ⟨h', e'⟩ | ⟨rfl, e'⟩ | ⟨h', e'⟩
    · have h3 : lessS a c = true := less_trans _ _ _ h h'
      have : cmpS a c = -1 := by unfold cmpS; rw [h3]; rfl
      rw [this]; exact ⟨by omega, fun _ => by omega⟩
    · rw [e]; exact ⟨by omega, fun _ => by omega⟩
    · omega
  · exact ⟨h2, fun h => by omega⟩
  · omega
theorem cmpI_trans {a b c : Int} (h1 : cmpI a b ≤ 0) (h2 : cmpI b c ≤ 0) : cmpI a c ≤ 0 ∧ (cmpI a b < 0 ∨ cmpI b c < 0 → cmpI a c < 0) := by
  unfold cmpI at *
  split at h1 <;> split at h2 <;> (try split at h1) <;> (try split at h2) <;> split <;> (try split) <;> omega
/-- The sign of the first that is not 0. -/
theorem orI_cases (a b c d : Int) : orI [a, b, c, d] = if a ≠ 0 then a else if b ≠ 0 then b else if c ≠ 0 then c else d := by
  unfold orI; split
  · rfl
  · unfold orI; split
    · rfl
    · unfold orI; split
      · rfl
      · unfold orI; split
        · rfl
        · rename_i h; unfold orI; omega
theorem cmpE_flip (x y : Ev) : cmpE y x = -cmpE x y := by
  unfold cmpE
  rw [orI_cases, orI_cases, cmpI_flip x.t, cmpS_flip x.k, cmpS_flip x.n, cmpI_flip x.v]
  generalize cmpI x.t y.t = a; generalize cmpS x.k y.k = b; generalize cmpS x.n y.n = c; generalize cmpI x.v y.v = d
  by_cases h1 : a = 0
  · by_cases h2 : b = 0
    · by_cases h3 : c = 0
      · simp [h1, h2, h3]
      · have : -c ≠ 0 := by omega
        simp [h1, h2, h3]
    · have : -b ≠ 0 := by omega
      simp [h1, h2]
  · have : -a ≠ 0 := by omega
    simp [h1]
theorem cmpE_zero {x y : Ev} : cmpE x y = 0 ↔ x = y := by
  unfold cmpE
  rw [orI_cases]
  constructor
  · intro h
    split at h
    · rename_i h1; exact absurd h h1
    · rename_i h1
      split at h
      · rename_i h2; exact absurd h h2
      · rename_i h2
        split at h
        · rename_i h3; exact absurd h h3
        · rename_i h3
          have e1 := cmpI_zero.1 (Decidable.not_not.1 h1)
          have e2 := cmpS_zero.1 (Decidable.not_not.1 h2)
          have e3 := cmpS_zero.1 (Decidable.not_not.1 h3)
          have e4 := cmpI_zero.1 h
          cases x; cases y; simp_all
  · rintro rfl
    rw [cmpI_zero.2 rfl, cmpS_zero.2 rfl, cmpS_zero.2 rfl, cmpI_zero.2 rfl]; simp
def PT (a b c : Int) : Prop := (a ≤ 0 → b ≤ 0 → c ≤ 0 ∧ (a < 0 ∨ b < 0 → c < 0)) ∧ (a = 0 → b = 0 → c = 0)
theorem PT.lex {a b c r s t : Int} (h : PT a b c) (k : PT r s t) : PT (if a ≠ 0 then a else r) (if b ≠ 0 then b else s) (if c ≠ 0 then c else t) := by
  unfold PT at *
  split <;> split <;> split <;> omega
theorem PT.I (a b c : Int) : PT (cmpI a b) (cmpI b c) (cmpI a c) := ⟨cmpI_trans, fun h k => cmpI_zero.2 ((cmpI_zero.1 h).trans (cmpI_zero.1 k))⟩
theorem PT.S (a b c : ByteArray) : PT (cmpS a b) (cmpS b c) (cmpS a c) := ⟨cmpS_trans, fun h k => cmpS_zero.2 ((cmpS_zero.1 h).trans (cmpS_zero.1 k))⟩
theorem cmpE_trans (x y z : Ev) : PT (cmpE x y) (cmpE y z) (cmpE x z) := by
  unfold cmpE
  rw [orI_cases, orI_cases, orI_cases]
  exact (PT.I _ _ _).lex ((PT.S _ _ _).lex ((PT.S _ _ _).lex (PT.I _ _ _)))
theorem swoE : SWO (ltOf cmpE) where
  irrefl x := by unfold ltOf; rw [cmpE_zero.2 rfl]; rfl
  trans x y z h1 h2 := by
    unfold ltOf at *
    simp only [decide_eq_true_eq] at *
    exact ((cmpE_trans x y z).1 (by omega) (by omega)).2 (Or.inl h1)
  ntrans x y z h1 h2 := by
    unfold ltOf at *
    simp only [decide_eq_false_iff_not] at *
    have f1 := cmpE_flip x y
    have f2 := cmpE_flip y z
    have f3 := cmpE_flip x z
    have := (cmpE_trans z y x).1 (by omega) (by omega)
    omega
theorem totE (x y : Ev) (h1 : ltOf cmpE x y = false) (h2 : ltOf cmpE y x = false) : x = y := by
  unfold ltOf at *
  simp only [decide_eq_false_iff_not] at *
  have := cmpE_flip x y
  exact cmpE_zero.1 (by omega)
/-- The events in order. -/
def leE (x y : Ev) : Bool := !(ltOf cmpE) y x
def sortE (l : List Ev) : List Ev := l.mergeSort leE
end Go.Proofs.YtjakhgilkogcnaaDoor
