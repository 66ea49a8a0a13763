/- journal: what merging answers, in plain Lean; an append of any row. -/
import Derived.Test.YtjakhgilkogcnaaDoorJr18
import Derived.Deep.AppendSrc
namespace Go.Proofs.YtjakhgilkogcnaaDoor
open Go.RowKit

theorem app_any {base e c0 : Nat} {W : World} {P L : List Ev} {h : Value} (hr : OwnE W base (.slice (some ⟨e, 0, none⟩) P.length c0) P) (hx : Reads W h L.length (flat Ev.cells L)) (hl : P.length + L.length ≤ 600) (hb : base ≤ W.heap.size) :
    ∃ e' c W', (∀ ty, (Builtin.append_ #[22, 22] ty #[.slice (some ⟨e, 0, none⟩) P.length c0, h]).run Tryd.prog W = .ok (.slice (some ⟨e', 0, none⟩) (P ++ L).length c) W') ∧ OwnE W' base (.slice (some ⟨e', 0, none⟩) (P ++ L).length c) (P ++ L) ∧ Below base W W' := by
  obtain ⟨i0, hi0, hz0, hz1, hz2⟩ := info_parts infoEv
  have key : ∀ (ad : Addr) (c : Nat), (∀ j u, (flat Ev.cells L)[j]? = some u → W.cell? (ad.add j) = some u) → ∃ e' c' W', (∀ ty, (Builtin.append_ #[22, 22] ty #[.slice (some ⟨e, 0, none⟩) P.length c0, .slice (some ad) L.length c]).run Tryd.prog W = .ok (.slice (some ⟨e', 0, none⟩) (P ++ L).length c') W') ∧ OwnE W' base (.slice (some ⟨e', 0, none⟩) (P ++ L).length c') (P ++ L) ∧ Below base W W' := by
    intro ad c hc
    obtain ⟨u', W', q1, q2, q3, q4⟩ := run_append_own (P := Tryd.prog) W base 22 0 31 i0 _ 4 48 Tryd.underlying22 hi0 hz0 hz1 hz2 rfl (by decide) _ P.length (flat Ev.cells P) hr ad L.length c (flat Ev.cells L) (flat_len (sz := 4) (fun _ => rfl) L)
      hc (ev_one L) (by unfold maxLen; omega) (by omega) hb
    have hflx : flat Ev.cells (P ++ L) = flat Ev.cells P ++ flat Ev.cells L := by simp [flat]
    rw [← hflx, ← List.length_append] at q2
    have hbel : Below base W W' := Below.grown (Below.refl base W) q3 hb (fun k hk => row_own hr k hk)
    rcases q2.2 with ⟨hv, _⟩ | ⟨g, c', cur, hv, e2, e3, e4⟩
    · have := (q4.1 hv).1
      simp at this
    · subst hv
      exact ⟨g, c', W', fun ty => q1, q2, hbel⟩
  rcases hx with ⟨hn, hc, a', cap, rfl⟩ | ⟨b, off, cap, rfl, _, _, _, hcc⟩
  · rw [hn] at key
    cases a' with
    | some ad => exact key ad cap (fun j u hj => by rw [hc] at hj; simp at hj)
    | none =>
      have hL : L = [] := List.eq_nil_of_length_eq_zero hn
      subst hL
      rcases hr.2 with ⟨hv, _⟩ | ⟨g, c', cur, hv, e2, e3, e4, e5, e6⟩
      · cases hv
      · cases hv
        have hr' := fun ty => run_append_room_src (P := Tryd.prog) W 22 22 ty 31 i0 Tryd.underlying22 hi0 e 0 P.length c0 (.slice none 0 cap) 0 [] (Src.ofNil W (e' := 31) Tryd.underlying22 cap) (by simpa using e4) (fun j hj => absurd hj (Nat.not_lt_zero _)) (fun j hj => absurd hj (Nat.not_lt_zero _))
        exact ⟨e, c0, W, fun ty => by rw [List.append_nil]; exact hr' ty, by rw [List.append_nil]; exact hr, Below.refl _ _⟩
  · exact key ⟨b, off, none⟩ cap (cells_add hcc)
theorem mergeE_flip (p q : List Ev) : mergeE p q = mergeE q p := by
  induction p, q using mergeE.induct with
  | case1 q => rw [mergeE_nil]; simp [mergeE]
  | case2 x p => rw [mergeE_nil]; simp [mergeE]
  | case3 x p y q h ih =>
    rw [mergeE, if_pos h, mergeE.eq_3, if_neg (by rw [cmpE_flip]; omega), if_neg (by rw [cmpE_flip]; omega), ih]
  | case4 x p y q h h2 ih =>
    rw [mergeE, if_neg h, if_pos h2, mergeE.eq_3, if_neg (by rw [cmpE_flip]; omega), if_pos (by rw [cmpE_flip]; omega), ih, cmpE_zero.1 h2]
  | case5 x p y q h h2 ih =>
    rw [mergeE, if_neg h, if_neg h2, mergeE.eq_3, if_pos (by rw [cmpE_flip]; omega), ih]
theorem mergeE_self (p : List Ev) : mergeE p p = p := by
  induction p with
  | nil => simp [mergeE]
  | cons x p ih =>
    have h : cmpE x x = 0 := cmpE_zero.2 rfl
    rw [mergeE, if_neg (by omega), if_pos h, ih]
theorem mergeE_mem (p q : List Ev) : ∀ z, z ∈ p ∨ z ∈ q → z ∈ mergeE p q := by
  induction p, q using mergeE.induct with
  | case1 q => intro z hz; simpa [mergeE] using hz
  | case2 x p => intro z hz; simpa [mergeE] using hz
  | case3 x p y q h ih =>
    intro z hz
    rw [mergeE, if_pos h]
    rcases hz with hz | hz
    · rcases List.mem_cons.1 hz with rfl | hz
      · simp
      · exact List.mem_cons_of_mem _ (ih z (Or.inl hz))
    · exact List.mem_cons_of_mem _ (ih z (Or.inr hz))
  | case4 x p y q h h2 ih =>
    intro z hz
    rw [mergeE, if_neg h, if_pos h2]
    rcases hz with hz | hz
    · rcases List.mem_cons.1 hz with rfl | hz
      · simp
      · exact List.mem_cons_of_mem _ (ih z (Or.inl hz))
    · rcases List.mem_cons.1 hz with rfl | hz
      · rw [cmpE_zero.1 h2]; simp
      · exact List.mem_cons_of_mem _ (ih z (Or.inr hz))
  | case5 x p y q h h2 ih =>
    intro z hz
    rw [mergeE, if_neg h, if_neg h2]
    rcases hz with hz | hz
    · exact List.mem_cons_of_mem _ (ih z (Or.inl hz))
    · rcases List.mem_cons.1 hz with rfl | hz
      · simp
      · exact List.mem_cons_of_mem _ (ih z (Or.inr hz))
theorem mergeE_len (p q : List Ev) : p.length ≤ (mergeE p q).length ∧ q.length ≤ (mergeE p q).length ∧ (mergeE p q).length ≤ p.length + q.length := by
  induction p, q using mergeE.induct with
  | case1 q => simp [mergeE]
  | case2 x p => simp [mergeE]
  | case3 x p y q h ih => rw [mergeE, if_pos h]; simp only [List.length_cons] at *; omega
  | case4 x p y q h h2 ih => rw [mergeE, if_neg h, if_pos h2]; simp only [List.length_cons] at *; omega
  | case5 x p y q h h2 ih => rw [mergeE, if_neg h, if_neg h2]; simp only [List.length_cons] at *; omega
theorem sortedE_nil : sortedE [] = ([], 0) := by
  unfold sortedE checkE evsE sortE; simp
theorem merges_law (la lb : List Ev) : (∃ er er', mergedE la lb = ([], er) ∧ mergedE lb la = ([], er') ∧ er ≠ 0 ∧ er' ≠ 0) ∨
    (∃ R S, mergedE la lb = (R, 0) ∧ mergedE lb la = (R, 0) ∧ mergedE la la = (S, 0) ∧ mergedE la [] = (S, 0) ∧ sortedE la = (S, 0) ∧ (∀ z ∈ la ++ lb, z ∈ R) ∧ la.length ≤ R.length ∧ lb.length ≤ R.length ∧ R.length ≤ la.length + lb.length ∧ la.length ≤ 256 ∧ lb.length ≤ 256 ∧ R.length ≤ 256) := by
  by_cases ha : (sortedE la).2 = 0
  · by_cases hb : (sortedE lb).2 = 0
    · have ea := (sorted_ok ha).1
      have eb := (sorted_ok hb).1
      have na := checkE_len (sorted_ok ha).2
      have nb := checkE_len (sorted_ok hb).2
      obtain ⟨l1, l2, l3⟩ := mergeE_len (sortE la) (sortE lb)
      rw [sortE_len] at l1 l3
      rw [sortE_len] at l2 l3
      by_cases hbig : 256 < (mergeE (sortE la) (sortE lb)).length
      · refine Or.inl ⟨2, 2, ?_, ?_, by decide, by decide⟩
        · unfold mergedE; rw [ea, eb]; simp [hbig]
        · unfold mergedE; rw [ea, eb, mergeE_flip]; simp [hbig]
      · refine Or.inr ⟨mergeE (sortE la) (sortE lb), sortE la, ?_, ?_, ?_, ?_, ea, fun z hz => mergeE_mem _ _ z ?_, l1, l2, l3, na, nb, by omega⟩
        · unfold mergedE; rw [ea, eb]; simp [hbig]
        · unfold mergedE; rw [ea, eb, mergeE_flip]; simp [hbig]
        · unfold mergedE; rw [ea, mergeE_self]; simp [sortE_len]; omega
        · unfold mergedE; rw [ea, sortedE_nil, mergeE_nil]; simp [sortE_len]; omega
        · rw [sortE_mem, sortE_mem]; exact List.mem_append.1 hz
    · refine Or.inl ⟨_, (sortedE lb).2, ?_, ?_, hb, hb⟩
      · unfold mergedE; rw [if_neg (fun h => h ha), if_pos hb]
      · unfold mergedE; rw [if_pos hb]
  · by_cases hb : (sortedE lb).2 = 0
    · refine Or.inl ⟨(sortedE la).2, (sortedE la).2, ?_, ?_, ha, ha⟩
      · unfold mergedE; rw [if_pos ha]
      · unfold mergedE; rw [if_neg (fun h => h hb), if_pos ha]
    · refine Or.inl ⟨(sortedE la).2, (sortedE lb).2, ?_, ?_, ha, hb⟩
      · unfold mergedE; rw [if_pos ha]
      · unfold mergedE; rw [if_pos hb]
end Go.Proofs.YtjakhgilkogcnaaDoor
