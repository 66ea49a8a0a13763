/- journal: what groups are, in plain Lean; an append of a row that is read. -/
import Derived.Test.YtjakhgilkogcnaaDoorJr11
import Derived.Test.YtjakhgilkogcnaaDoorJr15
namespace Go.Proofs.YtjakhgilkogcnaaDoor
open Go.RowKit

/-- Groups: each begun where the gap is too great, and grown where it is not. -/
inductive GOk (gap : Int) : List (List Ev) → Prop
  | nil : GOk gap []
  | new (gs : List (List Ev)) (x : Ev) : GOk gap gs → (∀ y, gs.flatten.getLast? = some y → gap < x.t - y.t) → GOk gap (gs ++ [[x]])
  | add (gs : List (List Ev)) (g : List Ev) (y x : Ev) : GOk gap (gs ++ [g ++ [y]]) → ¬ gap < x.t - y.t → GOk gap (gs ++ [g ++ [y] ++ [x]])
theorem GOk.ne {gap : Int} {gs : List (List Ev)} (h : GOk gap gs) : ∀ g ∈ gs, g ≠ [] := by
  induction h with
  | nil => intro g hg; cases hg
  | new gs x _ _ ih =>
    intro g hg
    rcases List.mem_append.1 hg with hg | hg
    · exact ih g hg
    · rw [List.mem_singleton.1 hg]; simp
  | add gs g y x _ _ ih =>
    intro k hk
    rcases List.mem_append.1 hk with hk | hk
    · exact ih k (List.mem_append.2 (Or.inl hk))
    · rw [List.mem_singleton.1 hk]; simp
theorem grpS_ok {gap : Int} {gs : List (List Ev)} {p : Option Ev} (x : Ev) (h : GOk gap gs) (hp : p = gs.flatten.getLast?) : GOk gap (grpS gap x p gs) ∧ (grpS gap x p gs).flatten = gs.flatten ++ [x] := by
  subst hp
  unfold grpS
  cases he : gs.flatten.getLast? with
  | none =>
    refine ⟨.new gs x h (fun y hy => ?_), by simp⟩
    rw [he] at hy; cases hy
  | some y =>
    simp only
    by_cases hg : gap < x.t - y.t
    · rw [if_pos hg]
      exact ⟨.new gs x h (fun z hz => by rw [he] at hz; cases hz; exact hg), by simp⟩
    · rw [if_neg hg]
      rcases List.eq_nil_or_concat gs with rfl | ⟨us, a, hgs⟩
      · simp at he
      · rw [List.concat_eq_append] at hgs
        subst hgs
        have ha := h.ne a (by simp)
        rcases List.eq_nil_or_concat a with rfl | ⟨b, z, hb⟩
        · exact absurd rfl ha
        · rw [List.concat_eq_append] at hb
          subst hb
          have hzy : z = y := by simpa using he
          subst hzy
          have e1 : (us ++ [b ++ [z]]).dropLast = us := by simp
          have e2 : (us ++ [b ++ [z]]).getLastD [] = b ++ [z] := by simp
          rw [e1, e2]
          exact ⟨.add us b z x h hg, by simp⟩
theorem grpG_ok {gap : Int} : ∀ (l : List Ev) {gs : List (List Ev)} {p : Option Ev}, GOk gap gs → p = gs.flatten.getLast? → GOk gap (grpG gap l p gs) ∧ (grpG gap l p gs).flatten = gs.flatten ++ l := by
  intro l
  induction l with
  | nil => intro gs p h _; exact ⟨h, by simp [grpG]⟩
  | cons x xs ih =>
    intro gs p h hp
    obtain ⟨h1, h2⟩ := grpS_ok x h hp
    obtain ⟨h3, h4⟩ := ih (gs := grpS gap x p gs) (p := some x) h1 (by rw [h2]; simp)
    exact ⟨h3, by rw [grpG, h4, h2]; simp⟩
/-- What the law asks of a group. -/
theorem GOk.law {gap : Int} {gs : List (List Ev)} (h : GOk gap gs) : ∀ (i : Nat) (g : List Ev), gs[i]? = some g →
    (∀ (k : Nat) (x y : Ev), g[k]? = some x → g[k + 1]? = some y → ¬ gap < y.t - x.t) ∧ (∀ (x y : Ev), g[0]? = some x → (gs.take i).flatten.getLast? = some y → gap < x.t - y.t) := by
  induction h with
  | nil => intro i g hg; simp at hg
  | new gs x _ hx ih =>
    intro i g hg
    by_cases hi : i < gs.length
    · rw [List.getElem?_append_left hi] at hg
      obtain ⟨a, b⟩ := ih i g hg
      refine ⟨a, fun x y hx hy => b x y hx ?_⟩
      rwa [List.take_append_of_le_length (by omega)] at hy
    · have hi2 : i = gs.length := by
        have := (List.getElem?_eq_some_iff.1 hg).1
        simp at this; omega
      subst hi2
      rw [List.getElem?_append_right (Nat.le_refl _)] at hg
      simp at hg
      subst hg
      refine ⟨fun k u v hu hv => ?_, fun u y hu hy => ?_⟩
      · simp at hv
      · simp at hu
        subst hu
        rw [List.take_left' rfl] at hy
        exact hx y hy
  | add gs g y x _ hgap ih =>
    intro i k hk
    by_cases hi : i < gs.length
    · rw [List.getElem?_append_left hi] at hk
      obtain ⟨a, b⟩ := ih i k (by rw [List.getElem?_append_left hi]; exact hk)
      refine ⟨a, fun x y hx hy => b x y hx ?_⟩
      rw [List.take_append_of_le_length (by omega)] at hy ⊢
      exact hy
    · have hi2 : i = gs.length := by
        have := (List.getElem?_eq_some_iff.1 hk).1
        simp at this; omega
      subst hi2
      rw [List.getElem?_append_right (Nat.le_refl _)] at hk
      simp only [Nat.sub_self, List.getElem?_cons_zero, Option.some.injEq] at hk
      subst hk
      obtain ⟨a, b⟩ := ih gs.length (g ++ [y]) (by simp)
      refine ⟨fun k u v hu hv => ?_, fun u z hu hz => ?_⟩
      · by_cases hk : k + 1 < (g ++ [y]).length
        · rw [List.getElem?_append_left hk] at hv
          rw [List.getElem?_append_left (by omega)] at hu
          exact a k u v hu hv
        · have hl := (List.getElem?_eq_some_iff.1 hv).1
          simp only [List.length_append, List.length_cons, List.length_nil] at hl hk
          have hkk : k = g.length := by omega
          subst hkk
          rw [List.append_assoc, List.getElem?_append_right (Nat.le_refl _)] at hu
          rw [List.append_assoc, List.getElem?_append_right (by omega)] at hv
          simp at hu hv
          subst hu; subst hv
          exact hgap
      · refine b u z ?_ ?_
        · rw [List.getElem?_append_left (by simp)] at hu
          exact hu
        · rw [List.take_left' rfl] at hz ⊢
          exact hz
/-- An own row of events, of which `all` is a value. -/
def OwnE (W : World) (base : Nat) (v : Value) (P : List Ev) : Prop := W.ownsRow base 31 4 v P.length (flat Ev.cells P)
theorem OwnE.nil (W : World) (base : Nat) : OwnE W base (.slice none 0 0) [] := ⟨rfl, Or.inl ⟨rfl, rfl⟩⟩
theorem OwnE.drewN {W : World} {base : Nat} {v : Value} {P : List Ev} (h : OwnE W base v P) (n : Nat) : OwnE (W.drewN n) base v P := h
theorem app_reads {base : Nat} {W : World} {v h : Value} {P L : List Ev} (hr : OwnE W base v P) (hx : Reads W h L.length (flat Ev.cells L)) (hL : 0 < L.length) (hl : P.length + L.length ≤ 256) (hb : base ≤ W.heap.size) :
    ∃ a c W', (∀ ty, (Builtin.append_ #[22, 22] ty #[v, h]).run Tryd.prog W = .ok (.slice a (P ++ L).length c) W') ∧ OwnE W' base (.slice a (P ++ L).length c) (P ++ L) ∧ Below base W W' := by
  obtain ⟨i0, hi0, hz0, hz1, hz2⟩ := info_parts infoEv
  obtain ⟨b, off, cap, rfl, _, _, _, hc⟩ := hx.addr hL
  have key := fun ty => run_append_own (P := Tryd.prog) W base 22 ty 31 i0 _ 4 48 Tryd.underlying22 hi0 hz0 hz1 hz2 rfl (by decide) v P.length (flat Ev.cells P) hr ⟨b, off, none⟩ L.length cap (flat Ev.cells L) (flat_len (sz := 4) (fun _ => rfl) L)
    (cells_add hc) (ev_one L) (by unfold maxLen; omega) (by omega) hb
  obtain ⟨u', W', q1, q2, q3, _⟩ := key 0
  have hflx : flat Ev.cells (P ++ L) = flat Ev.cells P ++ flat Ev.cells L := by simp [flat]
  rw [← hflx, ← List.length_append] at q2
  obtain ⟨a, c, rfl⟩ := row_slice q2
  exact ⟨a, c, W', fun ty => q1, q2, Below.grown (Below.refl base W) q3 hb (fun k hk => row_own hr k hk)⟩
theorem OwnE.last {W : World} {base : Nat} {v : Value} {P : List Ev} (h : OwnE W base v P) (hl : P.length ≤ 256) (hp : 0 < P.length) : ∃ (g off c : Nat) (z : Ev), v = .slice (some ⟨g, off, none⟩) P.length c ∧ P.getLast? = some z ∧ W.cell? ⟨g, off + (P.length - 1) * 4, none⟩ = some (.int .i64 z.t) := by
  obtain ⟨g, off, c, hv, _, _, _, hcc⟩ := (Reads.of_owns (show W.ownsRow base 31 4 v P.length (flat Ev.cells P) from h) (by omega)).addr hp
  obtain ⟨z, hz⟩ : ∃ z, P[P.length - 1]? = some z := ⟨_, List.getElem?_eq_getElem (by omega)⟩
  obtain ⟨c0, _⟩ := ev_cells hcc hz
  exact ⟨g, off, c, z, hv, by rw [List.getLast?_eq_getElem?]; exact hz, c0⟩
theorem flat_take {gs : List (List Ev)} {k : Nat} {L : List Ev} (h : gs[k]? = some L) : (gs.take (k + 1)).flatten = (gs.take k).flatten ++ L := by
  rw [List.take_add_one, h]; simp
theorem flat_le (gs : List (List Ev)) (k : Nat) : ∀ x ∈ (gs.take k).flatten, x ∈ gs.flatten := by
  intro x hx
  obtain ⟨g, hg, hxg⟩ := List.mem_flatten.1 hx
  exact List.mem_flatten.2 ⟨g, List.mem_of_mem_take hg, hxg⟩
theorem flat_len_le (gs : List (List Ev)) (k : Nat) : (gs.take k).flatten.length ≤ gs.flatten.length := by
  have h : gs.flatten = (gs.take k).flatten ++ (gs.drop k).flatten := by rw [← List.flatten_append, List.take_append_drop]
  rw [h, List.length_append]; omega
theorem flat_pos {gs : List (List Ev)} (hne : ∀ g ∈ gs, g ≠ []) {k : Nat} (hk : 0 < k) (hl : 0 < gs.length) : 0 < (gs.take k).flatten.length := by
  cases gs with
  | nil => simp at hl
  | cons g gs =>
    obtain ⟨k, rfl⟩ : ∃ j, k = j + 1 := ⟨k - 1, by omega⟩
    have : 0 < g.length := List.length_pos_iff.2 (hne g (by simp))
    simp; omega
theorem grp_step {gap : Int} {gs : List (List Ev)} {S : List Ev} (hf : gs.flatten = S) (hn : S.length ≤ 256) (hok : GOk gap gs) (ht : ∀ x ∈ S, 0 ≤ x.t ∧ x.t ≤ 1000000000) {k : Nat} {L : List Ev} (hL : gs[k]? = some L) :
    0 < L.length ∧ L.length ≤ 256 ∧ (gs.take k).flatten.length + L.length ≤ 256 ∧ (gs.take (k + 1)).flatten = (gs.take k).flatten ++ L ∧ (∀ x ∈ L, 0 ≤ x.t ∧ x.t ≤ 1000000000) ∧ (∀ x ∈ (gs.take k).flatten, 0 ≤ x.t ∧ x.t ≤ 1000000000) ∧ (0 < k → 0 < (gs.take k).flatten.length) := by
  have h1 := flat_take hL
  have h2 := flat_len_le gs (k + 1)
  rw [h1, List.length_append, hf] at h2
  refine ⟨List.length_pos_iff.2 (hok.ne L (List.mem_of_getElem? hL)), by omega, by omega, h1, fun x hx => ht x ?_, fun x hx => ht x (by rw [← hf]; exact flat_le gs k x hx), fun hk => flat_pos hok.ne hk ?_⟩
  · rw [← hf]; exact List.mem_flatten.2 ⟨L, List.mem_of_getElem? hL, hx⟩
  · have := (List.getElem?_eq_some_iff.1 hL).1; omega
theorem groups_law (l : List Ev) (gap : Int) : (∃ er, groupsE l gap = ([], er) ∧ er ≠ 0) ∨
    (∃ gs S, groupsE l gap = (gs, 0) ∧ sortedE l = (S, 0) ∧ gs.flatten = S ∧ GOk gap gs ∧ S.length ≤ 256 ∧ (∀ x ∈ S, 0 ≤ x.t ∧ x.t ≤ 1000000000) ∧ 0 ≤ gap ∧ gap ≤ 1000000) := by
  unfold groupsE
  by_cases h0 : (sortedE l).2 = 0
  · rw [if_neg (fun h => h h0)]
    by_cases h1 : gap < 0 ∨ 1000000 < gap
    · rw [if_pos h1]; exact Or.inl ⟨4, rfl, by decide⟩
    · rw [if_neg h1]
      obtain ⟨a, b⟩ := grpG_ok (gap := gap) (sortedE l).1 .nil (p := none) rfl
      obtain ⟨c, d⟩ := sorted_len h0
      exact Or.inr ⟨_, (sortedE l).1, rfl, Prod.ext rfl h0, by rw [b]; simp, a, c, d, by omega, by omega⟩
  · rw [if_pos h0]; exact Or.inl ⟨_, rfl, h0⟩
end Go.Proofs.YtjakhgilkogcnaaDoor
