/- journal: check, Check. -/
import Derived.Test.YtjakhgilkogcnaaDoorJr1
namespace Go.Proofs.YtjakhgilkogcnaaDoor
open Go.RowKit Go.Sort

/-- A cell of an element of a list of structs. -/
def flat {α : Type} (f : α → List Value) (l : List α) : List Value := l.flatMap f
theorem flat_len {α : Type} {f : α → List Value} {sz : Nat} (hf : ∀ x, (f x).length = sz) (l : List α) : (flat f l).length = l.length * sz := by
  induction l with
  | nil => simp [flat]
  | cons x xs ih =>
    unfold flat at ih ⊢
    rw [List.flatMap_cons, List.length_append, hf, ih, List.length_cons, Nat.add_mul]; omega
theorem flat_get {α : Type} {f : α → List Value} {sz : Nat} (hf : ∀ x, (f x).length = sz) : ∀ (l : List α) (i j : Nat) (x : α), l[i]? = some x → j < sz → (flat f l)[i * sz + j]? = (f x)[j]? := by
  intro l
  induction l with
  | nil => intro i j x h; simp at h
  | cons y ys ih =>
    intro i j x h hj
    unfold flat at ih ⊢
    rw [List.flatMap_cons]
    cases i with
    | zero =>
      simp at h; subst h
      rw [Nat.zero_mul, Nat.zero_add, List.getElem?_append_left (by rw [hf]; exact hj)]
    | succ i =>
      rw [List.getElem?_append_right (by rw [hf, Nat.add_mul]; omega), hf, show (i + 1) * sz + j - sz = i * sz + j by rw [Nat.add_mul]; omega]
      exact ih i j x (by simpa using h) hj
theorem ev_cells {w : World} {b off : Nat} {l : List Ev} (h : ∀ j u, (flat Ev.cells l)[j]? = some u → w.cell? ⟨b, off + j, none⟩ = some u) {k : Nat} {x : Ev} (hx : l[k]? = some x) :
    w.cell? ⟨b, off + k * 4, none⟩ = some (.int .i64 x.t) ∧ w.cell? ⟨b, off + k * 4 + 1, none⟩ = some (.string x.k) ∧ w.cell? ⟨b, off + k * 4 + 2, none⟩ = some (.string x.n) ∧ w.cell? ⟨b, off + k * 4 + 3, none⟩ = some (.int .i64 x.v) := by
  have e : ∀ j u, j < 4 → (Ev.cells x)[j]? = some u → w.cell? ⟨b, off + (k * 4 + j), none⟩ = some u := fun j u hj hu => h _ u (by rw [flat_get (sz := 4) (f := Ev.cells) (fun _ => rfl) l k j x hx hj]; exact hu)
  exact ⟨e 0 _ (by decide) rfl, by rw [Nat.add_assoc]; exact e 1 _ (by decide) rfl, by rw [Nat.add_assoc]; exact e 2 _ (by decide) rfl, by rw [Nat.add_assoc]; exact e 3 _ (by decide) rfl⟩
/-- Events in memory. -/
abbrev EVal (w : World) (v : Value) (l : List Ev) : Prop := Reads w v l.length (flat Ev.cells l)
def evE (x : Ev) : Int := if x.t < 0 ∨ 1000000000 < x.t then 12 else if (!nameB x.k || !nameB x.n) = true then 6 else if x.v < -1000000 ∨ 1000000 < x.v then 4 else 0
def evsE : List Ev → Int
  | [] => 0
  | x :: xs => if evE x ≠ 0 then evE x else evsE xs
def checkE (l : List Ev) : Int := if 256 < l.length then 2 else evsE l
theorem evsE_drop {l : List Ev} {k : Nat} {x : Ev} (h : l[k]? = some x) : evsE (l.drop k) = if evE x ≠ 0 then evE x else evsE (l.drop (k + 1)) := by
  obtain ⟨hk, hx⟩ := List.getElem?_eq_some_iff.1 h
  rw [List.drop_eq_getElem_cons hk, hx]; rfl
/-- What comes in may be read. -/
def Ev.Wf (x : Ev) : Prop := x.k.size ≤ 9223372036854775807 ∧ x.n.size ≤ 9223372036854775807
set_option maxHeartbeats 1000000 in
theorem ev_c (x : Ev) (w : World) (hx : x.Wf) : Calls Tryd.prog 24 #[.agg x.cells.toArray] w fun e w' => e = .returned (.int .i64 (evE x)) ∧ Below w.heap.size w w' := by
  obtain ⟨a0, a1, a2, a3⟩ := x
  show Calls _ _ #[.agg #[.int .i64 a0, .string a1, .string a2, .int .i64 a3]] _ _
  have K := Blk.new w #[.int .i64 a0, .string a1, .string a2, .int .i64 a3] 31
  have B := Lib.hid (belowA (Below.refl w.heap.size w) (.cells #[.int .i64 a0, .string a1, .string a2, .int .i64 a3] 31))
  generalize hW2 : w.alloc (.cells #[.int .i64 a0, .string a1, .string a2, .int .i64 a3] 31) = W2 at *
  have HW2 := Lib.hid hW2
  have HE : Hid (evE ⟨a0, a1, a2, a3⟩ = if a0 < 0 ∨ 1000000000 < a0 then 12 else if (!nameB a1 || !nameB a2) = true then 6 else if a3 < -1000000 ∨ 1000000 < a3 then 4 else 0) := rfl
  have HN1 := Lib.hid (fun W => name_c a1 W hx.1)
  have HN2 := Lib.hid (fun W => name_c a2 W hx.2)
  generalize evE ⟨a0, a1, a2, a3⟩ = E at *
  generalize nameB a1 = N1 at *
  generalize nameB a2 = N2 at *
  have HK := Lib.hid K
  have x0 := K.cell 0 rfl
  have x1 := K.cell 1 rfl
  clear K hW2 hx
  have hwz : w.heap.size < W2.heap.size := HK.out.lt
  go_enter Tryd.func24, Tryd.ntmps24
  go_upto_region 1 with fail
  rw [HW2.out]
  by_cases h1 : a0 < 0
  · have HL := Lib.hid (HE.out.trans (if_pos (Or.inl h1)))
    have g1 : decide (a0 < 0) = true := decide_eq_true h1
    go_wp2_with fail
    go_ret
    exact ⟨by rw [HL.out]; rfl, B.out⟩
  · by_cases h2 : 1000000000 < a0
    · have HL := Lib.hid (HE.out.trans (if_pos (Or.inr h2)))
      have g1 : decide (a0 < 0) = false := decide_eq_false h1
      have g2 : decide (1000000000 < a0) = true := decide_eq_true h2
      go_wp2_with fail
      go_ret
      exact ⟨by rw [HL.out]; rfl, B.out⟩
    · have HE2 := Lib.hid (HE.out.trans (if_neg (fun h => h.elim h1 h2)))
      have g1 : decide (a0 < 0) = false := decide_eq_false h1
      have g2 : decide (1000000000 < a0) = false := decide_eq_false h2
      clear HE h1 h2
      go_wp2_with fail
      refine (HN1.out _).mono ?_; rintro e w3 ⟨rfl, hb3⟩
      have K3 := below_blk hb3 HK.out HK.out.lt
      have B3 := Lib.hid (belowT B.out hb3)
      have HK3 := Lib.hid K3
      have y2 := K3.cell 2 rfl
      have hz3 : w.heap.size < w3.heap.size := K3.lt
      clear x0 x1 hb3 K3 HN1
      cases N1
      · have HL := Lib.hid (HE2.out.trans (if_pos rfl))
        go_wp2_with fail
        go_ret
        exact ⟨by rw [HL.out]; rfl, B3.out⟩
      · go_wp2_with fail
        refine (HN2.out _).mono ?_; rintro e w4 ⟨rfl, hb4⟩
        have K4 := below_blk hb4 HK3.out HK3.out.lt
        have B4 := Lib.hid (belowT B3.out hb4)
        have z3 := K4.cell 3 rfl
        have hz4 : w.heap.size < w4.heap.size := K4.lt
        clear y2 hb4 K4 HN2
        cases N2
        · have HL := Lib.hid (HE2.out.trans (if_pos rfl))
          go_wp2_with fail
          go_ret
          exact ⟨by rw [HL.out]; rfl, B4.out⟩
        · have HE3 := Lib.hid (HE2.out.trans (if_neg (by decide)))
          clear HE2
          by_cases h1 : a3 < -1000000
          · have HL := Lib.hid (HE3.out.trans (if_pos (Or.inl h1)))
            have g3 : decide (a3 < -1000000) = true := decide_eq_true h1
            go_wp2_with fail
            go_ret
            exact ⟨by rw [HL.out]; rfl, B4.out⟩
          · by_cases h2 : 1000000 < a3
            · have HL := Lib.hid (HE3.out.trans (if_pos (Or.inr h2)))
              have g3 : decide (a3 < -1000000) = false := decide_eq_false h1
              have g4 : decide (1000000 < a3) = true := decide_eq_true h2
              go_wp2_with fail
              go_ret
              exact ⟨by rw [HL.out]; rfl, B4.out⟩
            · have HL := Lib.hid (HE3.out.trans (if_neg (fun h => h.elim h1 h2)))
              have g3 : decide (a3 < -1000000) = false := decide_eq_false h1
              have g4 : decide (1000000 < a3) = false := decide_eq_false h2
              go_wp2_with fail
              go_ret
              exact ⟨by rw [HL.out]; rfl, B4.out⟩
set_option maxHeartbeats 1000000 in
theorem check_c (v : Value) (l : List Ev) (w : World) (hv : EVal w v l) (hw : Hid (∀ x ∈ l, x.Wf)) : Calls Tryd.prog 15 #[v] w fun e w' => e = .returned (.int .i64 (checkE l)) ∧ Below w.heap.size w w' := by
  obtain ⟨a, c, rfl⟩ := hv.slice
  have hn : l.length ≤ 9223372036854775807 := by
    rcases hv with ⟨h, _⟩ | ⟨_, _, _, _, _, h, _⟩ <;> omega
  have HE : Hid (checkE l = if 256 < l.length then 2 else evsE l) := rfl
  have HV0 : Hid (Reads w (.slice a l.length c) l.length (flat Ev.cells l)) := hv
  generalize checkE l = E at *
  obtain ⟨n, hN⟩ : ∃ n, l.length = n := ⟨_, rfl⟩
  have HN := Lib.hid hN
  rw [hN] at HV0 hn HE ⊢
  clear hN hv
  by_cases h256 : 256 < n
  · have HL := Lib.hid (HE.out.trans (if_pos h256))
    have g1 : decide (256 < (n : Int)) = true := decide_eq_true (by omega)
    go_enter Tryd.func15, Tryd.ntmps15
    go_wp2_with fail
    go_ret
    exact ⟨by rw [HL.out]; rfl, Below.refl _ _⟩
  · have HR0 : Hid (evsE (l.drop 0) = E) := (HE.out.trans (if_neg h256)).symm
    have g1 : decide (256 < (n : Int)) = false := decide_eq_false (by omega)
    clear HE
    go_enter Tryd.func15, Tryd.ntmps15
    go_wp2_with fail
    go_loopw [11] (fun i wr => ∃ k : Nat, k ≤ n ∧ i = .int .i64 k ∧ Hid (evsE (l.drop k) = E) ∧ Hid (Below w.heap.size w wr)) (fun i _ => n - (intOf i).toNat)
    case atStart => exact ⟨0, Nat.zero_le _, rfl, HR0, Below.refl _ _⟩
    case round =>
      clear HR0
      obtain ⟨k, hk, rfl, he, hb⟩ := hrel
      by_cases hlt : k < n
      · obtain ⟨x, hx⟩ : ∃ x, l[k]? = some x := ⟨_, List.getElem?_eq_getElem (by rw [HN.out]; exact hlt)⟩
        have hd := evsE_drop hx
        rw [hd] at he
        have HC := Lib.hid (fun W => ev_c x W (hw.out x (List.mem_of_getElem? hx)))
        obtain ⟨g', off, cap', hvv, _, _, _, hcc⟩ := (HV0.out.below hb.out).addr (by omega)
        simp only [Value.slice.injEq] at hvv
        obtain ⟨rfl, _, rfl⟩ := hvv
        obtain ⟨c0, c1, c2, c3⟩ := ev_cells hcc hx
        generalize evE x = XE at *
        obtain ⟨a0, a1, a2, a3⟩ := x
        simp only at c0 c1 c2 c3
        have HC2 : Hid (∀ W, Calls Tryd.prog 24 #[.agg #[.int .i64 a0, .string a1, .string a2, .int .i64 a3]] W fun e w' => e = .returned (.int .i64 XE) ∧ Below W.heap.size W w') := HC.out
        have B2 := Lib.hid (belowA hb.out (.cells #[.int .i64 a0, .string a1, .string a2, .int .i64 a3] 31))
        clear hcc hx hd HC
        by_cases hz : XE = 0
        · have HR1 : Hid (evsE (l.drop (k + 1)) = E) := by show _ = _; rw [← he.out, if_neg (fun h => h hz)]
          subst hz
          clear he
          go_wp2_with fail
          refine (HC2.out _).mono ?_; rintro e w3 ⟨rfl, hb3⟩
          have B3 := Lib.hid (belowT B2.out hb3)
          clear hb3 c0 c1 c2 c3
          go_wp2_with fail
          go_roundw
          case rel => exact ⟨k + 1, hlt, by go_num, HR1, B3⟩
          case measure => simp [intOf]; omega
        · have HR1 : Hid (E = XE) := by show _ = _; rw [← he.out, if_pos hz]
          have g2 : (XE != 0) = true := by simpa using hz
          clear he hz
          go_wp2_with fail
          refine (HC2.out _).mono ?_; rintro e w3 ⟨rfl, hb3⟩
          have B3 := Lib.hid (belowT B2.out hb3)
          clear hb3 c0 c1 c2 c3
          go_wp2_with fail
          go_ret
          exact ⟨by rw [HR1.out]; rfl, B3.out⟩
      · have hn0 : l.drop k = [] := List.drop_eq_nil_of_le (by rw [HN.out]; omega)
        have HR1 : Hid (E = 0) := by show _ = _; rw [← he.out, hn0]; rfl
        clear he hn0
        go_wp2_with fail
        go_ret
        exact ⟨by rw [HR1.out]; rfl, hb.out⟩
end Go.Proofs.YtjakhgilkogcnaaDoor
