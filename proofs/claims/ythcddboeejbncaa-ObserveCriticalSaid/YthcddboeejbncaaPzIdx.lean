/- slices.IndexFunc at slices of structs. -/
import Derived.Test.YthcddboeejbncaaPzNetK
import Derived.Shelf.Abstract
namespace Go.Proofs.Ythcddboeejbncaa
open Go.RowKit

/-- The first index at which P holds, or -1. -/
def idxP {α : Type} (P : α → Bool) : List α → Int → Int
  | [], _ => -1
  | x :: xs, i => if P x = true then i else idxP P xs (i + 1)
theorem idxP_neg {α : Type} (P : α → Bool) : ∀ (l : List α) (i : Int), 0 ≤ i → (0 ≤ idxP P l i ↔ l.any P = true) := by
  intro l
  induction l with
  | nil => intro i _; simp [idxP]
  | cons x xs ih =>
    intro i hi
    unfold idxP
    by_cases hp : P x = true
    · rw [if_pos hp]; simp [hp, hi]
    · rw [if_neg hp, ih (i + 1) (by omega)]; simp [hp]
theorem idxP_drop {α : Type} {P : α → Bool} {l : List α} {k : Nat} {x : α} (h : l[k]? = some x) : idxP P (l.drop k) k = if P x = true then (k : Int) else idxP P (l.drop (k + 1)) ((k + 1 : Nat) : Int) := by
  obtain ⟨hk, hx⟩ := List.getElem?_eq_some_iff.1 h
  rw [List.drop_eq_getElem_cons hk, hx]
  conv => lhs; unfold idxP
  rfl
theorem idxP_range {α : Type} (P : α → Bool) : ∀ (l : List α) (i : Int), idxP P l i = -1 ∨ ∃ (k : Nat) (x : α), idxP P l i = i + k ∧ l[k]? = some x ∧ P x = true ∧ ∀ j y, j < k → l[j]? = some y → P y = false := by
  intro l
  induction l with
  | nil => intro i; exact Or.inl rfl
  | cons x xs ih =>
    intro i
    unfold idxP
    by_cases hp : P x = true
    · rw [if_pos hp]; exact Or.inr ⟨0, x, by simp, rfl, hp, fun j y h => by omega⟩
    · rw [if_neg hp]
      rcases ih (i + 1) with h | ⟨k, y, h1, h2, h3, h4⟩
      · exact Or.inl h
      · refine Or.inr ⟨k + 1, y, by rw [h1]; push_cast; omega, by simpa using h2, h3, fun j z hj hz => ?_⟩
        cases j with
        | zero => simp at hz; subst hz; simpa using hp
        | succ j => exact h4 j z (by omega) (by simpa using hz)
/-- What a function value answers for an element of a list, in every world behind w. -/
def TellsE {α : Type} (w : World) (g : FuncId) (caps : Array Value) (v : α → Value) (l : List α) (P : α → Bool) : Prop :=
  ∀ (a : α) (W : World), a ∈ l → Below w.heap.size w W → Calls Try.prog g (#[v a] ++ caps) W fun e w' => e = .returned (.bool (P a)) ∧ Below w.heap.size w w'


set_option maxHeartbeats 400000 in
theorem indexBr_c (v : Value) (l : List NBr) (P : NBr → Bool) (g : FuncId) (caps : Array Value) (w : World) (hv : Reads w v l.length (flat NBr.cells l))
    (eg : ∀ (args : Array Value) (w : World), (callFunc g args).run Try.prog w = .ok (.enter g args) w) (hf : Hid (TellsE w g caps (fun a : NBr => .agg a.cells.toArray) l P)) :
    Calls Try.prog 70 #[v, .func (.func g) #[] caps] w fun e w' => e = .returned (.int .i64 (idxP P l 0)) ∧ Below w.heap.size w w' := by
  obtain ⟨a, cap, rfl⟩ := hv.slice
  have hn : l.length ≤ 9223372036854775807 := by
    rcases hv with ⟨h, _⟩ | ⟨_, _, _, _, _, h, _⟩
    · omega
    · exact h
  have HE : Hid (idxP P (l.drop 0) (0 : Nat) = idxP P l 0) := by show _ = _; rfl
  generalize idxP P l 0 = E at *
  obtain ⟨n, hN⟩ : ∃ n, l.length = n := ⟨_, rfl⟩
  have HN := Lib.hid hN
  have HV2 : Hid (Reads w (.slice a n cap) n (flat NBr.cells l)) := by show Reads _ _ _ _; rw [← hN]; exact hv
  rw [hN] at hn ⊢
  clear hN hv
  go_enter Try.func70, Try.ntmps70
  go_wp2_with fail
  go_loopw [8] (fun i wr => ∃ k : Nat, k ≤ n ∧ i = .int .i64 k ∧ Hid (idxP P (l.drop k) k = E) ∧ Hid (Below w.heap.size w wr)) (fun i _ => n - (intOf i).toNat)
  case atStart => exact ⟨0, Nat.zero_le _, rfl, HE.out, Below.refl _ _⟩
  case round =>
    obtain ⟨k, hk, rfl, he, hb⟩ := hrel
    by_cases hlt : k < n
    · obtain ⟨b, off, cap', hvv, _, _, hbl, hc⟩ := (HV2.out.below hb.out).addr (by omega)
      simp only [Value.slice.injEq] at hvv
      obtain ⟨rfl, _, rfl⟩ := hvv
      have hlk : k < l.length := by rw [HN.out]; exact hlt
      obtain ⟨x, hx⟩ : ∃ x, l[k]? = some x := ⟨_, List.getElem?_eq_getElem hlk⟩
      obtain ⟨c0, c1, c2, c3, c4, c5, c6, c7, c8⟩ := br_cells hc hx
      have hd := idxP_drop (P := P) hx
      have hm := List.mem_of_getElem? hx
      have HD := Lib.hid hd
      have HF := Lib.hid (hf.out x wr hm hb.out)
      clear hd hc hx hm
      go_wp2_with fail
      refine HF.out.mono ?_; rintro e w2 ⟨rfl, hb2⟩
      have HB2 := Lib.hid hb2
      clear hb2 hb
      cases hp : P x
      · have HP := Lib.hid hp
        clear hp
        go_wp2_with fail
        go_roundw
        case rel => exact ⟨k + 1, by omega, by go_num, by show _ = _; rw [← he.out, HD.out, HP.out]; rfl, HB2⟩
        case measure => simp [intOf]; omega
      · have HP := Lib.hid hp
        clear hp
        go_wp2_with fail
        go_ret
        exact ⟨by rw [← he.out, HD.out, HP.out]; rfl, HB2.out⟩
    · have hkn : l.drop k = [] := List.drop_eq_nil_of_le (by rw [HN.out]; omega)
      have HX : Hid (E = -1) := by show _ = _; rw [← he.out, hkn]; rfl
      clear he hkn
      go_wp2_with fail
      go_ret
      exact ⟨by rw [HX.out]; rfl, hb.out⟩

end Go.Proofs.Ythcddboeejbncaa
