/- Naturals in memory; trim. -/
import Derived.Test.YtkpalfgnfhphjaaDoorNatP
import Derived.Test.YtkpalfgnfhphjaaDoorApp
import Derived.Test.YtkpalfgnfhphjaaDoorStr6
import Derived.Deep.OwnRows
import Derived.Deep.CutRange
import Derived.Deep.CutBlock
import Derived.IntWalk
namespace Go.Proofs.YtkpalfgnfhphjaaDoor
open Go.RowKit

def u32s (l : List Int) : List Value := l.map (Value.int .u32)
theorem u32s_len (l : List Int) : (u32s l).length = l.length := by unfold u32s; simp
theorem u32s_get {l : List Int} {i : Nat} (h : i < l.length) : (u32s l)[i]? = some (.int .u32 (l.getD i 0)) := by unfold u32s; simp [h]
theorem u32s_one (l : List Int) : ∀ u ∈ u32s l, u.oneCell' = true := by
  intro u hu; unfold u32s at hu; obtain ⟨n, _, rfl⟩ := List.mem_map.1 hu; rfl
theorem u32s_take (l : List Int) (k : Nat) : u32s (l.take k) = (u32s l).take k := by unfold u32s; rw [List.map_take]
theorem u32s_set (l : List Int) (k : Nat) (x : Int) : u32s (l.set k x) = (u32s l).set k (.int .u32 x) := by unfold u32s; rw [List.map_set]
/-- A natural number that may be read. -/
def NV (w : World) (v : Value) (n : Nat) : Prop := Reads w v (ln n) (u32s (dg n)) ∧ ∀ g off len cap, v = .slice (some ⟨g, off, none⟩) len cap → 0 < len → ∃ cur, Blk w g cur 114
/-- A row of digits of the call's own, leading zeros allowed. -/
def RO (base : Nat) (w : World) (v : Value) (l : List Int) : Prop := w.ownsRow base 114 1 v l.length (u32s l)
/-- A natural number in a row of the call's own. -/
def NO (base : Nat) (w : World) (v : Value) (n : Nat) : Prop := RO base w v (dg n)
theorem NV.below {w w' : World} {v : Value} {n : Nat} (h : NV w v n) (k : Below w.heap.size w w') : NV w' v n := ⟨Reads.below h.1 k, fun g off len cap e hl => by
  obtain ⟨cur, hc⟩ := h.2 g off len cap e hl
  exact ⟨cur, below_blk k hc hc.lt⟩⟩
theorem NV.slice {w : World} {v : Value} {n : Nat} (h : NV w v n) : ∃ a cap, v = .slice a (ln n) cap := Reads.slice h.1
theorem NV.zero (w : World) : NV w (.slice none 0 0) 0 := ⟨Or.inl ⟨ln_zero, by rw [dg_zero]; rfl, none, 0, rfl⟩, fun g off len cap e _ => by cases e⟩
theorem RO.len {base : Nat} {w : World} {v : Value} {l : List Int} (h : RO base w v l) : l.length ≤ maxLen := by
  obtain ⟨_, hv | ⟨g, cap, cur, _, _, _, h4, h5, _⟩⟩ := h
  · have := hv.2; rw [this]; exact Nat.zero_le _
  · omega
theorem NO.nv {base : Nat} {w : World} {v : Value} {n : Nat} (h : NO base w v n) : NV w v n :=
  ⟨Reads.of_owns h (show ln n ≤ 9223372036854775807 by have := h.len; unfold maxLen at this; unfold ln; omega), fun g off len cap e _ => by
    obtain ⟨_, hv | ⟨g', cap', cur, hv, _, h3, _⟩⟩ := h
    · rw [hv.1] at e; cases e
    · rw [hv] at e
      injection e with e1
      injection e1 with e1
      injection e1 with e1
      subst e1
      exact ⟨cur, h3⟩⟩
theorem RO.below {base : Nat} {w w' : World} {v : Value} {l : List Int} (h : RO base w v l) (k : Below w.heap.size w w') : RO base w' v l := by
  obtain ⟨h1, h2⟩ := h
  refine ⟨h1, h2.imp id ?_⟩
  rintro ⟨g, cap, cur, e1, e2, e3, e4⟩
  exact ⟨g, cap, cur, e1, e2, below_blk k (show Blk w g cur _ from e3) (show Blk w g cur _ from e3).lt, e4⟩
theorem RO.le {base base' : Nat} {w : World} {v : Value} {l : List Int} (h : RO base w v l) (hb : base' ≤ base) : RO base' w v l :=
  ⟨h.1, h.2.imp id (fun ⟨g, cap, cur, e1, e2, e3⟩ => ⟨g, cap, cur, e1, Nat.le_trans hb e2, e3⟩)⟩
theorem RO.slice {base : Nat} {w : World} {v : Value} {l : List Int} (h : RO base w v l) : ∃ a c, v = .slice a l.length c := by
  obtain ⟨_, hv | ⟨g, cap, cur, rfl, _⟩⟩ := h
  · rw [hv.2]; exact ⟨none, 0, hv.1⟩
  · exact ⟨_, _, rfl⟩
theorem RO.nil (base : Nat) (w : World) : RO base w (.slice none 0 0) [] := ⟨rfl, Or.inl ⟨rfl, rfl⟩⟩
theorem NO.zero (base : Nat) (w : World) : NO base w (.slice none 0 0) 0 := by unfold NO; rw [dg_zero]; exact RO.nil _ _
/-- A shorter slice of an own row. -/
theorem RO.take {base : Nat} {w : World} {A : Option Addr} {c : Nat} {l : List Int} (h : RO base w (.slice A l.length c) l) (k : Nat) (hk : k ≤ l.length) : RO base w (.slice A k c) (l.take k) := by
  have hl : (l.take k).length = k := by rw [List.length_take, Nat.min_eq_left hk]
  unfold RO
  rw [hl]
  obtain ⟨h1, hv | ⟨g, cap, cur, hv, h2, h3, h4, h5, h6, h7⟩⟩ := h
  · have h0 : l.length = 0 := hv.2
    have : k = 0 := by omega
    subst this
    refine ⟨by rw [u32s_len]; omega, Or.inl ⟨?_, rfl⟩⟩
    have := hv.1; rw [h0] at this; exact this
  · cases hv
    refine ⟨by rw [u32s_len]; omega, Or.inr ⟨g, c, cur, rfl, h2, h3, by omega, h5, h6, ?_⟩⟩
    rw [u32s_take, ← h7, List.take_take]; congr 1; omega
theorem RO.cell {base : Nat} {w : World} {A : Option Addr} {c : Nat} {l : List Int} (h : RO base w (.slice A l.length c) l) {j : Nat} (hj : j < l.length) : ∃ g, A = some ⟨g, 0, none⟩ ∧ base ≤ g ∧ w.cell? ⟨g, j, none⟩ = some (.int .u32 (l.getD j 0)) ∧ w.frozen? ⟨g, j, none⟩ = false := by
  obtain ⟨h1, hv | ⟨g, cap, cur, hv, h2, h3, h4, h5, h6, h7⟩⟩ := h
  · have := hv.2; omega
  · cases hv
    refine ⟨g, rfl, h2, ?_, (show Blk w g cur _ from h3).free j⟩
    have hx := u32s_get hj
    rw [← h7, List.getElem?_take, if_pos (by omega), Array.getElem?_toList] at hx
    exact (show Blk w g cur _ from h3).cell j hx
theorem RO.cap {base : Nat} {w : World} {A : Option Addr} {c : Nat} {l : List Int} (h : RO base w (.slice A l.length c) l) : l.length ≤ c := by
  obtain ⟨h1, hv | ⟨g, cap, cur, hv, h2, h3, h4, h5, h6, h7⟩⟩ := h
  · rw [hv.2]; exact Nat.zero_le _
  · cases hv; exact h4
/-- A canonical piece of an own row. -/
theorem RO.no {base : Nat} {w : World} {v : Value} {l : List Int} {n : Nat} (h : RO base w v l) (hd : DgOk l) (hl : l = [] ∨ l.getD (l.length - 1) 0 ≠ 0) (hn : (val l).toNat = n) : NO base w v n := by
  subst hn; unfold NO; rw [dg_of hd hl]; exact h
def lenOf : Value → Nat
  | .slice _ n _ => n
  | _ => 0
set_option maxHeartbeats 1000000 in
theorem ntrim_c (base : Nat) (v : Value) (l : List Int) (w : World) (h : RO base w v l) (hd : DgOk l) :
    Calls Tryd.prog 68 #[v] w fun e w' => (∃ v', e = .returned v' ∧ NO base w v' (val l).toNat) ∧ w' = w := by
  obtain ⟨A, c, rfl⟩ := h.slice
  have hz := h.len
  have hcap := h.cap
  unfold maxLen at hz
  obtain ⟨n, hn⟩ : ∃ n, l.length = n := ⟨_, rfl⟩
  have HN := Lib.hid hn
  have HH : Hid (RO base w (.slice A l.length c) l) := h
  rw [hn] at hz hcap ⊢
  clear hn h
  go_enter Tryd.func68, Tryd.ntmps68
  go_wp2_with fail
  go_loop [0] (fun v => ∃ k : Nat, k ≤ n ∧ v = .slice A k c ∧ Hid (val (l.take k) = val l)) (fun v => lenOf v)
  case atStart => exact ⟨n, Nat.le_refl _, rfl, by show val _ = _; rw [List.take_of_length_le (by rw [HN.out]; exact Nat.le_refl _)]⟩
  case round =>
    obtain ⟨k, hk, rfl, hval⟩ := hrel
    rcases Nat.eq_zero_or_pos k with h0 | h0
    · subst h0
      have hfin : NO base w (.slice A 0 c) (val l).toNat := (HH.out.take 0 (Nat.zero_le _)).no (hd.take _) (Or.inl rfl) (by rw [hval.out])
      go_wp2_with fail
      go_ret
      exact ⟨⟨_, rfl, hfin⟩, rfl⟩
    · obtain ⟨j, rfl⟩ : ∃ j, k = j + 1 := ⟨k - 1, by omega⟩
      have hjc : j ≤ c := by omega
      obtain ⟨g, rfl, hg, hcell, _⟩ := HH.out.cell (j := j) (by rw [HN.out]; omega)
      obtain ⟨x, hx⟩ : ∃ x, l.getD j 0 = x := ⟨_, rfl⟩
      rw [hx] at hcell
      have HX := Lib.hid hx
      clear hx
      by_cases hx0 : x = 0
      · subst hx0
        go_wp2_with fail
        go_round
        case rel => exact ⟨j, by omega, rfl, by show val _ = _; rw [← hval.out, val_take_succ (by rw [HN.out]; omega), HX.out]; omega⟩
        case measure => simp [lenOf]
      · have q1 : (x == 0) = false := by simpa using hx0
        have hfin : NO base w (.slice (some ⟨g, 0, none⟩) (j + 1) c) (val l).toNat := (HH.out.take (j + 1) (by rw [HN.out]; exact hk)).no (hd.take _) (Or.inr (by
          have hlen : (l.take (j + 1)).length = j + 1 := by rw [List.length_take, HN.out]; omega
          rw [hlen]
          simp only [Nat.add_sub_cancel, List.getD_eq_getElem?_getD, List.getElem?_take]
          rw [if_pos (by omega), ← List.getD_eq_getElem?_getD, HX.out]; exact hx0)) (by rw [hval.out])
        go_wp2_with fail
        go_ret
        exact ⟨⟨_, rfl, hfin⟩, rfl⟩
end Go.Proofs.YtkpalfgnfhphjaaDoor
