/- meter: a form in memory. -/
import Derived.Test.YthcddboeejbncaaPkMet2Mat1
import Derived.Test.YthcddboeejbncaaPkRat5Bal6
namespace Go.Proofs.Ythcddboeejbncaa
open Go.RowKit

/-- One entry changed. -/
def setR (f : Nat → Rat) (i : Nat) (q : Rat) : Nat → Rat := fun j => if j = i then q else f j
theorem RowM.put {W : World} {rb L : Nat} {f : Nat → Rat} (h : RowM W rb L f) {c : Nat} (hc : c < L) {ng : Bool} {vn vd : Value} {q : Rat} (hq : QC W ng vn vd q) : RowM (putQ W rb (c * 3) ng vn vd) rb L (setR f c q) := by
  obtain ⟨cur, h1, h2, h3, h4⟩ := h
  have hb := but_putQ W rb (c * 3) ng vn vd
  obtain ⟨na, nc, da, dl, dc, rfl, rfl, _⟩ := hq.parts
  refine ⟨((cur.setIfInBounds (c * 3) (.bool ng)).setIfInBounds (c * 3 + 1) (.slice na _ nc)).setIfInBounds (c * 3 + 2) (.slice da dl dc), ((h1.set (c * 3) _).set (c * 3 + 1) _).set (c * 3 + 2) _, ?_, by simpa using h3, fun k hk => ?_⟩
  · exact trivial
  · have hq' : QC (putQ W rb (c * 3) ng (.slice na (ln q.num.natAbs) nc) (.slice da dl dc)) ng (.slice na (ln q.num.natAbs) nc) (.slice da dl dc) q := hq.keepT h1 (by decide) hb
    by_cases hkc : k = c
    · subst hkc
      have e : setR f k q k = q := if_pos rfl
      rw [e]
      refine ⟨ng, _, _, ?_, ?_, ?_, hq'⟩
      · rw [Array.getElem?_setIfInBounds_ne (by omega), Array.getElem?_setIfInBounds_ne (by omega), Nat.mul_comm 3 k, Array.getElem?_setIfInBounds_self_of_lt (by omega)]
      · rw [Array.getElem?_setIfInBounds_ne (by omega), Nat.mul_comm 3 k, Array.getElem?_setIfInBounds_self_of_lt (by simp; omega)]
      · rw [Nat.mul_comm 3 k, Array.getElem?_setIfInBounds_self_of_lt (by simp; omega)]
    · have e : setR f c q k = f k := if_neg hkc
      rw [e]
      obtain ⟨ng', vn', vd', e1, e2, e3, e4⟩ := (h4 k hk).keepT h1 (by decide) hb
      refine ⟨ng', vn', vd', ?_, ?_, ?_, e4⟩
      · rw [Array.getElem?_setIfInBounds_ne (by omega), Array.getElem?_setIfInBounds_ne (by omega), Array.getElem?_setIfInBounds_ne (by omega)]; exact e1
      · rw [Array.getElem?_setIfInBounds_ne (by omega), Array.getElem?_setIfInBounds_ne (by omega), Array.getElem?_setIfInBounds_ne (by omega)]; exact e2
      · rw [Array.getElem?_setIfInBounds_ne (by omega), Array.getElem?_setIfInBounds_ne (by omega), Array.getElem?_setIfInBounds_ne (by omega)]; exact e3
theorem RowM.ent {W : World} {rb L : Nat} {f : Nat → Rat} (h : RowM W rb L f) {c : Nat} (hc : c < L) :
    ∃ ng na nl nc da dl dc, W.cell? ⟨rb, c * 3, none⟩ = some (.bool ng) ∧ W.cell? ⟨rb, c * 3 + 1, none⟩ = some (.slice na nl nc) ∧ W.cell? ⟨rb, c * 3 + 2, none⟩ = some (.slice da dl dc) ∧ QC W ng (.slice na nl nc) (.slice da dl dc) (f c) := by
  obtain ⟨cur, h1, _, _, h4⟩ := h
  obtain ⟨ng, vn, vd, e1, e2, e3, e4⟩ := h4 c hc
  obtain ⟨na, nc, da, dl, dc, rfl, rfl, _⟩ := e4.parts
  rw [Nat.mul_comm] at e1 e2 e3
  exact ⟨ng, na, _, nc, da, dl, dc, h1.cell _ e1, h1.cell _ e2, h1.cell _ e3, e4⟩
theorem RowM.free {W : World} {rb L : Nat} {f : Nat → Rat} (h : RowM W rb L f) (j : Nat) : W.frozen? ⟨rb, j, none⟩ = false := by
  obtain ⟨cur, h1, _⟩ := h
  exact h1.free j
theorem RowM.lt {W : World} {rb L : Nat} {f : Nat → Rat} (h : RowM W rb L f) : rb < W.heap.size := by
  obtain ⟨cur, h1, _⟩ := h
  exact h1.lt
theorem RowM.blk {W : World} {rb L : Nat} {f : Nat → Rat} (h : RowM W rb L f) : ∃ cur, Blk W rb cur 80 := by
  obtain ⟨cur, h1, _⟩ := h
  exact ⟨cur, h1⟩
/-- A form: its box f, the row g of its coefficients. -/
structure LF (W : World) (f g m : Nat) (C : Nat → Rat) (D : Rat) : Prop where
  box : ∃ ng vn vd, Blk W f #[.slice (some ⟨g, 0, none⟩) m m, .bool ng, vn, vd] 99 ∧ QC W ng vn vd D
  row : RowM W g m C
  ne : f ≠ g
theorem LF.below {W W' : World} {f g m : Nat} {C : Nat → Rat} {D : Rat} (h : LF W f g m C D) (k : Below W.heap.size W W') : LF W' f g m C D := by
  obtain ⟨ng, vn, vd, h1, h2⟩ := h.box
  exact ⟨⟨ng, vn, vd, below_blk k h1 h1.lt, h2.below k⟩, h.row.below k, h.ne⟩
theorem LF.parts {W : World} {f g m : Nat} {C : Nat → Rat} {D : Rat} (h : LF W f g m C D) : ∃ ng na n nc da dl dc, Blk W f #[.slice (some ⟨g, 0, none⟩) m m, .bool ng, .slice na n nc, .slice da dl dc] 99 ∧ QC W ng (.slice na n nc) (.slice da dl dc) D := by
  obtain ⟨ng, vn, vd, h1, h2⟩ := h.box
  obtain ⟨na, nc, da, dl, dc, rfl, rfl, _⟩ := h2.parts
  exact ⟨ng, na, _, nc, da, dl, dc, h1, h2⟩
theorem LF.flt {W : World} {f g m : Nat} {C : Nat → Rat} {D : Rat} (h : LF W f g m C D) : f < W.heap.size := by
  obtain ⟨ng, vn, vd, h1, _⟩ := h.box
  exact h1.lt
theorem LF.put {W : World} {f g m : Nat} {C : Nat → Rat} {D : Rat} (h : LF W f g m C D) {c : Nat} (hc : c < m) {ng : Bool} {vn vd : Value} {q : Rat} (hq : QC W ng vn vd q) : LF (putQ W g (c * 3) ng vn vd) f g m (setR C c q) D := by
  obtain ⟨ng', vn', vd', h1, h2⟩ := h.box
  obtain ⟨cur, hb⟩ := h.row.blk
  exact ⟨⟨ng', vn', vd', (but_putQ ..).blk h1 h.ne, h2.keepT hb (by decide) (but_putQ ..)⟩, h.row.put hc hq, h.ne⟩
abbrev setD (W : World) (f : Nat) (v0 v1 v2 : Value) : World := ((W.setCell ⟨f, 1, none⟩ v0).setCell ⟨f, 2, none⟩ v1).setCell ⟨f, 3, none⟩ v2
theorem but_setD (W : World) (b : Nat) (v0 v1 v2 : Value) : But b W (setD W b v0 v1 v2) := (((But.refl _ _).set 1 _).set 2 _).set 3 _
theorem LF.putD {W : World} {f g m : Nat} {C : Nat → Rat} {D : Rat} (h : LF W f g m C D) {ng : Bool} {vn vd : Value} {q : Rat} (hq : QC W ng vn vd q) : LF (setD W f (.bool ng) vn vd) f g m C q := by
  obtain ⟨ng', vn', vd', h1, h2⟩ := h.box
  exact ⟨⟨ng, vn, vd, ((h1.set 1 _).set 2 _).set 3 _, hq.keepT h1 (by decide) (but_setD ..)⟩, h.row.keepT h1 (by decide) (but_setD ..) (fun e => h.ne e.symm), h.ne⟩
/-- The bus of a node. -/
def busAt (n : Net) (s : ByteArray) : Int := (busesE n).getD (idxS s n.nodes 0).toNat 0
/-- The flow of a branch for each radian, with its sign. -/
def yQ (x : NBr) (sg : Int) : Rat := ((sg * 1000000 : Int) : Rat) / ((x.x * x.tap : Int) : Rat)
def flowC (y : Rat) (i1 i2 : Nat) (C : Nat → Rat) : Nat → Rat := setR (setR C i1 (C i1 + y)) i2 (setR C i1 (C i1 + y) i2 - y)
def flowD (y : Rat) (sh : Int) (D : Rat) : Rat := D - y * ((sh : Int) : Rat) / ((1000 : Int) : Rat)
theorem sz_i (n : Int) (h0 : -100000000 < n) (h1 : n < 100000000) : sz ((n : Int) : Rat) ≤ 8 := by
  unfold sz
  rw [Rat.num_intCast, Rat.den_intCast]
  have h2 := ln_dT n.natAbs
  have h3 := dT_len (n := n.natAbs) (k := 8) (by decide) (by omega)
  have h4 := ln_dT 1
  have h5 := dT_len (n := 1) (k := 8) (by decide) (by decide)
  omega
theorem sz_y {x : NBr} {sg : Int} (h1 : sg = 1 ∨ sg = -1) (h2 : 1 ≤ x.x ∧ x.x ≤ 10000) (h3 : 500 ≤ x.tap ∧ x.tap ≤ 1500) : sz (yQ x sg) ≤ 16 ∧ 0 < x.x * x.tap ∧ x.x * x.tap ≤ 15000000 := by
  have a1 : x.x * x.tap ≤ 10000 * 1500 := Int.mul_le_mul h2.2 h3.2 (by omega) (by omega)
  have a2 : 0 < x.x * x.tap := Int.mul_pos (by omega) (by omega)
  have a3 := sz_i (sg * 1000000) (by omega) (by omega)
  have a4 := sz_i (x.x * x.tap) (by omega) (by omega)
  have a5 := sz_quo ((sg * 1000000 : Int) : Rat) ((x.x * x.tap : Int) : Rat)
  refine ⟨?_, a2, by omega⟩
  unfold yQ
  omega
theorem sz_flowC {y : Rat} {i1 i2 m s : Nat} {C : Nat → Rat} (hC : ∀ i, i < m → sz (C i) ≤ s) (hy : sz y ≤ 16) (h1 : i1 < m) (h2 : i2 < m) : ∀ i, i < m → sz (flowC y i1 i2 C i) ≤ s + 34 := by
  have a : ∀ i, i < m → sz (setR C i1 (C i1 + y) i) ≤ s + 17 := by
    intro i hi
    unfold setR
    split
    · have := sz_add (C i1) y; have := hC i1 h1; omega
    · have := hC i hi; omega
  intro i hi
  unfold flowC
  generalize setR C i1 (C i1 + y) = C' at *
  unfold setR
  split
  · have := sz_sub (C' i2) y; have := a i2 h2; omega
  · have := a i hi; omega
theorem sz_flowD {y D : Rat} {sh : Int} {s : Nat} (hD : sz D ≤ s) (hy : sz y ≤ 16) (h0 : -1000 ≤ sh) (h1 : sh ≤ 1000) : sz (y * ((sh : Int) : Rat)) ≤ 24 ∧ sz (y * ((sh : Int) : Rat) / ((1000 : Int) : Rat)) ≤ 32 ∧ sz (flowD y sh D) ≤ s + 34 := by
  have a1 := sz_mul y ((sh : Int) : Rat)
  have a2 := sz_i sh (by omega) (by omega)
  have a3 := sz_quo (y * ((sh : Int) : Rat)) ((1000 : Int) : Rat)
  have a4 := sz_i 1000 (by decide) (by decide)
  have a5 := sz_sub D (y * ((sh : Int) : Rat) / ((1000 : Int) : Rat))
  refine ⟨by omega, by omega, ?_⟩
  unfold flowD
  omega
end Go.Proofs.Ythcddboeejbncaa
