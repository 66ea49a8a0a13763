/- Matrices of rational numbers in rows of the call's own. -/
import Derived.Test.YthcddboeejbncaaPkRat5Bal6
namespace Go.Proofs.Ythcddboeejbncaa
open Go.RowKit

/-- The entry c of a row's cells. -/
def EntC (W : World) (cur : Array Value) (c : Nat) (q : Rat) : Prop := ∃ ng vn vd, cur[3 * c]? = some (.bool ng) ∧ cur[3 * c + 1]? = some vn ∧ cur[3 * c + 2]? = some vd ∧ QC W ng vn vd q
/-- A row: its block holds the entries. -/
def RowM (W : World) (rb L : Nat) (f : Nat → Rat) : Prop := ∃ cur, Blk W rb cur 80 ∧ True ∧ 3 * L ≤ cur.size ∧ ∀ c, c < L → EntC W cur c (f c)
structure GM (W : World) (base gb R L : Nat) (rb rc : Nat → Nat) (M : Nat → Nat → Rat) : Prop where
  gblk : ∃ cur, Blk W gb cur 76 ∧ True ∧ R ≤ cur.size ∧ ∀ i, i < R → cur[i]? = some (.slice (some ⟨rb i, 0, none⟩) L (rc i))
  gbase : base ≤ gb
  rbase : ∀ i, i < R → base ≤ rb i ∧ rb i ≠ gb ∧ L ≤ rc i
  inj : ∀ i j, i < R → j < R → i ≠ j → rb i ≠ rb j
  row : ∀ i, i < R → RowM W (rb i) L (M i)
  len : L ≤ 9223372036854775807
theorem EntC.keep {W W' : World} {cur cs : Array Value} {c b : Nat} {T : TypeId} {q : Rat} (h : EntC W cur c q) (k : Blk W b cs T) (hc : NoDig cs) (hb : But b W W') : EntC W' cur c q := by
  obtain ⟨ng, vn, vd, h1, h2, h3, h4⟩ := h
  exact ⟨ng, vn, vd, h1, h2, h3, h4.1, h4.2.1.keep k hc hb, h4.2.2.imp (fun h => h.keep k hc hb) (fun h => ⟨h.1, h.2.keep k hc hb⟩)⟩
theorem EntC.keepT {W W' : World} {cur cs : Array Value} {c b : Nat} {T : TypeId} {q : Rat} (h : EntC W cur c q) (k : Blk W b cs T) (hT : T ≠ 123) (hb : But b W W') : EntC W' cur c q := by
  obtain ⟨ng, vn, vd, h1, h2, h3, h4⟩ := h
  exact ⟨ng, vn, vd, h1, h2, h3, h4.keepT k hT hb⟩
theorem EntC.below {W W' : World} {cur : Array Value} {c : Nat} {q : Rat} (h : EntC W cur c q) (k : Below W.heap.size W W') : EntC W' cur c q := by
  obtain ⟨ng, vn, vd, h1, h2, h3, h4⟩ := h
  exact ⟨ng, vn, vd, h1, h2, h3, h4.below k⟩
theorem RowM.below {W W' : World} {rb L : Nat} {f : Nat → Rat} (h : RowM W rb L f) (k : Below W.heap.size W W') : RowM W' rb L f := by
  obtain ⟨cur, h1, h2, h3, h4⟩ := h
  exact ⟨cur, below_blk k h1 h1.lt, h2, h3, fun c hc => (h4 c hc).below k⟩
/-- A store elsewhere. -/
theorem RowM.keep {W W' : World} {rb L b : Nat} {f : Nat → Rat} {cs : Array Value} {T : TypeId} (h : RowM W rb L f) (k : Blk W b cs T) (hc : NoDig cs) (hb : But b W W') (hn : rb ≠ b) : RowM W' rb L f := by
  obtain ⟨cur, h1, h2, h3, h4⟩ := h
  exact ⟨cur, hb.blk h1 hn, h2, h3, fun c hc' => (h4 c hc').keep k hc hb⟩
theorem RowM.keepT {W W' : World} {rb L b : Nat} {f : Nat → Rat} {cs : Array Value} {T : TypeId} (h : RowM W rb L f) (k : Blk W b cs T) (hT : T ≠ 123) (hb : But b W W') (hn : rb ≠ b) : RowM W' rb L f := by
  obtain ⟨cur, h1, h2, h3, h4⟩ := h
  refine ⟨cur, hb.blk h1 hn, h2, h3, fun c hc' => ?_⟩
  obtain ⟨ng, vn, vd, e1, e2, e3, e4⟩ := h4 c hc'
  exact ⟨ng, vn, vd, e1, e2, e3, e4.keepT k hT hb⟩
theorem GM.below {W W' : World} {base gb R L : Nat} {rb rc : Nat → Nat} {M : Nat → Nat → Rat} (h : GM W base gb R L rb rc M) (k : Below W.heap.size W W') : GM W' base gb R L rb rc M := by
  obtain ⟨cur, h1, h2, h3, h4⟩ := h.gblk
  exact ⟨⟨cur, below_blk k h1 h1.lt, h2, h3, h4⟩, h.gbase, h.rbase, h.inj, fun i hi => (h.row i hi).below k, h.len⟩
theorem GM.congr {W : World} {base gb R L : Nat} {rb rc : Nat → Nat} {M M' : Nat → Nat → Rat} (h : GM W base gb R L rb rc M) (e : ∀ i c, i < R → c < L → M i c = M' i c) : GM W base gb R L rb rc M' :=
  ⟨h.gblk, h.gbase, h.rbase, h.inj, fun i hi => by
    obtain ⟨cur, h1, h2, h3, h4⟩ := h.row i hi
    exact ⟨cur, h1, h2, h3, fun c hc => by rw [← e i c hi hc]; exact h4 c hc⟩, h.len⟩
theorem GM.rowCell {W : World} {base gb R L : Nat} {rb rc : Nat → Nat} {M : Nat → Nat → Rat} (h : GM W base gb R L rb rc M) {i : Nat} (hi : i < R) : W.cell? ⟨gb, i, none⟩ = some (.slice (some ⟨rb i, 0, none⟩) L (rc i)) := by
  obtain ⟨cur, h1, _, _, h4⟩ := h.gblk
  exact h1.cell i (h4 i hi)
theorem GM.ent {W : World} {base gb R L : Nat} {rb rc : Nat → Nat} {M : Nat → Nat → Rat} (h : GM W base gb R L rb rc M) {i c : Nat} (hi : i < R) (hc : c < L) :
    ∃ ng na nl nc da dl dc, W.cell? ⟨rb i, c * 3, none⟩ = some (.bool ng) ∧ W.cell? ⟨rb i, c * 3 + 1, none⟩ = some (.slice na nl nc) ∧ W.cell? ⟨rb i, c * 3 + 2, none⟩ = some (.slice da dl dc) ∧ QC W ng (.slice na nl nc) (.slice da dl dc) (M i c) := by
  obtain ⟨cur, h1, _, _, h4⟩ := h.row i hi
  obtain ⟨ng, vn, vd, e1, e2, e3, e4⟩ := h4 c hc
  obtain ⟨na, nc, da, dl, dc, rfl, rfl, _⟩ := e4.parts
  rw [Nat.mul_comm] at e1 e2 e3
  exact ⟨ng, na, _, nc, da, dl, dc, h1.cell _ e1, h1.cell _ e2, h1.cell _ e3, e4⟩
theorem GM.free {W : World} {base gb R L : Nat} {rb rc : Nat → Nat} {M : Nat → Nat → Rat} (h : GM W base gb R L rb rc M) {i : Nat} (hi : i < R) (j : Nat) : W.frozen? ⟨rb i, j, none⟩ = false := by
  obtain ⟨cur, h1, _⟩ := h.row i hi
  exact h1.free j
theorem GM.rlt {W : World} {base gb R L : Nat} {rb rc : Nat → Nat} {M : Nat → Nat → Rat} (h : GM W base gb R L rb rc M) {i : Nat} (hi : i < R) : rb i < W.heap.size := by
  obtain ⟨cur, h1, _⟩ := h.row i hi
  exact h1.lt
theorem GM.glt {W : World} {base gb R L : Nat} {rb rc : Nat → Nat} {M : Nat → Nat → Rat} (h : GM W base gb R L rb rc M) : gb < W.heap.size := by
  obtain ⟨cur, h1, _⟩ := h.gblk
  exact h1.lt
/-- One entry changed. -/
def setM (M : Nat → Nat → Rat) (i c : Nat) (q : Rat) : Nat → Nat → Rat := fun i' c' => if i' = i ∧ c' = c then q else M i' c'
def putQ (W : World) (b o : Nat) (ng : Bool) (vn vd : Value) : World := ((W.setCell ⟨b, o, none⟩ (.bool ng)).setCell ⟨b, o + 1, none⟩ vn).setCell ⟨b, o + 2, none⟩ vd
theorem but_putQ (W : World) (b o : Nat) (ng : Bool) (vn vd : Value) : But b W (putQ W b o ng vn vd) := (((But.refl b W).set o _).set (o + 1) _).set (o + 2) _
theorem noDig_set {cs : Array Value} (h : NoDig cs) (j : Nat) (v : Value) (hv : ∀ z, v ≠ .int .u32 z) : NoDig (cs.setIfInBounds j v) := by
  intro i z
  rw [Array.getElem?_setIfInBounds]
  split
  · split
    · intro e; exact hv z (Option.some.inj e)
    · simp
  · exact h i z
theorem GM.put {W : World} {base gb R L : Nat} {rb rc : Nat → Nat} {M : Nat → Nat → Rat} (h : GM W base gb R L rb rc M) {i c : Nat} (hi : i < R) (hc : c < L) {ng : Bool} {vn vd : Value} {q : Rat} (hq : QC W ng vn vd q) : GM (putQ W (rb i) (c * 3) ng vn vd) base gb R L rb rc (setM M i c q) := by
  obtain ⟨cur, h1, h2, h3, h4⟩ := h.row i hi
  have hb := but_putQ W (rb i) (c * 3) ng vn vd
  obtain ⟨na, nc, da, dl, dc, rfl, rfl, _⟩ := hq.parts
  obtain ⟨gcur, g1, g2, g3, g4⟩ := h.gblk
  refine ⟨⟨gcur, hb.blk g1 (fun e => (h.rbase i hi).2.1 e.symm), g2, g3, g4⟩, h.gbase, h.rbase, h.inj, fun j hj => ?_, h.len⟩
  by_cases hji : j = i
  · subst hji
    refine ⟨((cur.setIfInBounds (c * 3) (.bool ng)).setIfInBounds (c * 3 + 1) (.slice na _ nc)).setIfInBounds (c * 3 + 2) (.slice da dl dc), ((h1.set (c * 3) _).set (c * 3 + 1) _).set (c * 3 + 2) _, ?_, by simpa using h3, fun k hk => ?_⟩
    · exact trivial
    · have hq' : QC (putQ W (rb j) (c * 3) ng (.slice na (ln q.num.natAbs) nc) (.slice da dl dc)) ng (.slice na (ln q.num.natAbs) nc) (.slice da dl dc) q :=
        hq.keepT h1 (by decide) hb
      by_cases hkc : k = c
      · subst hkc
        have e : setM M j k q j k = q := if_pos ⟨rfl, rfl⟩
        rw [e]
        refine ⟨ng, _, _, ?_, ?_, ?_, hq'⟩
        · rw [Array.getElem?_setIfInBounds_ne (by omega), Array.getElem?_setIfInBounds_ne (by omega), Nat.mul_comm 3 k, Array.getElem?_setIfInBounds_self_of_lt (by omega)]
        · rw [Array.getElem?_setIfInBounds_ne (by omega), Nat.mul_comm 3 k, Array.getElem?_setIfInBounds_self_of_lt (by simp; omega)]
        · rw [Nat.mul_comm 3 k, Array.getElem?_setIfInBounds_self_of_lt (by simp; omega)]
      · have e : setM M j c q j k = M j k := if_neg (fun h => hkc h.2)
        rw [e]
        obtain ⟨ng', vn', vd', e1, e2, e3, e4⟩ := (h4 k hk).keepT h1 (by decide) hb
        refine ⟨ng', vn', vd', ?_, ?_, ?_, e4⟩
        · rw [Array.getElem?_setIfInBounds_ne (by omega), Array.getElem?_setIfInBounds_ne (by omega), Array.getElem?_setIfInBounds_ne (by omega)]; exact e1
        · rw [Array.getElem?_setIfInBounds_ne (by omega), Array.getElem?_setIfInBounds_ne (by omega), Array.getElem?_setIfInBounds_ne (by omega)]; exact e2
        · rw [Array.getElem?_setIfInBounds_ne (by omega), Array.getElem?_setIfInBounds_ne (by omega), Array.getElem?_setIfInBounds_ne (by omega)]; exact e3
  · have hr := (h.row j hj).keepT h1 (by decide) hb (h.inj j i hj hi hji)
    obtain ⟨cur', k1, k2, k3, k4⟩ := hr
    exact ⟨cur', k1, k2, k3, fun k hk => by
      have e : setM M i c q j k = M j k := if_neg (fun h => hji h.1)
      rw [e]; exact k4 k hk⟩
/-- What reads beside the rows: a boxed number. -/
theorem QC.put {W : World} {b o : Nat} {ng g : Bool} {vn vd un ud : Value} {q : Rat} {cs : Array Value} {T : TypeId} (h : QC W g un ud q) (k : Blk W b cs T) (hT : T ≠ 123) : QC (putQ W b o ng vn vd) g un ud q := h.keepT k hT (but_putQ ..)
theorem GM.keepT {W W' : World} {base gb R L b : Nat} {rb rc : Nat → Nat} {M : Nat → Nat → Rat} {cs : Array Value} {T : TypeId} (h : GM W base gb R L rb rc M) (k : Blk W b cs T) (hT : T ≠ 123) (hb : But b W W') (hg : gb ≠ b) (hr : ∀ i, i < R → rb i ≠ b) : GM W' base gb R L rb rc M := by
  obtain ⟨cur, h1, h2, h3, h4⟩ := h.gblk
  exact ⟨⟨cur, hb.blk h1 hg, h2, h3, h4⟩, h.gbase, h.rbase, h.inj, fun i hi => (h.row i hi).keepT k hT hb (hr i hi), h.len⟩
/-- w' is w but for the blocks of S and new ones. -/
structure ButS (S : Nat → Prop) (w w' : World) : Prop where
  os : w'.os = w.os
  tape : w'.tape = w.tape
  output : w'.output = w.output
  size : w.heap.size ≤ w'.heap.size
  block : ∀ b, b < w.heap.size → ¬ S b → w'.heap[b]? = w.heap[b]?
theorem ButS.refl (S : Nat → Prop) (w : World) : ButS S w w := ⟨rfl, rfl, rfl, Nat.le_refl _, fun _ _ _ => rfl⟩
theorem ButS.below {S : Nat → Prop} {w w1 w2 : World} (h : ButS S w w1) (k : Below w1.heap.size w1 w2) : ButS S w w2 :=
  ⟨k.os.trans h.os, k.tape.trans h.tape, k.output.trans h.output, Nat.le_trans h.size k.size, fun b hb hn => (k.block b (Nat.lt_of_lt_of_le hb h.size)).trans (h.block b hb hn)⟩
theorem ButS.trans {S : Nat → Prop} {w w1 w2 : World} (h : ButS S w w1) (k : ButS S w1 w2) : ButS S w w2 :=
  ⟨k.os.trans h.os, k.tape.trans h.tape, k.output.trans h.output, Nat.le_trans h.size k.size, fun b hb hn => (k.block b (Nat.lt_of_lt_of_le hb h.size) hn).trans (h.block b hb hn)⟩
theorem ButS.mono {S S' : Nat → Prop} {w w1 : World} (h : ButS S w w1) (hs : ∀ b, S b → S' b) : ButS S' w w1 :=
  ⟨h.os, h.tape, h.output, h.size, fun b hb hn => h.block b hb (fun hS => hn (hs b hS))⟩
theorem ButS.above {S : Nat → Prop} {w w1 w2 : World} (h : ButS S w w1) (k : Below w.heap.size w1 w2) : ButS S w w2 :=
  ⟨k.os.trans h.os, k.tape.trans h.tape, k.output.trans h.output, Nat.le_trans h.size k.size, fun b hb hn => (k.block b hb).trans (h.block b hb hn)⟩
theorem ButS.alloc {S : Nat → Prop} {w w1 : World} (h : ButS S w w1) (o : Obj) : ButS S w (w1.alloc o) := h.below (belowA (Below.refl _ _) o)
theorem ButS.set {S : Nat → Prop} {w w1 : World} (h : ButS S w w1) {a : Addr} (ha : S a.block ∨ w.heap.size ≤ a.block) (v : Value) : ButS S w (w1.setCell a v) :=
  ⟨h.os, h.tape, h.output, by simpa [World.setCell] using h.size, fun b hb hn => by
    rw [Below.heap_setCell _ _ _ _ (fun e => by
      rcases ha with ha | ha
      · exact hn (e ▸ ha)
      · omega)]
    exact h.block b hb hn⟩
theorem ButS.toBelow {S : Nat → Prop} {base : Nat} {w w1 : World} (h : ButS S w w1) (hS : ∀ b, S b → base ≤ b) (hb : base ≤ w.heap.size) : Below base w w1 :=
  ⟨h.os, h.tape, h.output, h.size, fun b hb' => h.block b (by omega) (fun hs => by have := hS b hs; omega)⟩
theorem ButS.blk {S : Nat → Prop} {w w1 : World} (k : ButS S w w1) {b : Nat} {c : Array Value} {t : TypeId} (h : Blk w b c t) (hn : ¬ S b) : Blk w1 b c t := by
  have := h.lt; unfold Blk at h ⊢; rw [k.block b this hn]; exact h
/-- The blocks of the rows. -/
def RS (rb : Nat → Nat) (R : Nat) : Nat → Prop := fun b => ∃ i, i < R ∧ rb i = b
end Go.Proofs.Ythcddboeejbncaa
