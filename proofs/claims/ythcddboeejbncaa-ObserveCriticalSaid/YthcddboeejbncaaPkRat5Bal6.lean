/- rat: Abs, Fits, Out, told. rat: Cmp, told, CheckAll. rat: numbers in blocks; In. rat: Add, Sub, Mul, Compare at texts; the laws' helpers over them. rat.Sum; sums of numbers. balance: check, sums. Lists of rationals in memory; matrix: Row, Out. matrix: Out, CheckVec, product, Dot. balance: Boundary. -/
import Derived.Test.YthcddboeejbncaaPzTxt7
import Derived.Test.YthcddboeejbncaaPzRat4
import Derived.Test.YthcddboeejbncaaPzNetR
import Derived.Test.YthcddboeejbncaaPzNetK
import Derived.Deep.RegionHeld3
namespace Go.Proofs.Ythcddboeejbncaa
open Go.RowKit

/-- The absolute value. -/
def absQ (q : Rat) : Rat := if q.num < 0 then -q else q
theorem absQ_parts (q : Rat) : (absQ q).num.natAbs = q.num.natAbs ∧ (absQ q).den = q.den ∧ ¬ (absQ q).num < 0 := by
  unfold absQ
  by_cases h : q.num < 0
  · rw [if_pos h, Rat.neg_num, Rat.neg_den, Int.natAbs_neg]; exact ⟨rfl, rfl, by omega⟩
  · rw [if_neg h]; exact ⟨rfl, rfl, h⟩
theorem absQ_zero {q : Rat} : q = 0 → absQ q = 0 := fun h => by rw [h]; rfl
theorem QC.abs {w : World} {ng : Bool} {vn vd : Value} {q : Rat} (h : QC w ng vn vd q) : QC w false vn vd (absQ q) := by
  obtain ⟨p1, p2, p3⟩ := absQ_parts q
  refine ⟨by rw [decide_eq_false p3], by rw [p1]; exact h.2.1, ?_⟩
  rw [p2]
  exact h.2.2.imp id (fun ⟨h0, h1⟩ => ⟨absQ_zero h0, h1⟩)
/-- What Fits answers. -/
def fitE (q : Rat) : Int := if (dT q.num.natAbs).length ≤ 2000 ∧ (dT q.den).length ≤ 2000 then 0 else 2
theorem fitE_ok {q : Rat} : fitE q = 0 ↔ FitQ q := by
  unfold fitE FitQ
  constructor
  · intro h
    split at h
    · assumption
    · cases h
  · intro h; rw [if_pos h]
theorem dT_ln (n : Nat) : (dT n).length ≤ 9 * ln n + 1 := by
  rcases Nat.eq_zero_or_pos n with rfl | hn
  · rw [dT_zero]; simp
  · have h1 := lt_ln n
    rw [pw_ten] at h1
    have h2 := ln_pos hn
    have := dT_len (n := n) (k := 9 * ln n) (by omega) (Int.ofNat_lt.1 h1)
    omega
theorem bs_app (a b : List UInt8) : bs a ++ bs b = bs (a ++ b) := by
  apply ByteArray.ext
  rw [ByteArray.data_append]
  apply Array.ext'
  simp
theorem nil_bs (x : ByteArray) : bs [] ++ x = x := by rw [← bs_data x, bs_app]; rfl
theorem bs_nil (x : ByteArray) : x ++ bs [] = x := by rw [← bs_data x, bs_app, List.append_nil]
theorem bs_assoc (x y z : ByteArray) : x ++ (y ++ z) = x ++ y ++ z := by rw [← bs_data x, ← bs_data y, ← bs_data z]; simp only [bs_app, List.append_assoc]
end Go.Proofs.Ythcddboeejbncaa
namespace Go.Proofs.Ythcddboeejbncaa
open Go.RowKit

/-- What Cmp answers. -/
def cmpR (p q : Rat) : Int := signR (p - q)
instance (q : Rat) : Decidable (FitQ q) := inferInstanceAs (Decidable (_ ∧ _))
/-- What told answers. -/
def toldE (q : Rat) : ByteArray × Int := if FitQ q then (bs (ratT q), 0) else (⟨#[]⟩, 2)
/-- What CheckAll answers. -/
def allE : List ByteArray → Int
  | [] => 0
  | s :: ss => if ratE s.data.toList ≠ 0 then ratE s.data.toList else allE ss
theorem allE_drop {ss : List ByteArray} {k : Nat} {s : ByteArray} (h : ss[k]? = some s) : allE (ss.drop k) = if ratE s.data.toList ≠ 0 then ratE s.data.toList else allE (ss.drop (k + 1)) := by
  obtain ⟨hk, hx⟩ := List.getElem?_eq_some_iff.1 h
  rw [List.drop_eq_getElem_cons hk, hx]; rfl
/-- Texts of numbers. -/
abbrev txts (qs : List Rat) : List ByteArray := qs.map fun q => bs (ratT q)
theorem allE_ok : ∀ {ss : List ByteArray}, allE ss = 0 → ∃ qs, ss = txts qs ∧ ∀ q ∈ qs, FitQ q
  | [], _ => ⟨[], rfl, fun q h => by cases h⟩
  | s :: ss, h => by
    unfold allE at h
    split at h
    · rename_i h1; exact absurd h h1
    · rename_i h1
      obtain ⟨q, e, hf⟩ := ratE_ok (Decidable.not_not.1 h1)
      obtain ⟨qs, es, hfs⟩ := allE_ok h
      refine ⟨q :: qs, ?_, ?_⟩
      · rw [es]
        show s :: _ = bs (ratT q) :: _
        rw [← e, bs_data]
      · intro x hx
        rcases List.mem_cons.1 hx with rfl | hx
        · exact hf
        · exact hfs x hx
theorem allE_of : ∀ {qs : List Rat}, (∀ q ∈ qs, FitQ q) → allE (txts qs) = 0
  | [], _ => rfl
  | q :: qs, h => by
    show allE (bs (ratT q) :: txts qs) = 0
    unfold allE
    rw [bs_list, if_neg (fun hh => hh (ratE_T (h q (List.mem_cons_self ..)))), allE_of (fun x hx => h x (List.mem_cons_of_mem _ hx))]
end Go.Proofs.Ythcddboeejbncaa
namespace Go.Proofs.Ythcddboeejbncaa
open Go.RowKit

theorem QC.keepT {W W' : World} {b : Nat} {ng : Bool} {vn vd : Value} {q : Rat} {cs : Array Value} {T : TypeId} (h : QC W ng vn vd q) (k : Blk W b cs T) (hT : T ≠ 123) (hb : But b W W') : QC W' ng vn vd q :=
  ⟨h.1, h.2.1.keepT k hT hb, h.2.2.imp (fun x => x.keepT k hT hb) (fun x => ⟨x.1, x.2.keepT k hT hb⟩)⟩
/-- A block that holds a rational number. -/
def QM (W : World) (b : Nat) (q : Rat) : Prop := ∃ ng vn vd, Blk W b #[.bool ng, vn, vd] 80 ∧ QC W ng vn vd q
theorem QM.below {W W' : World} {b : Nat} {q : Rat} (h : QM W b q) (k : Below W.heap.size W W') : QM W' b q := by
  obtain ⟨ng, vn, vd, h1, h2⟩ := h
  exact ⟨ng, vn, vd, below_blk k h1 h1.lt, h2.below k⟩
theorem QM.lt {W : World} {b : Nat} {q : Rat} (h : QM W b q) : b < W.heap.size := by
  obtain ⟨ng, vn, vd, h1, h2⟩ := h
  exact h1.lt
theorem QM.blk {W : World} {b : Nat} {q : Rat} (h : QM W b q) : ∃ cs, Blk W b cs 80 := by
  obtain ⟨ng, vn, vd, h1, h2⟩ := h
  exact ⟨_, h1⟩
theorem QM.other {W W' : World} {b b' : Nat} {q : Rat} {cs : Array Value} (h : QM W b q) (k : Blk W b' cs 80) (hb : But b' W W') (hn : b ≠ b') : QM W' b q := by
  obtain ⟨ng, vn, vd, h1, h2⟩ := h
  exact ⟨ng, vn, vd, hb.blk h1 hn, h2.keepT k (by decide) hb⟩
/-- The three stores of a number. -/
abbrev set3 (W : World) (b : Nat) (v0 v1 v2 : Value) : World := ((W.setCell ⟨b, 0, none⟩ v0).setCell ⟨b, 1, none⟩ v1).setCell ⟨b, 2, none⟩ v2
theorem but_set3 (W : World) (b : Nat) (v0 v1 v2 : Value) : But b W (set3 W b v0 v1 v2) := (((But.refl _ _).set 0 _).set 1 _).set 2 _
theorem QM.put {W : World} {b : Nat} {ng : Bool} {vn vd c0 c1 c2 : Value} {q : Rat} (k : Blk W b #[c0, c1, c2] 80) (h : QC W ng vn vd q) : QM (set3 W b (.bool ng) vn vd) b q :=
  ⟨ng, vn, vd, (((k.set 0 _).set 1 _).set 2 _).congr (by simp), h.keepT k (by decide) (but_set3 W b _ _ _)⟩
theorem QM.new {W : World} {ng : Bool} {vn vd : Value} {q : Rat} (h : QC W ng vn vd q) : QM (W.alloc (.cells #[.bool ng, vn, vd] 80)) W.heap.size q :=
  ⟨ng, vn, vd, Blk.new _ _ _, h.below (belowA (Below.refl _ _) _)⟩
/-- What a walk asks of a block that holds a number. -/
theorem QM.parts {W : World} {b : Nat} {q : Rat} (h : QM W b q) : ∃ ng na n nc da dl dc, QC W ng (.slice na n nc) (.slice da dl dc) q ∧ Blk W b #[.bool ng, .slice na n nc, .slice da dl dc] 80 := by
  obtain ⟨ng, vn, vd, h1, h2⟩ := h
  obtain ⟨na, nc, da, dl, dc, rfl, rfl, _⟩ := h2.parts
  exact ⟨ng, na, _, nc, da, dl, dc, h2, h1⟩
theorem fit_read {n : Nat} (h : (dT n).length ≤ 2000) : digsE (bs (dT n)).data.toList = true ∧ (bs (dT n)).size ≤ 1000000000000 ∧ decV (bs (dT n)).data.toList = n := by
  refine ⟨?_, by rw [bs_size]; omega, ?_⟩
  · rw [bs_list]; exact digs_of (dT_digs n)
  · rw [bs_list]; exact dT_val n
end Go.Proofs.Ythcddboeejbncaa
namespace Go.Proofs.Ythcddboeejbncaa
open Go.RowKit

theorem ln_dT (n : Nat) : ln n ≤ (dT n).length := by
  apply ln_le
  rw [pw_ten]
  have h1 := lt_dT n
  have h2 : 10 ^ (dT n).length ≤ 10 ^ (9 * (dT n).length) := Nat.pow_le_pow_right (by omega) (by omega)
  exact Int.ofNat_lt.2 (Nat.lt_of_lt_of_le h1 h2)
theorem FitQ.sz {q : Rat} (h : FitQ q) : sz q ≤ 2000 := by
  have h1 := ln_dT q.num.natAbs
  have h2 := ln_dT q.den
  have := h.1
  have := h.2
  unfold Go.Proofs.Ythcddboeejbncaa.sz
  omega
theorem svals {w : World} {b : Nat} {T : TypeId} {l : List ByteArray} (h : Blk w b (l.map Value.string).toArray T) (hn : l.length ≤ 9223372036854775807) : SVal w (.slice (some ⟨b, 0, none⟩) l.length l.length) l :=
  Or.inr ⟨b, 0, l.length, rfl, Nat.le_refl _, hn, h.lt, fun j u hj => by rw [Nat.zero_add]; exact h.cell j (by rw [List.getElem?_toArray]; exact hj)⟩
theorem rtxt_size {q : Rat} (h : FitQ q) : (bs (ratT q)).size ≤ 4002 := by
  rw [bs_size]
  unfold ratT
  have := h.1
  have := h.2
  by_cases ha : q.num < 0 <;> by_cases hb : q.den = 1 <;> simp [ha, hb] <;> omega
theorem fit_zero : FitQ 0 := by unfold FitQ; decide +kernel
theorem FitQ.neg {q : Rat} (h : FitQ q) : FitQ (-q) := by
  unfold FitQ at *
  rw [Rat.neg_num, Rat.neg_den, Int.natAbs_neg]; exact h
theorem FitQ.abs {q : Rat} (h : FitQ q) : FitQ (absQ q) := by
  unfold absQ
  split
  · exact h.neg
  · exact h
theorem num_neg_iff {q : Rat} : (q.num < 0) ↔ cmpR q 0 < 0 := by
  unfold cmpR
  rw [Rat.sub_eq_add_neg, Rat.neg_zero, Rat.add_zero]
  unfold signR
  by_cases h0 : q = 0
  · rw [if_pos h0, h0]; decide +kernel
  · rw [if_neg h0]
    by_cases h : q.num < 0 <;> simp [h]
end Go.Proofs.Ythcddboeejbncaa
namespace Go.Proofs.Ythcddboeejbncaa
open Go.RowKit

/-- A load that go_region_held3 shall not try to take first. -/
abbrev hideLoad (t : TypeId) (o : Operand) : Op := Op.load t o
/-- The sum of a list. -/
def sumQ : List Rat → Rat
  | [] => 0
  | q :: qs => q + sumQ qs
theorem sumQ_append (l m : List Rat) : sumQ (l ++ m) = sumQ l + sumQ m := by
  induction l with
  | nil => show sumQ m = 0 + sumQ m; rw [Rat.zero_add]
  | cons q l ih => show q + sumQ (l ++ m) = q + sumQ l + sumQ m; rw [ih, Rat.add_assoc]
theorem sumQ_take {l : List Rat} {k : Nat} {q : Rat} (h : l[k]? = some q) : sumQ (l.take (k + 1)) = sumQ (l.take k) + q := by
  obtain ⟨hk, hx⟩ := List.getElem?_eq_some_iff.1 h
  rw [List.take_succ_eq_append_getElem hk, hx, sumQ_append]
  show _ + (q + 0) = _
  rw [Rat.add_zero]
theorem txts_get {l : List Rat} {k : Nat} {q : Rat} (h : l[k]? = some q) : ((txts l).map Value.string)[k]? = some (.string (bs (ratT q))) := by
  simp [txts, h]
end Go.Proofs.Ythcddboeejbncaa
namespace Go.Proofs.Ythcddboeejbncaa
open Go.RowKit

theorem results_cell2 {fn : Func} {p u : Tmp} {ty ty2 : TypeId} (h : fn.results = #[.cell p ty, .cell u ty2]) (tmps : Array Value) (P : Program) (w : World) :
    (results fn tmps).run P w =
      ((asAddr (tmps.getD p undef)).run P w).andThen fun a w₁ => ((loadVar ty a).run P w₁).andThen fun v w₂ => ((asAddr (tmps.getD u undef)).run P w₂).andThen fun a2 w₃ => ((loadVar ty2 a2).run P w₃).andThen fun v2 w₄ => .ok (.tuple #[v, v2]) w₄ := by
  simp only [results, h]
  simp [Sem.run_bind, Result.andThen]
/-- A number as a walk wants it. -/
theorem QV.op {w : World} {v : Value} {q : Rat} (h : QV w v q) : ∃ ng na n nc da dl dc, v = .agg #[.bool ng, .slice na n nc, .slice da dl dc] ∧ QC w ng (.slice na n nc) (.slice da dl dc) q := by
  obtain ⟨ng, vn, vd, rfl, h⟩ := h
  obtain ⟨na, nc, da, dl, dc, rfl, rfl, _⟩ := h.parts
  exact ⟨ng, na, _, nc, da, dl, dc, rfl, h⟩
theorem sz_sum (l : List Rat) (h : ∀ q ∈ l, sz q ≤ 2000) : sz (sumQ l) ≤ 1 + 2001 * l.length := by
  induction l with
  | nil => show sz 0 ≤ _; rw [sz_zero]; omega
  | cons q l ih =>
    have h1 := ih (fun x hx => h x (List.mem_cons_of_mem _ hx))
    have h2 := h q (List.mem_cons_self ..)
    have h3 := sz_add q (sumQ l)
    show sz (q + sumQ l) ≤ _
    rw [List.length_cons]; omega
theorem sz_abs (q : Rat) : sz (absQ q) = sz q := by
  unfold absQ
  split
  · exact sz_neg q
  · rfl
/-- The sum of the magnitudes. -/
abbrev sumA (l : List Rat) : Rat := sumQ (l.map absQ)
theorem sumA_take {l : List Rat} {k : Nat} {q : Rat} (h : l[k]? = some q) : sumA (l.take (k + 1)) = sumA (l.take k) + absQ q := by
  unfold sumA
  rw [List.map_take, List.map_take]
  exact sumQ_take (by simp [h])
def checkB (l : List ByteArray) : Int := if 256 < l.length then 2 else allE l
end Go.Proofs.Ythcddboeejbncaa
namespace Go.Proofs.Ythcddboeejbncaa
open Go.RowKit

/-- The cells of a number. -/
structure QEl where
  g : Bool
  na : Option Addr
  n : Nat
  nc : Nat
  da : Option Addr
  dl : Nat
  dc : Nat
def QEl.cells (c : QEl) : List Value := [.bool c.g, .slice c.na c.n c.nc, .slice c.da c.dl c.dc]
/-- Numbers in cells. -/
def QL (W : World) (cs : List QEl) (qs : List Rat) : Prop :=
  cs.length = qs.length ∧ ∀ (k : Nat) (c : QEl) (q : Rat), cs[k]? = some c → qs[k]? = some q → QC W c.g (.slice c.na c.n c.nc) (.slice c.da c.dl c.dc) q
theorem QL.below {W W' : World} {cs : List QEl} {qs : List Rat} (h : QL W cs qs) (k : Below W.heap.size W W') : QL W' cs qs :=
  ⟨h.1, fun i c q hc hq => (h.2 i c q hc hq).below k⟩
theorem QL.keepT {W W' : World} {cs : List QEl} {qs : List Rat} {b : Nat} {cur : Array Value} {T : TypeId} (h : QL W cs qs) (k : Blk W b cur T) (hT : T ≠ 123) (hb : But b W W') : QL W' cs qs :=
  ⟨h.1, fun i c q hc hq => (h.2 i c q hc hq).keepT k hT hb⟩
theorem QL.snoc {W : World} {cs : List QEl} {qs : List Rat} {c : QEl} {q : Rat} (h : QL W cs qs) (hq : QC W c.g (.slice c.na c.n c.nc) (.slice c.da c.dl c.dc) q) : QL W (cs ++ [c]) (qs ++ [q]) := by
  refine ⟨by simp [h.1], fun k d p hd hp => ?_⟩
  by_cases hk : k < cs.length
  · rw [List.getElem?_append_left hk] at hd
    rw [List.getElem?_append_left (by rw [← h.1]; exact hk)] at hp
    exact h.2 k d p hd hp
  · have hl := (List.getElem?_eq_some_iff.1 hd).1
    simp at hl
    obtain rfl : k = cs.length := by omega
    rw [List.getElem?_append_right (Nat.le_refl _), Nat.sub_self] at hd
    rw [h.1, List.getElem?_append_right (Nat.le_refl _), Nat.sub_self] at hp
    simp at hd hp
    subst hd; subst hp
    exact hq
/-- A list of numbers that may be read. -/
def QsV (W : World) (v : Value) (qs : List Rat) : Prop := ∃ cs, Reads W v qs.length (flat QEl.cells cs) ∧ QL W cs qs
theorem QsV.below {W W' : World} {v : Value} {qs : List Rat} (h : QsV W v qs) (k : Below W.heap.size W W') : QsV W' v qs := by
  obtain ⟨cs, h1, h2⟩ := h
  exact ⟨cs, h1.below k, h2.below k⟩
/-- An element of a list. -/
theorem QsV.at {W : World} {v : Value} {qs : List Rat} (h : QsV W v qs) {k : Nat} {q : Rat} (hq : qs[k]? = some q) : ∃ (b off cap : Nat) (c : QEl), v = .slice (some ⟨b, off, none⟩) qs.length cap ∧ b < W.heap.size ∧
    W.cell? ⟨b, off + k * 3, none⟩ = some (.bool c.g) ∧ W.cell? ⟨b, off + k * 3 + 1, none⟩ = some (.slice c.na c.n c.nc) ∧ W.cell? ⟨b, off + k * 3 + 2, none⟩ = some (.slice c.da c.dl c.dc) ∧ QC W c.g (.slice c.na c.n c.nc) (.slice c.da c.dl c.dc) q := by
  obtain ⟨cs, h1, h2⟩ := h
  obtain ⟨hk, _⟩ := List.getElem?_eq_some_iff.1 hq
  obtain ⟨b, off, cap, hv, _, _, hb, hc⟩ := h1.addr (by omega)
  obtain ⟨c, hcc⟩ : ∃ c, cs[k]? = some c := ⟨_, List.getElem?_eq_getElem (by rw [h2.1]; exact hk)⟩
  have e : ∀ j u, j < 3 → (QEl.cells c)[j]? = some u → W.cell? ⟨b, off + (k * 3 + j), none⟩ = some u := fun j u hj hu => hc _ u (by rw [flat_get (sz := 3) (f := QEl.cells) (fun _ => rfl) cs k j c hcc hj]; exact hu)
  refine ⟨b, off, cap, c, hv, hb, e 0 _ (by decide) rfl, ?_, ?_, h2.2 k c q hcc hq⟩
  · rw [Nat.add_assoc]; exact e 1 _ (by decide) rfl
  · rw [Nat.add_assoc]; exact e 2 _ (by decide) rfl
/-- An own list of numbers. -/
def QO (base : Nat) (W : World) (v : Value) (qs : List Rat) : Prop := ∃ cs, W.ownsRow base 80 3 v qs.length (flat QEl.cells cs) ∧ QL W cs qs
theorem QO.nil (base : Nat) (W : World) : QO base W (.slice none 0 0) [] := ⟨[], ⟨rfl, Or.inl ⟨rfl, rfl⟩⟩, rfl, fun k c q h _ => by simp at h⟩
theorem QO.slice {base : Nat} {W : World} {v : Value} {qs : List Rat} (h : QO base W v qs) : ∃ a c, v = .slice a qs.length c := by
  obtain ⟨cs, h1, _⟩ := h
  exact row_slice h1
theorem ownsRow_below {base size n : Nat} {e : TypeId} {w w' : World} {v : Value} {xs : List Value} (h : w.ownsRow base e size v n xs) (k : Below w.heap.size w w') : w'.ownsRow base e size v n xs := by
  obtain ⟨h1, h2⟩ := h
  refine ⟨h1, h2.imp id ?_⟩
  rintro ⟨g, cap, cur, e1, e2, e3, e4⟩
  exact ⟨g, cap, cur, e1, e2, below_blk k (show Blk w g cur _ from e3) (show Blk w g cur _ from e3).lt, e4⟩
theorem QO.below {base : Nat} {W W' : World} {v : Value} {qs : List Rat} (h : QO base W v qs) (k : Below W.heap.size W W') : QO base W' v qs := by
  obtain ⟨cs, h1, h2⟩ := h
  exact ⟨cs, ownsRow_below h1 k, h2.below k⟩
theorem QO.reads {base : Nat} {W : World} {v : Value} {qs : List Rat} (h : QO base W v qs) (hl : qs.length ≤ 9223372036854775807) : QsV W v qs := by
  obtain ⟨cs, h1, h2⟩ := h
  exact ⟨cs, Reads.of_owns h1 hl, h2⟩
theorem infoQ : (Try.prog.info? 80).map (fun i => (i.zero, i.size, i.bytes)) = some (some (.agg #[.bool false, .slice none 0 0, .slice none 0 0]), 3, 56) := by kernel_rfl
theorem QO.app {base : Nat} {W : World} {v : Value} {qs : List Rat} {q : Rat} {c : QEl} {xb : Nat} (h : QO base W v qs) (hb : base ≤ W.heap.size) (hx : Blk W xb c.cells.toArray 80) (hq : QC W c.g (.slice c.na c.n c.nc) (.slice c.da c.dl c.dc) q) (hl : qs.length ≤ 100000) :
    ∃ v' W', (∀ ty, (Builtin.append_ #[76, 76] ty #[v, .slice (some ⟨xb, 0, none⟩) 1 1]).run Try.prog W = .ok v' W') ∧ QO base W' v' (qs ++ [q]) ∧ Below base W W' := by
  obtain ⟨i0, hi0, hz0, hz1, hz2⟩ := info_parts infoQ
  obtain ⟨cs, h1, h2⟩ := h
  have key := fun ty => run_append_own (P := Try.prog) W base 76 ty 80 i0 _ 3 56 Try.underlying76 hi0 hz0 hz1 hz2 rfl (by decide) v qs.length (flat QEl.cells cs) h1 ⟨xb, 0, none⟩ 1 1 c.cells rfl
    (fun j u hj => by rw [add_z]; exact hx.cell j (by rw [List.getElem?_toArray]; exact hj)) (fun u hu => by
      simp only [QEl.cells, List.mem_cons, List.mem_nil_iff, or_false] at hu
      rcases hu with rfl | rfl | rfl <;> rfl) (by unfold maxLen; omega) (by omega) hb
  obtain ⟨v', w', a1, a2, a3, _⟩ := key 0
  refine ⟨v', w', fun ty => a1, ⟨cs ++ [c], ?_, ?_⟩, Below.grown ⟨rfl, rfl, rfl, Nat.le_refl _, fun _ _ => rfl⟩ a3 hb (fun k e => row_own h1 k e)⟩
  · rw [List.length_append, show flat QEl.cells (cs ++ [c]) = flat QEl.cells cs ++ c.cells by simp [flat]]
    exact a2
  · have hs := h2.snoc hq
    rcases h1.2 with ⟨rfl, _⟩ | ⟨g, cap, cur, rfl, e2, e3, _⟩
    · exact hs.below ⟨a3.os, a3.tape, a3.output, a3.size, fun k hk => a3.block k hk (by simp [Value.ownBlock])⟩
    · exact hs.keepT (show Blk W g cur _ from e3) (by decide) ⟨a3.os, a3.tape, a3.output, a3.size, fun k hk hn => a3.block k hk (by simpa [Value.ownBlock] using hn)⟩
/-- An own list of texts. -/
def OS (base : Nat) (W : World) (v : Value) (l : List ByteArray) : Prop := W.ownsRow base 31 1 v l.length (l.map Value.string)
theorem infoR : (Try.prog.info? 31).map (fun i => (i.zero, i.size, i.bytes)) = some (some (.string ByteArray.empty), 1, 16) := by kernel_rfl
theorem OS.app {base : Nat} {W : World} {v : Value} {l : List ByteArray} {s : ByteArray} {xb : Nat} (h : OS base W v l) (hb : base ≤ W.heap.size) (hx : Blk W xb #[.string s] 31) (hl : l.length ≤ 100000) :
    ∃ v' W', (∀ ty, (Builtin.append_ #[67, 67] ty #[v, .slice (some ⟨xb, 0, none⟩) 1 1]).run Try.prog W = .ok v' W') ∧ OS base W' v' (l ++ [s]) ∧ Below base W W' := by
  obtain ⟨i0, hi0, hz0, hz1, hz2⟩ := info_parts infoR
  have key := fun ty => run_append_own (P := Try.prog) W base 67 ty 31 i0 _ 1 16 Try.underlying67 hi0 hz0 hz1 hz2 rfl (by decide) v l.length (l.map Value.string) h ⟨xb, 0, none⟩ 1 1 [.string s] rfl
    (fun j u hj => by rw [add_z]; exact hx.cell j (by rw [← Array.getElem?_toList]; exact hj)) (fun u hu => by rw [List.mem_singleton] at hu; subst hu; rfl) (by unfold maxLen; omega) (by omega) hb
  obtain ⟨v', w', a1, a2, a3, _⟩ := key 0
  refine ⟨v', w', fun ty => a1, ?_, Below.grown ⟨rfl, rfl, rfl, Nat.le_refl _, fun _ _ => rfl⟩ a3 hb (fun k e => row_own h k e)⟩
  unfold OS
  rw [List.length_append, List.map_append]; exact a2
end Go.Proofs.Ythcddboeejbncaa
namespace Go.Proofs.Ythcddboeejbncaa
open Go.RowKit

/-- The sum of the squares. -/
abbrev sumS (l : List Rat) : Rat := sumQ (l.map fun q => q * q)
theorem sumS_take {l : List Rat} {k : Nat} {q : Rat} (h : l[k]? = some q) : sumS (l.take (k + 1)) = sumS (l.take k) + q * q := by
  unfold sumS
  rw [List.map_take, List.map_take]
  exact sumQ_take (by simp [h])
theorem sz_sumB (B : Nat) (l : List Rat) (h : ∀ q ∈ l, sz q ≤ B) : sz (sumQ l) ≤ 1 + (B + 1) * l.length := by
  induction l with
  | nil => show sz 0 ≤ _; rw [sz_zero]; omega
  | cons q l ih =>
    have h1 := ih (fun x hx => h x (List.mem_cons_of_mem _ hx))
    have h2 := h q (List.mem_cons_self ..)
    have h3 := sz_add q (sumQ l)
    show sz (q + sumQ l) ≤ _
    rw [List.length_cons, Nat.mul_add]; omega
end Go.Proofs.Ythcddboeejbncaa
namespace Go.Proofs.Ythcddboeejbncaa
open Go.RowKit

/-- What Boundary asks of the names of a part. -/
def partE (nl P : List ByteArray) : List ByteArray → Nat → Int
  | [], _ => 0
  | s :: ss, k => if hasS s nl = false then 6 else if hasS s (P.take k) = true then 7 else partE nl P ss (k + 1)
def crossS (P : List ByteArray) (x : NSw) : Bool := !x.opn && (hasS x.a P != hasS x.b P)
def crossB (P : List ByteArray) (x : NBr) : Bool := hasS x.fr P != hasS x.to P
/-- The branches with one end in a part. -/
def idxL (P : List ByteArray) : List NBr → Nat → List Int
  | [], _ => []
  | b :: l, k => if crossB P b = true then (k : Int) :: idxL P l (k + 1) else idxL P l (k + 1)
/-- What Boundary answers. -/
def bndE (n : Net) (P : List ByteArray) : List Int × Int :=
  if netE n ≠ 0 then ([], netE n) else if partE n.nodes P P 0 ≠ 0 then ([], partE n.nodes P P 0) else if n.sws.any (crossS P) = true then ([], 3) else (idxL P n.brs 0, 0)
theorem partE_drop {nl P : List ByteArray} {k : Nat} {s : ByteArray} (h : P[k]? = some s) : partE nl P (P.drop k) k = if hasS s nl = false then 6 else if hasS s (P.take k) = true then 7 else partE nl P (P.drop (k + 1)) (k + 1) := by
  obtain ⟨hk, hx⟩ := List.getElem?_eq_some_iff.1 h
  rw [List.drop_eq_getElem_cons hk, hx]; rfl
theorem any_drop {α : Type} {f : α → Bool} {l : List α} {k : Nat} {x : α} (h : l[k]? = some x) : (l.drop k).any f = (f x || (l.drop (k + 1)).any f) := by
  obtain ⟨hk, hx⟩ := List.getElem?_eq_some_iff.1 h
  rw [List.drop_eq_getElem_cons hk, hx]; rfl
theorem idxL_drop {P : List ByteArray} {l : List NBr} {k : Nat} {x : NBr} (h : l[k]? = some x) (j : Nat) : idxL P (l.drop k) j = if crossB P x = true then (j : Int) :: idxL P (l.drop (k + 1)) (j + 1) else idxL P (l.drop (k + 1)) (j + 1) := by
  obtain ⟨hk, hx⟩ := List.getElem?_eq_some_iff.1 h
  rw [List.drop_eq_getElem_cons hk, hx]; rfl
theorem SVal.take {w : World} {a : Option Addr} {c k m : Nat} {P : List ByteArray} (h : Reads w (.slice a m c) m (P.map Value.string)) (hm : P.length = m) (hk : k ≤ m) : Reads w (.slice a k c) k ((P.take k).map Value.string) := by
  rcases h with ⟨h1, h2, a', cap, h3⟩ | ⟨b, off, cap, h1, h2, h3, h4, h5⟩
  · refine Or.inl ⟨by omega, ?_, a, c, ?_⟩
    · rw [List.map_take, h2]; simp
    · rw [show k = 0 by omega]
  · simp only [Value.slice.injEq] at h1
    obtain ⟨rfl, _, rfl⟩ := h1
    refine Or.inr ⟨b, off, c, rfl, by omega, by omega, h4, fun j u hj => h5 j u ?_⟩
    rw [List.map_take] at hj
    obtain ⟨hjl, _⟩ := List.getElem?_eq_some_iff.1 hj
    rw [List.length_take] at hjl
    rwa [List.getElem?_take_of_lt (by omega)] at hj
/-- An own list of whole numbers. -/
def IO (base : Nat) (W : World) (v : Value) (l : List Int) : Prop := W.ownsRow base 3 1 v l.length (ints l)
theorem infoI : (Try.prog.info? 3).map (fun i => (i.zero, i.size, i.bytes)) = some (some (.int .i64 0), 1, 8) := by kernel_rfl
theorem IO.app {base : Nat} {W : World} {v : Value} {l : List Int} {x : Int} {xb : Nat} (h : IO base W v l) (hb : base ≤ W.heap.size) (hx : Blk W xb #[.int .i64 x] 3) (hl : l.length ≤ 100000) :
    ∃ v' W', (∀ ty, (Builtin.append_ #[39, 39] ty #[v, .slice (some ⟨xb, 0, none⟩) 1 1]).run Try.prog W = .ok v' W') ∧ IO base W' v' (l ++ [x]) ∧ Below base W W' := by
  obtain ⟨i0, hi0, hz0, hz1, hz2⟩ := info_parts infoI
  have key := fun ty => run_append_own (P := Try.prog) W base 39 ty 3 i0 _ 1 8 Try.underlying39 hi0 hz0 hz1 hz2 rfl (by decide) v l.length (ints l) h ⟨xb, 0, none⟩ 1 1 [.int .i64 x] rfl
    (fun j u hj => by rw [add_z]; exact hx.cell j (by rw [← Array.getElem?_toList]; exact hj)) (fun u hu => by rw [List.mem_singleton] at hu; subst hu; rfl) (by unfold maxLen; omega) (by omega) hb
  obtain ⟨v', w', a1, a2, a3, _⟩ := key 0
  refine ⟨v', w', fun ty => a1, ?_, Below.grown ⟨rfl, rfl, rfl, Nat.le_refl _, fun _ _ => rfl⟩ a3 hb (fun k e => row_own h k e)⟩
  unfold IO
  rw [List.length_append, show ints (l ++ [x]) = ints l ++ [.int .i64 x] by unfold ints; simp]; exact a2
/-- A list of indices and an error, as Boundary returns them. -/
def BndP (r : List Int × Int) (w : World) (e : Ending) (w' : World) : Prop :=
  ∃ a c, e = .returned (.tuple #[.slice a r.1.length c, .int .i64 r.2]) ∧ IVal w' (.slice a r.1.length c) r.1 ∧ Below w.heap.size w w'
theorem BndP.fail {w w' : World} {er : Int} (h : Below w.heap.size w w') : BndP ([], er) w (.returned (.tuple #[.slice none 0 0, .int .i64 er])) w' :=
  ⟨none, 0, rfl, Or.inl ⟨rfl, rfl, none, 0, rfl⟩, h⟩
end Go.Proofs.Ythcddboeejbncaa
