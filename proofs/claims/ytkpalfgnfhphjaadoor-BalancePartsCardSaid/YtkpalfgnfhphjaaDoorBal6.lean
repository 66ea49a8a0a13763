/- balance: Boundary. -/
import Derived.Test.YtkpalfgnfhphjaaDoorBal5
import Derived.Test.YtkpalfgnfhphjaaDoorNetK
namespace Go.Proofs.YtkpalfgnfhphjaaDoor
open Go.RowKit

/-- What Boundary asks of the names of a part. -/
def partE (nl P : List ByteArray) : List ByteArray → Nat → Int
  | [], _ => 0
  | s :: ss, k => if hasS s nl = false then 6 else if hasS s (P.take k) = true then 7 else partE nl P ss (k + 1)
def crossS (P : List ByteArray) (x : NSw) : Bool := !x.opn && (hasS x.a P != hasS x.b P)
def crossB (P : List ByteArray) (x : NBr) : Bool := hasS x.fr P != hasS x.to P
/-- The branches with one end in a part. -/
def idxL (P : List ByteArray) : List NBr → Nat → List Int
  | [], _ => []
  | b :: l, k => if crossB P b = true then (k : Int) :: idxL P l (k + 1) else idxL P l (k + 1)
/-- What Boundary answers. -/
def bndE (n : Net) (P : List ByteArray) : List Int × Int :=
  if netE n ≠ 0 then ([], netE n) else if partE n.nodes P P 0 ≠ 0 then ([], partE n.nodes P P 0) else if n.sws.any (crossS P) = true then ([], 3) else (idxL P n.brs 0, 0)
theorem partE_drop {nl P : List ByteArray} {k : Nat} {s : ByteArray} (h : P[k]? = some s) : partE nl P (P.drop k) k = if hasS s nl = false then 6 else if hasS s (P.take k) = true then 7 else partE nl P (P.drop (k + 1)) (k + 1) := by
  obtain ⟨hk, hx⟩ := List.getElem?_eq_some_iff.1 h
  rw [List.drop_eq_getElem_cons hk, hx]; rfl
theorem any_drop {α : Type} {f : α → Bool} {l : List α} {k : Nat} {x : α} (h : l[k]? = some x) : (l.drop k).any f = (f x || (l.drop (k + 1)).any f) := by
  obtain ⟨hk, hx⟩ := List.getElem?_eq_some_iff.1 h
  rw [List.drop_eq_getElem_cons hk, hx]; rfl
theorem idxL_drop {P : List ByteArray} {l : List NBr} {k : Nat} {x : NBr} (h : l[k]? = some x) (j : Nat) : idxL P (l.drop k) j = if crossB P x = true then (j : Int) :: idxL P (l.drop (k + 1)) (j + 1) else idxL P (l.drop (k + 1)) (j + 1) := by
  obtain ⟨hk, hx⟩ := List.getElem?_eq_some_iff.1 h
  rw [List.drop_eq_getElem_cons hk, hx]; rfl
theorem SVal.take {w : World} {a : Option Addr} {c k m : Nat} {P : List ByteArray} (h : Reads w (.slice a m c) m (P.map Value.string)) (hm : P.length = m) (hk : k ≤ m) : Reads w (.slice a k c) k ((P.take k).map Value.string) := by
  rcases h with ⟨h1, h2, a', cap, h3⟩ | ⟨b, off, cap, h1, h2, h3, h4, h5⟩
  · refine Or.inl ⟨by omega, ?_, a, c, ?_⟩
    · rw [List.map_take, h2]; simp
    · rw [show k = 0 by omega]
  · simp only [Value.slice.injEq] at h1
    obtain ⟨rfl, _, rfl⟩ := h1
    refine Or.inr ⟨b, off, c, rfl, by omega, by omega, h4, fun j u hj => h5 j u ?_⟩
    rw [List.map_take] at hj
    obtain ⟨hjl, _⟩ := List.getElem?_eq_some_iff.1 hj
    rw [List.length_take] at hjl
    rwa [List.getElem?_take_of_lt (by omega)] at hj
/-- An own list of whole numbers. -/
def IO (base : Nat) (W : World) (v : Value) (l : List Int) : Prop := W.ownsRow base 3 1 v l.length (ints l)
theorem infoI : (Tryd.prog.info? 3).map (fun i => (i.zero, i.size, i.bytes)) = some (some (.int .i64 0), 1, 8) := by kernel_rfl
theorem IO.app {base : Nat} {W : World} {v : Value} {l : List Int} {x : Int} {xb : Nat} (h : IO base W v l) (hb : base ≤ W.heap.size) (hx : Blk W xb #[.int .i64 x] 3) (hl : l.length ≤ 100000) :
    ∃ v' W', (∀ ty, (Builtin.append_ #[53, 53] ty #[v, .slice (some ⟨xb, 0, none⟩) 1 1]).run Tryd.prog W = .ok v' W') ∧ IO base W' v' (l ++ [x]) ∧ Below base W W' := by
  obtain ⟨i0, hi0, hz0, hz1, hz2⟩ := info_parts infoI
  have key := fun ty => run_append_own (P := Tryd.prog) W base 53 ty 3 i0 _ 1 8 Tryd.underlying53 hi0 hz0 hz1 hz2 rfl (by decide) v l.length (ints l) h ⟨xb, 0, none⟩ 1 1 [.int .i64 x] rfl
    (fun j u hj => by rw [add_z]; exact hx.cell j (by rw [← Array.getElem?_toList]; exact hj)) (fun u hu => by rw [List.mem_singleton] at hu; subst hu; rfl) (by unfold maxLen; omega) (by omega) hb
  obtain ⟨v', w', a1, a2, a3, _⟩ := key 0
  refine ⟨v', w', fun ty => a1, ?_, Below.grown ⟨rfl, rfl, rfl, Nat.le_refl _, fun _ _ => rfl⟩ a3 hb (fun k e => row_own h k e)⟩
  unfold IO
  rw [List.length_append, show ints (l ++ [x]) = ints l ++ [.int .i64 x] by unfold ints; simp]; exact a2
/-- A list of indices and an error, as Boundary returns them. -/
def BndP (r : List Int × Int) (w : World) (e : Ending) (w' : World) : Prop :=
  ∃ a c, e = .returned (.tuple #[.slice a r.1.length c, .int .i64 r.2]) ∧ IVal w' (.slice a r.1.length c) r.1 ∧ Below w.heap.size w w'
theorem BndP.fail {w w' : World} {er : Int} (h : Below w.heap.size w w') : BndP ([], er) w (.returned (.tuple #[.slice none 0 0, .int .i64 er])) w' :=
  ⟨none, 0, rfl, Or.inl ⟨rfl, rfl, none, 0, rfl⟩, h⟩
end Go.Proofs.YtkpalfgnfhphjaaDoor
