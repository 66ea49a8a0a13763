/- nat.Text, nat.Digits. -/
import Derived.Test.YthcddboeejbncaaPzTxt6
import Derived.Test.YthcddboeejbncaaPkNat5Nat7
import Derived.Laws.MakeOwn
import Derived.Laws.IdiomStrings
namespace Go.Proofs.Ythcddboeejbncaa
open Go.RowKit

theorem infoU8 : (Try.prog.info? 5).map (fun i => (i.zero, i.size, i.bytes)) = some (some (.int .u8 0), 1, 1) := by kernel_rfl
theorem add_z (g j : Nat) : (⟨g, 0, none⟩ : Addr).add j = ⟨g, j, none⟩ := by
  unfold Addr.add
  split
  · rename_i h; rw [h]
  · simp
/-- The cell of a byte. -/
abbrev bcell (c : UInt8) : Value := .int .u8 (c.toNat : Int)
/-- An own row of bytes. -/
def OB (base : Nat) (W : World) (v : Value) (l : List UInt8) : Prop := W.ownsRow base 5 1 v l.length (l.map bcell)
theorem OB.below {base : Nat} {w w' : World} {v : Value} {l : List UInt8} (h : OB base w v l) (k : Below w.heap.size w w') : OB base w' v l := by
  obtain ⟨h1, h2⟩ := h
  refine ⟨h1, h2.imp id ?_⟩
  rintro ⟨g, cap, cur, e1, e2, e3, e4⟩
  exact ⟨g, cap, cur, e1, e2, below_blk k (show Blk w g cur _ from e3) (show Blk w g cur _ from e3).lt, e4⟩
theorem OB.app {base : Nat} {W : World} {v : Value} {l m : List UInt8} (h : OB base W v l) (hb : base ≤ W.heap.size) (pb c : Nat) (hx : ∀ j u, (m.map bcell)[j]? = some u → W.cell? ⟨pb, j, none⟩ = some u) (hl : l.length + m.length ≤ 100000000000000) :
    ∃ v' W', (∀ ty, (Builtin.append_ #[147, 147] ty #[v, .slice (some ⟨pb, 0, none⟩) m.length c]).run Try.prog W = .ok v' W') ∧ OB base W' v' (l ++ m) ∧ Below base W W' := by
  obtain ⟨i0, hi0, hz0, hz1, hz2⟩ := info_parts infoU8
  have key := fun ty => run_append_own (P := Try.prog) W base 147 ty 5 i0 (.int .u8 0) 1 1 Try.underlying147 hi0 hz0 hz1 hz2 rfl (by decide) v l.length (l.map bcell) h ⟨pb, 0, none⟩ m.length c (m.map bcell) (by simp)
    (fun j u hj => by rw [add_z]; exact hx j u hj) (fun u hu => by obtain ⟨d, _, rfl⟩ := List.mem_map.1 hu; rfl) (by unfold maxLen; omega) (by omega) hb
  obtain ⟨v', w', h1, h2, h3, _⟩ := key 0
  refine ⟨v', w', fun ty => h1, ?_, ?_⟩
  · unfold OB
    rw [List.length_append, List.map_append]; exact h2
  · exact Below.grown ⟨rfl, rfl, rfl, Nat.le_refl _, fun _ _ => rfl⟩ h3 hb (fun k e => row_own h k e)
theorem OB.new (w : World) (cap : Nat) (hc : cap ≤ maxLen) : OB w.heap.size (w.alloc (.cells (madeCells #[.int .u8 0] cap) 5)) (.slice (some ⟨w.heap.size, 0, none⟩) 0 cap) [] :=
  ⟨rfl, Or.inr ⟨w.heap.size, cap, _, rfl, Nat.le_refl _, (Blk.new w _ _), Nat.zero_le _, hc, by simp [madeCells], by simp⟩⟩
theorem OB.addr {base : Nat} {W : World} {v : Value} {l : List UInt8} (h : OB base W v l) (hl : 0 < l.length) : ∃ g cap, v = .slice (some ⟨g, 0, none⟩) l.length cap ∧ ∀ j (hj : j < l.length), W.cell? ((⟨g, 0, none⟩ : Addr).add j) = some (.int .u8 (l[j].toNat : Int)) := by
  obtain ⟨h1, hv | ⟨g, cap, cur, rfl, e2, e3, e4, e5, e6, e7⟩⟩ := h
  · omega
  · refine ⟨g, cap, rfl, fun j hj => ?_⟩
    have hk : Blk W g cur 5 := e3
    have e : cur[j]? = some (bcell l[j]) := by
      have h8 : (cur.toList.take (l.length * 1))[j]? = some (bcell l[j]) := by rw [e7]; simp [hj]
      rw [List.getElem?_take_of_lt (by omega)] at h8
      rw [← Array.getElem?_toList]; exact h8
    rw [add_z]
    exact hk.cell j e
theorem mkB (k : Nat) (hk : k ≤ 10000000000000) (W : World) : (Instr.makeSlice 147 (.int .i64 0) (.int .i64 (9 * (k : Int)))).run Try.prog W = .ok (.slice (some ⟨W.heap.size, 0, none⟩) 0 (9 * k)) (W.alloc (.cells (madeCells #[.int .u8 0] (9 * k)) 5)) := by
  obtain ⟨i0, hi0, hz0, hz1, hz2⟩ := info_parts infoU8
  have h := run_make (P := Try.prog) W 147 5 i0 (.int .u8 0) Try.underlying147 hi0 hz0 .i64 .i64 0 (9 * (k : Int)) (by omega) (by omega) (by rw [hz2]; omega) (by omega)
  rw [hz1, show (9 * (k : Int)).toNat = 9 * k by omega, Nat.mul_one] at h
  exact h
theorem part_cells {m D : Nat} (hm : m < 9) : (((part9 m D).map bcell).toArray).setIfInBounds (8 - m) (.int .u8 (48 + ((D / 10 ^ m : Nat) : Int) % 10)) = ((part9 (m + 1) D).map bcell).toArray := by
  have e : bcell (UInt8.ofNat (48 + D / 10 ^ m % 10)) = .int .u8 (48 + ((D / 10 ^ m : Nat) : Int) % 10) := by
    unfold bcell
    rw [byte48 (Nat.mod_lt _ (by decide)), Int.natCast_add, Int.natCast_emod]
    rfl
  rw [List.setIfInBounds_toArray, ← part9_set hm, List.map_set, e]
end Go.Proofs.Ythcddboeejbncaa
