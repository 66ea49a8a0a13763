/- nat.Of; an append to a row of digits. -/
import Derived.Test.YtkpalfgnfhphjaaDoorNat1
namespace Go.Proofs.YtkpalfgnfhphjaaDoor
open Go.RowKit

theorem info_parts {P : Program} {t : TypeId} {z : Value} {s b : Nat} (h : (P.info? t).map (fun i => (i.zero, i.size, i.bytes)) = some (some z, s, b)) :
    ∃ i, P.info? t = some i ∧ i.zero = some z ∧ i.size = s ∧ i.bytes = b := by
  cases hi : P.info? t with
  | none => rw [hi] at h; cases h
  | some i => rw [hi] at h; simp at h; exact ⟨i, rfl, h⟩
theorem infoU32 : (Tryd.prog.info? 114).map (fun i => (i.zero, i.size, i.bytes)) = some (some (.int .u32 0), 1, 4) := by kernel_rfl
theorem RO.own {base : Nat} {W : World} {v : Value} {l : List Int} (h : RO base W v l) : ∀ j, v.ownBlock = some j → base ≤ j := by
  intro j hj
  obtain ⟨_, hv | ⟨g, cap, cur, rfl, h2, _⟩⟩ := h
  · rw [hv.1] at hj; cases hj
  · cases hj; exact h2
theorem RO.app {base : Nat} {W : World} {v : Value} {l : List Int} (h : RO base W v l) (hb : base ≤ W.heap.size) (x : Int) (lb : Nat) (hx : W.cell? ⟨lb, 0, none⟩ = some (.int .u32 x)) (hl : l.length ≤ 35000000000000) :
    ∃ v' W', (∀ ty, (Builtin.append_ #[63, 63] ty #[v, .slice (some ⟨lb, 0, none⟩) 1 1]).run Tryd.prog W = .ok v' W') ∧ RO base W' v' (l ++ [x]) ∧ Below base W W' := by
  obtain ⟨i0, hi0, hz0, hz1, hz2⟩ := info_parts infoU32
  have key := fun ty => run_append_own (P := Tryd.prog) W base 63 ty 114 i0 (.int .u32 0) 1 4 Tryd.underlying63 hi0 hz0 hz1 hz2 rfl (by decide) v l.length (u32s l) h ⟨lb, 0, none⟩ 1 1 [.int .u32 x] rfl
    (fun j u hj => by
      cases j with
      | zero => simp at hj; subst hj; simpa [Addr.add] using hx
      | succ j => simp at hj) (fun u hu => by rw [List.mem_singleton] at hu; subst hu; rfl) (by unfold maxLen; omega) (by omega) hb
  obtain ⟨v', w', h1, h2, h3, _⟩ := key 0
  refine ⟨v', w', fun ty => h1, ?_, ?_⟩
  · unfold RO
    rw [List.length_append, show u32s (l ++ [x]) = u32s l ++ [.int .u32 x] by unfold u32s; simp]; exact h2
  · exact Below.grown ⟨rfl, rfl, rfl, Nat.le_refl _, fun _ _ => rfl⟩ h3 hb (fun k e => h.own k e)
theorem RO.alloc {base : Nat} {W : World} {v : Value} {l : List Int} (h : RO base W v l) (o : Obj) : RO base (W.alloc o) v l :=
  h.below (belowA (Below.refl _ _) o)
theorem RO.drew {base : Nat} {W : World} {v : Value} {l : List Int} (h : RO base W v l) : RO base W.drew v l := h
theorem dg_pos {n : Nat} (h : 0 < n) : dg n = ((n % 1000000000 : Nat) : Int) :: dg (n / 1000000000) := by
  conv => lhs; unfold dg
  rw [if_neg (by omega)]
set_option maxHeartbeats 1000000 in
theorem nof_c (m : Nat) (w : World) (hm : m ≤ 9223372036854775807) :
    Calls Tryd.prog 45 #[.int .i64 m] w fun e w' => (∃ v', e = .returned v' ∧ NO w.heap.size w' v' m) ∧ Below w.heap.size w w' := by
  have HL : Hid (ln m ≤ 3) := ln_le (by have : pw 3 = 1000000000000000000000000000 := by decide
                                        rw [this]; omega)
  go_enter Tryd.func45, Tryd.ntmps45
  go_wp2_with fail
  go_loopw [0, 3] (fun i o wr => ∃ (k : Nat) (ds : List Int) , k ≤ m ∧ i = .int .i64 k ∧ Hid (dg m = ds ++ dg k) ∧ Hid (RO w.heap.size wr o ds) ∧ Hid (Below w.heap.size w wr)) (fun i _ _ => (intOf i).toNat)
  case atStart => exact ⟨m, [], Nat.le_refl _, rfl, rfl, RO.nil _ _, Below.refl _ _⟩
  case round =>
    obtain ⟨k, ds, hk, rfl, hd, ho, hb⟩ := hrel
    obtain ⟨a, c, rfl⟩ := ho.out.slice
    by_cases hlt : 0 < k
    · have hdl : ds.length ≤ 3 := by
        have h1 := congrArg List.length hd.out
        have h2 := HL.out
        unfold ln at h2
        rw [List.length_append] at h1; omega
      obtain ⟨v7, W7, h7, hr7, hb7⟩ := (ho.out.alloc (.cells #[.int .u32 ((k : Int) % 1000000000)] 114)).app (by rw [World.size_alloc]; have := hb.out.size; omega) _ wr.heap.size ((Blk.new _ _ _).cell 0 rfl) (by omega)
      have HB7 := Lib.hid ((hb.out.alloc hb.out.size _).trans hb7)
      have HR7 := Lib.hid hr7
      have HD : Hid (dg m = (ds ++ [(k : Int) % 1000000000]) ++ dg (k / 1000000000)) := by
        show dg m = _
        rw [hd.out, dg_pos hlt]; simp
      clear hd ho hb hdl hr7 hb7
      go_wp2_with (at_builtin; refine wpList_append_told rfl (.tmp 6) (.tmp 10) 63 rfl _ _ rfl rfl v7 W7 (h7 _) ?_)
      go_roundw
      case rel => exact ⟨k / 1000000000, _, by omega, by go_num, HD, HR7, HB7⟩
      case measure => simp [intOf]; omega
    · obtain rfl : k = 0 := by omega
      have hfin : NO w.heap.size wr (.slice a ds.length c) m := by
        have h1 := hd.out
        rw [dg_zero, List.append_nil] at h1
        unfold NO; rw [h1]; exact ho.out
      go_wp2_with fail
      go_ret
      exact ⟨⟨_, rfl, hfin⟩, hb.out⟩
end Go.Proofs.YtkpalfgnfhphjaaDoor
