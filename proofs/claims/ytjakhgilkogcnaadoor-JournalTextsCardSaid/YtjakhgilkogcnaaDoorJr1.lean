/- journal: events and their order: cmp.Compare, cmp.Or, compare. -/
import Derived.Test.YtjakhgilkogcnaaDoorNam
import Derived.Sort.Grow
import Derived.Sort.LotA
import Derived.Deep.RegionHeld3
import Derived.Deep.CutRange
import Derived.Deep.CutBlock
namespace Go.Proofs.YtjakhgilkogcnaaDoor
open Go.RowKit Go.Sort

/-- w' is w with draws and new blocks behind it. -/
def Gro (w w' : World) : Prop := ∃ q os, w' = grow (w.drewN q) os
theorem drewN_drewN (w : World) (a b : Nat) : (w.drewN a).drewN b = w.drewN (a + b) := by unfold World.drewN; simp [Nat.add_assoc]
theorem Gro.refl (w : World) : Gro w w := ⟨0, #[], by rw [grow_empty]; rfl⟩
theorem Gro.alloc {w w' : World} (h : Gro w w') (o : Obj) : Gro w (w'.alloc o) := by
  obtain ⟨q, os, rfl⟩ := h
  exact ⟨q, os ++ #[o], by rw [alloc_eq_grow, grow_grow]⟩
theorem Gro.drewN {w w' : World} (h : Gro w w') (n : Nat) : Gro w (w'.drewN n) := by
  obtain ⟨q, os, rfl⟩ := h
  exact ⟨q + n, os, by rw [← drewN_drewN]; rfl⟩
theorem Gro.drew {w w' : World} (h : Gro w w') : Gro w w'.drew := h.drewN 1
theorem Gro.below {w w' : World} (h : Gro w w') : Below w.heap.size w w' := by
  obtain ⟨q, os, rfl⟩ := h
  refine ⟨rfl, rfl, rfl, by simp [grow, World.drewN], fun k hk => ?_⟩
  show (w.heap ++ os)[k]? = _
  rw [Array.getElem?_append_left hk]
structure Ev where
  t : Int
  k : ByteArray
  n : ByteArray
  v : Int
def Ev.cells (x : Ev) : List Value := [.int .i64 x.t, .string x.k, .string x.n, .int .i64 x.v]
def cmpI (a b : Int) : Int := if a < b then -1 else if b < a then 1 else 0
def lessS (a b : ByteArray) : Bool := Op.bytesLess a.toList b.toList
def cmpS (a b : ByteArray) : Int := if lessS a b = true then -1 else if (lessS a b || a.toList == b.toList) = true then 0 else 1
def orI : List Int → Int
  | [] => 0
  | x :: xs => if x ≠ 0 then x else orI xs
def cmpE (a b : Ev) : Int := orI [cmpI a.t b.t, cmpS a.k b.k, cmpS a.n b.n, cmpI a.v b.v]

theorem nanI_c (x : Int) (w : World) : Calls Tryd.prog 50 #[.int .i64 x] w fun e w' => e = .returned (.bool false) ∧ w' = w := by
  go_enter Tryd.func50, Tryd.ntmps50
  go_wp2_with fail
  go_ret
  exact ⟨by simp, rfl⟩
theorem nanS_c (x : ByteArray) (w : World) : Calls Tryd.prog 51 #[.string x] w fun e w' => e = .returned (.bool false) ∧ w' = w := by
  have h : (x.toList == x.toList) = true := (Lib.bytes_beq_iff x x).2 rfl
  go_enter Tryd.func51, Tryd.ntmps51
  go_wp2_with fail
  go_ret
  exact ⟨by simp, rfl⟩
theorem cmpI_c (a b : Int) (w : World) : Calls Tryd.prog 31 #[.int .i64 a, .int .i64 b] w fun e w' => e = .returned (.int .i64 (cmpI a b)) ∧ w' = w := by
  have HE : Hid (cmpI a b = if a < b then -1 else if b < a then 1 else 0) := rfl
  generalize cmpI a b = E at *
  by_cases h1 : a < b
  · have HL := Lib.hid (HE.out.trans (if_pos h1))
    have g1 : decide (a < b) = true := decide_eq_true h1
    go_enter Tryd.func31, Tryd.ntmps31
    go_wp2_with (first | (refine (nanI_c _ _).mono ?_; rintro e w' ⟨rfl, rfl⟩))
    go_ret
    exact ⟨by rw [HL.out]; rfl, rfl⟩
  · by_cases h2 : b < a
    · have HL := Lib.hid (HE.out.trans ((if_neg h1).trans (if_pos h2)))
      go_enter Tryd.func31, Tryd.ntmps31
      go_wp2_with (first | (refine (nanI_c _ _).mono ?_; rintro e w' ⟨rfl, rfl⟩))
      go_ret
      exact ⟨by rw [HL.out]; rfl, rfl⟩
    · have HL := Lib.hid (HE.out.trans ((if_neg h1).trans (if_neg h2)))
      go_enter Tryd.func31, Tryd.ntmps31
      go_wp2_with (first | (refine (nanI_c _ _).mono ?_; rintro e w' ⟨rfl, rfl⟩))
      go_ret
      exact ⟨by rw [HL.out]; rfl, rfl⟩
theorem cmpS_c (a b : ByteArray) (w : World) : Calls Tryd.prog 32 #[.string a, .string b] w fun e w' => e = .returned (.int .i64 (cmpS a b)) ∧ w' = w := by
  have HE : Hid (cmpS a b = if lessS a b = true then -1 else if (lessS a b || a.toList == b.toList) = true then 0 else 1) := rfl
  have HQ : Hid (lessS a b = Op.bytesLess a.toList b.toList) := rfl
  generalize cmpS a b = E at *
  generalize lessS a b = Q at *
  cases hq : Op.bytesLess a.toList b.toList
  · have HQ2 := Lib.hid (HQ.out.trans hq)
    rw [HQ2.out] at HE
    cases he : (a.toList == b.toList)
    · rw [he] at HE
      have HL : Hid (E = 1) := HE.out
      go_enter Tryd.func32, Tryd.ntmps32
      go_wp2_with (first | (refine (nanS_c _ _).mono ?_; rintro e w' ⟨rfl, rfl⟩))
      go_ret
      exact ⟨by rw [HL.out]; rfl, rfl⟩
    · rw [he] at HE
      have HL : Hid (E = 0) := HE.out
      go_enter Tryd.func32, Tryd.ntmps32
      go_wp2_with (first | (refine (nanS_c _ _).mono ?_; rintro e w' ⟨rfl, rfl⟩))
      go_ret
      exact ⟨by rw [HL.out]; rfl, rfl⟩
  · have HQ2 := Lib.hid (HQ.out.trans hq)
    rw [HQ2.out] at HE
    have HL : Hid (E = -1) := HE.out
    go_enter Tryd.func32, Tryd.ntmps32
    go_wp2_with (first | (refine (nanS_c _ _).mono ?_; rintro e w' ⟨rfl, rfl⟩))
    go_ret
    exact ⟨by rw [HL.out]; rfl, rfl⟩
theorem orI_drop {l : List Int} {k : Nat} (h : k < l.length) : orI (l.drop k) = if l.getD k 0 ≠ 0 then l.getD k 0 else orI (l.drop (k + 1)) := by
  rw [List.drop_eq_getElem_cons h]
  simp [orI, h]
set_option maxHeartbeats 400000 in
theorem or_c (l : List Int) (a : Option Addr) (c : Nat) (w : World) (hv : Reads w (.slice a l.length c) l.length (ints l)) :
    Calls Tryd.prog 30 #[.slice a l.length c] w fun e w' => e = .returned (.int .i64 (orI l)) ∧ w' = w := by
  have hn : l.length ≤ 9223372036854775807 := by
    rcases hv with ⟨h, _⟩ | ⟨_, _, _, _, _, h, _⟩ <;> omega
  have HE : Hid (orI (l.drop 0) = orI l) := rfl
  generalize orI l = E at *
  obtain ⟨n, hN⟩ : ∃ n, l.length = n := ⟨_, rfl⟩
  have HN := Lib.hid hN
  have HV := Lib.hid hv
  rw [hN] at HV hn ⊢
  clear hN hv
  go_enter Tryd.func30, Tryd.ntmps30
  go_wp2_with fail
  go_loop [8] (fun i => ∃ k : Nat, k ≤ n ∧ i = .int .i64 k ∧ Hid (orI (l.drop k) = E)) (fun i => n - (intOf i).toNat)
  case atStart => exact ⟨0, Nat.zero_le _, rfl, HE⟩
  case round =>
    clear HE
    obtain ⟨k, hk, rfl, he⟩ := hrel
    by_cases hlt : k < n
    · obtain ⟨b, off, cap', hvv, _, _, _, hcc⟩ := HV.out.addr (by omega)
      simp only [Value.slice.injEq] at hvv
      obtain ⟨rfl, _, rfl⟩ := hvv
      have hlk : k < l.length := by rw [HN.out]; exact hlt
      have x0 := hcc k _ (ints_get hlk)
      have hd := orI_drop hlk
      rw [hd] at he
      generalize l.getD k 0 = x at *
      clear hcc hd
      by_cases hx : x = 0
      · have HX : Hid (orI (l.drop (k + 1)) = E) := by show _ = _; rw [← he.out, if_neg (by simp [hx])]
        have g1 : (x != 0) = false := by simp [hx]
        clear he hx
        go_wp2_with fail
        go_round
        case rel => exact ⟨k + 1, by omega, by go_num, HX⟩
        case measure => simp [intOf]; omega
      · have HX : Hid (E = x) := by show _ = _; rw [← he.out, if_pos hx]
        have g1 : (x != 0) = true := by simpa using hx
        clear he hx
        go_wp2_with fail
        go_ret
        exact ⟨by rw [HX.out]; rfl, rfl⟩
    · have hn0 : l.drop k = [] := List.drop_eq_nil_of_le (by rw [HN.out]; omega)
      have HX : Hid (E = 0) := by show _ = _; rw [← he.out, hn0]; rfl
      clear he hn0
      go_wp2_with fail
      go_ret
      exact ⟨by rw [HX.out]; rfl, rfl⟩
set_option maxHeartbeats 4000000 in
theorem compare_c (a b : Ev) (w : World) : Calls Tryd.prog 19 #[.agg a.cells.toArray, .agg b.cells.toArray] w fun e w' => e = .returned (.int .i64 (cmpE a b)) ∧ Gro w w' := by
  obtain ⟨a0, a1, a2, a3⟩ := a
  obtain ⟨b0, b1, b2, b3⟩ := b
  show Calls _ _ #[.agg #[.int .i64 a0, .string a1, .string a2, .int .i64 a3], .agg #[.int .i64 b0, .string b1, .string b2, .int .i64 b3]] _ _
  have KA := (Blk.new w #[.int .i64 a0, .string a1, .string a2, .int .i64 a3] 31).alloc (.cells #[.int .i64 b0, .string b1, .string b2, .int .i64 b3] 31)
  have KB := Blk.new2 w (.cells #[.int .i64 a0, .string a1, .string a2, .int .i64 a3] 31) #[.int .i64 b0, .string b1, .string b2, .int .i64 b3] 31
  have G2 := ((Gro.refl w).alloc (.cells #[.int .i64 a0, .string a1, .string a2, .int .i64 a3] 31)).alloc (.cells #[.int .i64 b0, .string b1, .string b2, .int .i64 b3] 31)
  generalize hW2 : (w.alloc (.cells #[.int .i64 a0, .string a1, .string a2, .int .i64 a3] 31)).alloc (.cells #[.int .i64 b0, .string b1, .string b2, .int .i64 b3] 31) = W2 at *
  have HW2 := Lib.hid hW2
  have HE : Hid (cmpE ⟨a0, a1, a2, a3⟩ ⟨b0, b1, b2, b3⟩ = orI [cmpI a0 b0, cmpS a1 b1, cmpS a2 b2, cmpI a3 b3]) := rfl
  have HC0 := Lib.hid (fun W => cmpI_c a0 b0 W)
  have HC1 := Lib.hid (fun W => cmpS_c a1 b1 W)
  have HC2 := Lib.hid (fun W => cmpS_c a2 b2 W)
  have HC3 := Lib.hid (fun W => cmpI_c a3 b3 W)
  generalize cmpE ⟨a0, a1, a2, a3⟩ ⟨b0, b1, b2, b3⟩ = E at *
  generalize cmpI a0 b0 = c0 at *
  generalize cmpS a1 b1 = c1 at *
  generalize cmpS a2 b2 = c2 at *
  generalize cmpI a3 b3 = c3 at *
  have HG2 := Lib.hid G2
  have HKA := Lib.hid KA
  have HKB := Lib.hid KB
  have hsz : w.heap.size + 1 < W2.heap.size := HKB.out.lt
  have x0 := KA.cell 0 rfl
  have x1 := KA.cell 1 rfl
  have x2 := KA.cell 2 rfl
  have x3 := KA.cell 3 rfl
  have y0 := KB.cell 0 rfl
  have y1 := KB.cell 1 rfl
  have y2 := KB.cell 2 rfl
  have y3 := KB.cell 3 rfl
  have HOR : Hid (Calls Tryd.prog 30 #[.slice (some ⟨W2.heap.size, 0, none⟩) 4 4] ((W2.alloc (.cells #[.int .i64 c0, .int .i64 c1, .int .i64 c2, .int .i64 c3] 3)).drew) fun e w' => e = .returned (.int .i64 E) ∧ w' = (W2.alloc (.cells #[.int .i64 c0, .int .i64 c1, .int .i64 c2, .int .i64 c3] 3)).drew) := by
    have K := (Blk.new W2 #[.int .i64 c0, .int .i64 c1, .int .i64 c2, .int .i64 c3] 3).drew
    have := or_c [c0, c1, c2, c3] (some ⟨W2.heap.size, 0, none⟩) 4 _ (Or.inr ⟨W2.heap.size, 0, 4, rfl, Nat.le_refl _, by simp, K.lt, fun j u hj => by rw [Nat.zero_add]; exact K.cell j (by simpa [ints] using hj)⟩)
    rw [← HE.out] at this
    exact this
  clear KA KB G2 hW2 HE
  go_enter Tryd.func19, Tryd.ntmps19
  go_upto_region 1 with fail
  rw [HW2.out]
  have HSB : Hid (∀ W, Below W2.heap.size W2 W → W.cell? ⟨w.heap.size, 0, none⟩ = some (.int .i64 a0) ∧ W.cell? ⟨w.heap.size, 1, none⟩ = some (.string a1) ∧ W.cell? ⟨w.heap.size, 2, none⟩ = some (.string a2) ∧ W.cell? ⟨w.heap.size, 3, none⟩ = some (.int .i64 a3) ∧ W.cell? ⟨w.heap.size + 1, 0, none⟩ = some (.int .i64 b0) ∧ W.cell? ⟨w.heap.size + 1, 1, none⟩ = some (.string b1) ∧ W.cell? ⟨w.heap.size + 1, 2, none⟩ = some (.string b2) ∧ W.cell? ⟨w.heap.size + 1, 3, none⟩ = some (.int .i64 b3)) := fun W hW => by
    have k := below_blk hW HKA.out HKA.out.lt
    have l := below_blk hW HKB.out HKB.out.lt
    exact ⟨k.cell 0 rfl, k.cell 1 rfl, k.cell 2 rfl, k.cell 3 rfl, l.cell 0 rfl, l.cell 1 rfl, l.cell 2 rfl, l.cell 3 rfl⟩
  have D0 : Hid (Below W2.heap.size W2 W2.drew) := below_drewN (Below.refl _ _) 1
  have DA : Hid (Below W2.heap.size W2 (W2.alloc (.cells #[.int .i64 c0, .int .i64 c1, .int .i64 c2, .int .i64 c3] 3)).drew) := below_drewN (belowA (Below.refl _ _) _) 1
  have HG3 : Hid (Gro w (W2.alloc (.cells #[.int .i64 c0, .int .i64 c1, .int .i64 c2, .int .i64 c3] 3)).drew) := (HG2.out.alloc _).drew
  go_region_held3 (fun W => W.cell? ⟨w.heap.size, 0, none⟩ = some (.int .i64 a0) ∧ W.cell? ⟨w.heap.size, 1, none⟩ = some (.string a1) ∧ W.cell? ⟨w.heap.size, 2, none⟩ = some (.string a2) ∧ W.cell? ⟨w.heap.size, 3, none⟩ = some (.int .i64 a3) ∧ W.cell? ⟨w.heap.size + 1, 0, none⟩ = some (.int .i64 b0) ∧ W.cell? ⟨w.heap.size + 1, 1, none⟩ = some (.string b1) ∧ W.cell? ⟨w.heap.size + 1, 2, none⟩ = some (.string b2) ∧ W.cell? ⟨w.heap.size + 1, 3, none⟩ = some (.int .i64 b3))
    ((refine HSB.out _ ?_; first | (with_reducible exact D0.out) | (with_reducible exact DA.out)))
    (first
      | (go_at_call 31; (with_reducible refine (HC0.out _).mono ?_); rintro e w' ⟨rfl, rfl⟩)
      | (go_at_call 31; (with_reducible refine (HC3.out _).mono ?_); rintro e w' ⟨rfl, rfl⟩)
      | (go_at_call 32; (with_reducible refine (HC1.out _).mono ?_); rintro e w' ⟨rfl, rfl⟩)
      | (go_at_call 32; (with_reducible refine (HC2.out _).mono ?_); rintro e w' ⟨rfl, rfl⟩)
      | (go_at_call 30; refine HOR.out.mono ?_; rintro e w' ⟨rfl, rfl⟩))
  all_goals
    go_simp
    go_wp2_with fail
    go_ret
    exact ⟨rfl, HG3.out⟩
end Go.Proofs.YtjakhgilkogcnaaDoor
