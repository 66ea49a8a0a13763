/- balanceWorks is true. -/
import Derived.Test.YtkpalfgnfhphjaaDoorBal3
import Derived.Test.YtkpalfgnfhphjaaDoorBal9
namespace Go.Proofs.YtkpalfgnfhphjaaDoor
open Go.RowKit

theorem dT_d (n : Nat) (h : n < 10) : dT n = [UInt8.ofNat (48 + n)] := dT_small h
theorem tx10 : bs (ratT 10) = ⟨#[49, 48]⟩ := by
  have h : dT 10 = [49, 48] := by rw [dT_big (by decide), dT_small (by decide)]; decide
  have e : ratT 10 = [] ++ (dT 10 ++ []) := rfl
  rw [e, h]; rfl
theorem txm8 : bs (ratT (-8)) = ⟨#[45, 56]⟩ := by
  have h : dT 8 = [56] := by rw [dT_small (by decide)]; decide
  have e : ratT (-8) = [45] ++ (dT 8 ++ []) := rfl
  rw [e, h]; rfl
theorem tx5 : bs (ratT 5) = ⟨#[53]⟩ := by
  have h : dT 5 = [53] := by rw [dT_small (by decide)]; decide
  have e : ratT 5 = [] ++ (dT 5 ++ []) := rfl
  rw [e, h]; rfl
theorem tx3 : bs (ratT 3) = ⟨#[51]⟩ := by
  have h : dT 3 = [51] := by rw [dT_small (by decide)]; decide
  have e : ratT 3 = [] ++ (dT 3 ++ []) := rfl
  rw [e, h]; rfl
theorem txm3 : bs (ratT (-3)) = ⟨#[45, 51]⟩ := by
  have h : dT 3 = [51] := by rw [dT_small (by decide)]; decide
  have e : ratT (-3) = [45] ++ (dT 3 ++ []) := rfl
  rw [e, h]; rfl
theorem tx2 : bs (ratT 2) = ⟨#[50]⟩ := by
  have h : dT 2 = [50] := by rw [dT_small (by decide)]; decide
  have e : ratT 2 = [] ++ (dT 2 ++ []) := rfl
  rw [e, h]; rfl
theorem tx9 : bs (ratT 9) = ⟨#[57]⟩ := by
  have h : dT 9 = [57] := by rw [dT_small (by decide)]; decide
  have e : ratT 9 = [] ++ (dT 9 ++ []) := rfl
  rw [e, h]; rfl
theorem fit_int (n : Int) (h0 : -1000000 ≤ n) (h1 : n ≤ 1000000) : FitQ ((n : Int) : Rat) := by
  unfold FitQ
  rw [Rat.num_intCast, Rat.den_intCast, dT_one]
  exact ⟨Nat.le_trans (dT_len (k := 7) (by decide) (by omega)) (by decide), by decide⟩
theorem w_sum : sumQ [10, -8] = 2 := by decide +kernel
theorem w_half : sumA [10, -8] / 2 = 9 := by decide +kernel
theorem w_op1 : decide (0 < cmpR (absQ (sumQ [10, -8])) (limQ (sumA [10, -8] / 2) 1 100)) = true := by decide +kernel
theorem w_op2 : decide (0 < cmpR (absQ (sumQ [10, -8])) (limQ (sumA [10, -8] / 2) 2 0)) = false := by decide +kernel
theorem w_ent : entQ feedN [sC, sD] [5, 3] = [5, -3] := by decide +kernel
theorem w_bnd : bndE feedN [sC] = ([], 3) := by decide +kernel
theorem w_bnd2 : (bndE feedN [sC, sD]).2 = 0 := by decide +kernel
theorem fit_list {l : List Int} (h : ∀ n ∈ l, -1000000 ≤ n ∧ n ≤ 1000000) : ∀ q ∈ l.map (fun n : Int => (n : Rat)), FitQ q := by
  intro q hq
  obtain ⟨n, hn, rfl⟩ := List.mem_map.1 hq
  exact fit_int n (h n hn).1 (h n hn).2
theorem w_fit : ∀ q ∈ ([10, -8] : List Rat), FitQ q := fit_list (l := [10, -8]) (by decide)
theorem w_fit2 : ∀ q ∈ ([5, 3] : List Rat), FitQ q := fit_list (l := [5, 3]) (by decide)
theorem w_entX : entX feedN [sC, sD] (txts [5, 3]) = 0 := by
  unfold entX
  rw [if_neg (fun h => h w_bnd2), if_neg (by decide), allE_of w_fit2]
theorem svals2 {w : World} {b : Nat} {x y : ByteArray} {T : TypeId} (h : Blk w b #[.string x, .string y] T) : SVal w (.slice (some ⟨b, 0, none⟩) 2 2) [x, y] := svals (l := [x, y]) h (by simp)
theorem svals1 {w : World} {b : Nat} {x : ByteArray} {T : TypeId} (h : Blk w b #[.string x] T) : SVal w (.slice (some ⟨b, 0, none⟩) 1 1) [x] := svals (l := [x]) h (by simp)
set_option maxRecDepth 100000 in
set_option maxHeartbeats 4000000 in
theorem works_c (w : World) : Calls Tryd.prog 6 #[] w fun e w' => e = .returned (.bool true) ∧ Below w.heap.size w w' := by
  have HFE := Lib.hid (fun W => feeder_c W)
  have HEN : Hid (∀ x0 pv fv W, NetR W x0 feedN → SVal W pv [sC, sD] → SVal W fv (txts [5, 3]) → Calls Tryd.prog 10 #[x0.val feedN, pv, fv] W (EntP (txts [5, -3], 0) W)) := fun x0 pv fv W h1 h2 h3 => by
    have h := enter_c x0 feedN pv fv [sC, sD] (txts [5, 3]) W h1 feedN_wf h2 h3 (fun s hs => by
      obtain ⟨q, hq, rfl⟩ := List.mem_map.1 hs
      have := rtxt_size (w_fit2 q hq)
      omega)
    refine h.mono fun e w' h => ?_
    have := h.2 [5, 3] w_entX rfl w_fit2
    rw [w_ent] at this
    exact this
  have HBN : Hid (∀ x0 pv W, NetR W x0 feedN → SVal W pv [sC] → Calls Tryd.prog 19 #[x0.val feedN, pv] W (BndP ([], 3) W)) := fun x0 pv W h1 h2 => by
    have h := boundary_c x0 feedN pv [sC] W h1 feedN_wf h2
    rw [w_bnd] at h
    exact h
  have HSU : Hid (∀ v W, SVal W v (txts [10, -8]) → Calls Tryd.prog 9 #[v] W fun e w' => e = .returned (.tuple #[.string ⟨#[50]⟩, .string ⟨#[57]⟩, .int .i64 0]) ∧ Below W.heap.size W w') := fun v W h1 => by
    have h := bsum_ok v [10, -8] W h1 w_fit (by decide) (by rw [w_sum]; exact fit_int 2 (by decide) (by decide)) (by rw [w_half]; exact fit_int 9 (by decide) (by decide))
    rw [w_sum, w_half, tx2, tx9] at h
    exact h
  have HO1 : Hid (∀ v W, SVal W v (txts [10, -8]) → Calls Tryd.prog 8 #[v, .int .i64 1, .int .i64 100] W fun e w' => e = .returned (.tuple #[.bool true, .int .i64 0]) ∧ Below W.heap.size W w') := fun v W h1 => by
    have h := bop_ok v [10, -8] 1 100 W h1 w_fit (by decide) (by rw [w_sum]; exact fit_int 2 (by decide) (by decide)) (by rw [w_half]; exact fit_int 9 (by decide) (by decide)) (by decide) (by decide) (by decide) (by decide)
    rw [w_op1] at h
    exact h
  have HO2 : Hid (∀ v W, SVal W v (txts [10, -8]) → Calls Tryd.prog 8 #[v, .int .i64 2, .int .i64 0] W fun e w' => e = .returned (.tuple #[.bool false, .int .i64 0]) ∧ Below W.heap.size W w') := fun v W h1 => by
    have h := bop_ok v [10, -8] 2 0 W h1 w_fit (by decide) (by rw [w_sum]; exact fit_int 2 (by decide) (by decide)) (by rw [w_half]; exact fit_int 9 (by decide) (by decide)) (by decide) (by decide) (by decide) (by decide)
    rw [w_op2] at h
    exact h
  have HSV : Hid (∀ va vb W, SVal W va (txts [5, -3]) → SVal W vb (txts [5, -3]) → Calls Tryd.prog 20 #[va, vb] W fun e w' => e = .returned (.bool true) ∧ Below W.heap.size W w') := fun va vb W h1 h2 => by
    have h := sameVec_c va vb _ _ W h1 h2
    rw [decide_eq_true rfl] at h
    exact h
  have e53 : txts [5, 3] = [⟨#[53]⟩, ⟨#[51]⟩] := by show [bs (ratT 5), bs (ratT 3)] = _; rw [tx5, tx3]
  have e5m3 : txts [5, -3] = [⟨#[53]⟩, ⟨#[45, 51]⟩] := by show [bs (ratT 5), bs (ratT (-3))] = _; rw [tx5, txm3]
  have e108 : txts [10, -8] = [⟨#[49, 48]⟩, ⟨#[45, 56]⟩] := by show [bs (ratT 10), bs (ratT (-8))] = _; rw [tx10, txm8]
  rw [e53, e5m3] at HEN
  rw [e108] at HSU HO1 HO2
  rw [e5m3] at HSV
  clear e53 e5m3 e108
  go_enter Tryd.func6, Tryd.ntmps6
  go_wp2_with fail
  refine (HFE.out w).mono ?_; rintro e w2 ⟨x0, rfl, hr, hb⟩
  have B2 := Lib.hid hb
  have HR2 := Lib.hid hr
  clear hb hr
  go_wp2_with fail
  refine (HEN.out x0 _ _ _ (HR2.out.below (belowA (belowA (Below.refl _ _) (.cells #[.string sC, .string sD] 9)) (.cells #[.string ⟨#[53]⟩, .string ⟨#[51]⟩] 37))) (svals2 ((Blk.new w2 _ _).alloc _)) (svals2 (Blk.new2 w2 _ _ _))).mono ?_; rintro e w3 ⟨ea, ec, rfl, hsv, hb⟩
  have B3 := Lib.hid (belowT (belowA (belowA B2.out (.cells #[.string sC, .string sD] 9)) (.cells #[.string ⟨#[53]⟩, .string ⟨#[51]⟩] 37)) hb)
  have V3 : Hid (SVal w3 (.slice ea 2 ec) [⟨#[53]⟩, ⟨#[45, 51]⟩]) := hsv
  clear hb hsv B2 HR2 HEN
  go_wp2_with fail
  refine (HSU.out _ _ (svals2 (Blk.new w3 _ _))).mono ?_; rintro e w4 ⟨rfl, hb⟩
  have B4 := Lib.hid (belowT (belowA B3.out (.cells #[.string ⟨#[49, 48]⟩, .string ⟨#[45, 56]⟩] 37)) hb)
  have V4 : Hid (SVal w4 (.slice ea 2 ec) [⟨#[53]⟩, ⟨#[45, 51]⟩]) := (V3.out.below (belowA (Below.refl _ _) _)).below hb
  clear hb B3 V3 HSU
  go_wp2_with fail
  refine (HO1.out _ _ (svals2 (Blk.new w4 _ _))).mono ?_; rintro e w5 ⟨rfl, hb⟩
  have B5 := Lib.hid (belowT (belowA B4.out (.cells #[.string ⟨#[49, 48]⟩, .string ⟨#[45, 56]⟩] 37)) hb)
  have V5 : Hid (SVal w5 (.slice ea 2 ec) [⟨#[53]⟩, ⟨#[45, 51]⟩]) := (V4.out.below (belowA (Below.refl _ _) _)).below hb
  clear hb B4 V4 HO1
  go_wp2_with fail
  refine (HO2.out _ _ (svals2 (Blk.new w5 _ _))).mono ?_; rintro e w6 ⟨rfl, hb⟩
  have B6 := Lib.hid (belowT (belowA B5.out (.cells #[.string ⟨#[49, 48]⟩, .string ⟨#[45, 56]⟩] 37)) hb)
  have V6 : Hid (SVal w6 (.slice ea 2 ec) [⟨#[53]⟩, ⟨#[45, 51]⟩]) := (V5.out.below (belowA (Below.refl _ _) _)).below hb
  clear hb B5 V5 HO2
  go_wp2_with fail
  refine (HFE.out w6).mono ?_; rintro e w7 ⟨x1, rfl, hr, hb⟩
  have B7 := Lib.hid (belowT B6.out hb)
  have V7 : Hid (SVal w7 (.slice ea 2 ec) [⟨#[53]⟩, ⟨#[45, 51]⟩]) := V6.out.below hb
  have HR7 := Lib.hid hr
  clear hb hr B6 V6 HFE
  go_wp2_with fail
  refine (HBN.out x1 _ _ (HR7.out.below (belowA (Below.refl _ _) (.cells #[.string sC] 9))) (svals1 (Blk.new w7 _ _))).mono ?_; rintro e w8 ⟨ba, bc, rfl, _, hb⟩
  have B8 := Lib.hid (belowT (belowA B7.out (.cells #[.string sC] 9)) hb)
  have V8 : Hid (SVal w8 (.slice ea 2 ec) [⟨#[53]⟩, ⟨#[45, 51]⟩]) := (V7.out.below (belowA (Below.refl _ _) _)).below hb
  clear hb B7 V7 HR7 HBN
  go_wp2_with fail
  refine (HSV.out _ _ _ (V8.out.below (belowA (Below.refl _ _) _)) (svals2 (Blk.new w8 _ _))).mono ?_; rintro e w9 ⟨rfl, hb⟩
  have B9 := Lib.hid (belowT (belowA B8.out (.cells #[.string ⟨#[53]⟩, .string ⟨#[45, 51]⟩] 37)) hb)
  clear hb V8 B8
  go_wp2_with fail
  go_ret
  exact ⟨by simp, B9.out⟩
end Go.Proofs.YtkpalfgnfhphjaaDoor
