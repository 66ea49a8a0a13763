/- rat: Abs, Fits, Out, told. -/
import Derived.Test.YtkpalfgnfhphjaaDoorTxt7
import Derived.Test.YtkpalfgnfhphjaaDoorRat4
namespace Go.Proofs.YtkpalfgnfhphjaaDoor
open Go.RowKit

/-- The absolute value. -/
def absQ (q : Rat) : Rat := if q.num < 0 then -q else q
theorem absQ_parts (q : Rat) : (absQ q).num.natAbs = q.num.natAbs ∧ (absQ q).den = q.den ∧ ¬ (absQ q).num < 0 := by
  unfold absQ
  by_cases h : q.num < 0
  · rw [if_pos h, Rat.neg_num, Rat.neg_den, Int.natAbs_neg]; exact ⟨rfl, rfl, by omega⟩
  · rw [if_neg h]; exact ⟨rfl, rfl, h⟩
theorem absQ_zero {q : Rat} : q = 0 → absQ q = 0 := fun h => by rw [h]; rfl
theorem QC.abs {w : World} {ng : Bool} {vn vd : Value} {q : Rat} (h : QC w ng vn vd q) : QC w false vn vd (absQ q) := by
  obtain ⟨p1, p2, p3⟩ := absQ_parts q
  refine ⟨by rw [decide_eq_false p3], by rw [p1]; exact h.2.1, ?_⟩
  rw [p2]
  exact h.2.2.imp id (fun ⟨h0, h1⟩ => ⟨absQ_zero h0, h1⟩)
set_option maxHeartbeats 1000000 in
theorem abs_c (ng : Bool) (vn vd : Value) (q : Rat) (w : World) (h : QC w ng vn vd q) :
    Calls Tryd.prog 28 #[.agg #[.bool ng, vn, vd]] w fun e w' => (∃ v, e = .returned v ∧ QV w' v (absQ q)) ∧ Below w.heap.size w w' := by
  have H := Lib.hid h.abs
  obtain ⟨na, nc, da, dl, dc, rfl, rfl, _⟩ := h.parts
  obtain ⟨n, hn⟩ : ∃ n, ln q.num.natAbs = n := ⟨_, rfl⟩
  rw [hn] at H ⊢
  clear hn h
  go_enter Tryd.func28, Tryd.ntmps28
  go_wp2_with fail
  (try simp only [Exit.inBlock, Exit.then])
  refine bodyPost_ret (v := .agg #[.bool false, .slice na n nc, .slice da dl dc]) ?_ rfl ⟨⟨_, rfl, _, _, _, rfl, ?_⟩, ?_⟩
  · rw [results_cell rfl]
    go_simp
  · exact H.out.below (belowA (belowA (Below.refl _ _) _) _)
  · exact belowA (belowA (Below.refl _ _) _) _
/-- What Fits answers. -/
def fitE (q : Rat) : Int := if (dT q.num.natAbs).length ≤ 2000 ∧ (dT q.den).length ≤ 2000 then 0 else 2
theorem fitE_ok {q : Rat} : fitE q = 0 ↔ FitQ q := by
  unfold fitE FitQ
  constructor
  · intro h
    split at h
    · assumption
    · cases h
  · intro h; rw [if_pos h]
theorem dT_ln (n : Nat) : (dT n).length ≤ 9 * ln n + 1 := by
  rcases Nat.eq_zero_or_pos n with rfl | hn
  · rw [dT_zero]; simp
  · have h1 := lt_ln n
    rw [pw_ten] at h1
    have h2 := ln_pos hn
    have := dT_len (n := n) (k := 9 * ln n) (by omega) (Int.ofNat_lt.1 h1)
    omega
set_option maxHeartbeats 1000000 in
theorem fits_c (ng : Bool) (vn vd : Value) (q : Rat) (w : World) (h : QC w ng vn vd q) (hs : sz q ≤ 1000000000000) :
    Calls Tryd.prog 27 #[.agg #[.bool ng, vn, vd]] w fun e w' => e = .returned (.int .i64 (fitE q)) ∧ Below w.heap.size w w' := by
  have h1 := sz_num q
  have h2 := sz_den q
  obtain ⟨d, hd, hdl, hdf⟩ : ∃ d, NV w vd d ∧ ln d ≤ 1000000000000 ∧ ((dT d).length ≤ 2000 ↔ (dT q.den).length ≤ 2000) := by
    rcases h.2.2 with h3 | ⟨h3, h4⟩
    · exact ⟨q.den, h3, by omega, Iff.rfl⟩
    · refine ⟨0, h4, by rw [ln_zero]; omega, ?_⟩
      rw [h3, dT_zero]
      show _ ↔ (dT 1).length ≤ 2000
      rw [dT_one]; simp
  have HD1 := Lib.hid (fun W (hW : Below w.heap.size w W) => digits_c vn q.num.natAbs W (h.2.1.below hW) (by omega))
  have HD2 := Lib.hid (fun W (hW : Below w.heap.size w W) => digits_c vd d W (hd.below hW) (by omega))
  obtain ⟨na, nc, da, dl, dc, rfl, rfl, _⟩ := h.parts
  have HE : Hid (fitE q = if (dT q.num.natAbs).length ≤ 2000 ∧ (dT d).length ≤ 2000 then 0 else 2) := by
    show _ = _
    unfold fitE
    by_cases ha : (dT q.num.natAbs).length ≤ 2000 <;> by_cases hb : (dT d).length ≤ 2000 <;> simp [ha, hb, ← hdf]
  generalize fitE q = E at *
  generalize (dT q.num.natAbs).length = L1 at *
  generalize (dT d).length = L2 at *
  obtain ⟨n, hn⟩ : ∃ n, ln q.num.natAbs = n := ⟨_, rfl⟩
  rw [hn] at HD1 ⊢
  have HB := Lib.hid (belowA (Below.refl w.heap.size w) (.cells #[.bool ng, .slice na n nc, .slice da dl dc] 65))
  have KB := Lib.hid (Blk.new w #[.bool ng, .slice na n nc, .slice da dl dc] 65)
  clear h hd hdl hdf hn h1 h2 hs
  by_cases hL1 : L1 ≤ 2000
  · have g1 : decide (2000 < (L1 : Int)) = false := decide_eq_false (by omega)
    by_cases hL2 : L2 ≤ 2000
    · have g2 : decide (2000 < (L2 : Int)) = false := decide_eq_false (by omega)
      have HE2 : Hid (E = 0) := HE.out.trans (if_pos ⟨hL1, hL2⟩)
      clear HE hL1 hL2
      go_enter Tryd.func27, Tryd.ntmps27
      go_wp2_with fail
      refine (HD1.out _ HB.out).mono ?_; rintro e w2 ⟨rfl, hb⟩
      have B2 := Lib.hid (belowT HB.out hb)
      have K2 := below_blk hb KB.out KB.out.lt
      have x2 := K2.cell 2 rfl
      have hl2 := K2.lt
      have HD3 := Lib.hid (HD2.out w2 B2.out)
      clear hb K2 HD1 HD2
      go_wp2_with fail
      refine HD3.out.mono ?_; rintro e w3 ⟨rfl, hb⟩
      have B3 := Lib.hid (belowT B2.out hb)
      clear hb
      go_wp2_with fail
      go_ret
      exact ⟨by rw [HE2.out]; rfl, B3.out⟩
    · have g2 : decide (2000 < (L2 : Int)) = true := decide_eq_true (by omega)
      have HE2 : Hid (E = 2) := HE.out.trans (if_neg (fun h => hL2 h.2))
      clear HE hL1 hL2
      go_enter Tryd.func27, Tryd.ntmps27
      go_wp2_with fail
      refine (HD1.out _ HB.out).mono ?_; rintro e w2 ⟨rfl, hb⟩
      have B2 := Lib.hid (belowT HB.out hb)
      have K2 := below_blk hb KB.out KB.out.lt
      have x2 := K2.cell 2 rfl
      have hl2 := K2.lt
      have HD3 := Lib.hid (HD2.out w2 B2.out)
      clear hb K2 HD1 HD2
      go_wp2_with fail
      refine HD3.out.mono ?_; rintro e w3 ⟨rfl, hb⟩
      have B3 := Lib.hid (belowT B2.out hb)
      clear hb
      go_wp2_with fail
      go_ret
      exact ⟨by rw [HE2.out]; rfl, B3.out⟩
  · have g1 : decide (2000 < (L1 : Int)) = true := decide_eq_true (by omega)
    have HE2 : Hid (E = 2) := HE.out.trans (if_neg (fun h => hL1 h.1))
    clear HE hL1
    go_enter Tryd.func27, Tryd.ntmps27
    go_wp2_with fail
    refine (HD1.out _ HB.out).mono ?_; rintro e w2 ⟨rfl, hb⟩
    have B2 := Lib.hid (belowT HB.out hb)
    clear hb HD1 HD2
    go_wp2_with fail
    go_ret
    exact ⟨by rw [HE2.out]; rfl, B2.out⟩
theorem bs_app (a b : List UInt8) : bs a ++ bs b = bs (a ++ b) := by
  apply ByteArray.ext
  rw [ByteArray.data_append]
  apply Array.ext'
  simp
theorem nil_bs (x : ByteArray) : bs [] ++ x = x := by rw [← bs_data x, bs_app]; rfl
theorem bs_nil (x : ByteArray) : x ++ bs [] = x := by rw [← bs_data x, bs_app, List.append_nil]
theorem bs_assoc (x y z : ByteArray) : x ++ (y ++ z) = x ++ y ++ z := by rw [← bs_data x, ← bs_data y, ← bs_data z]; simp only [bs_app, List.append_assoc]
set_option maxHeartbeats 2000000 in
theorem out_c (ng : Bool) (vn vd : Value) (q : Rat) (w : World) (h : QC w ng vn vd q) (hs : sz q ≤ 1000000000000) :
    Calls Tryd.prog 30 #[.agg #[.bool ng, vn, vd]] w fun e w' => e = .returned (.string (bs (ratT q))) ∧ Below w.heap.size w w' := by
  have h1 := sz_num q
  have h2 := sz_den q
  have HT1 := Lib.hid (fun W (hW : Below w.heap.size w W) => text_c vn q.num.natAbs W (h.2.1.below hW) (by omega))
  have HT2 := Lib.hid (fun v W (hv : NV W v q.den) => text_c v q.den W hv (by omega))
  have HWH := Lib.hid (fun W (hW : Below w.heap.size w W) => whole_c ng vn vd q W (h.below hW))
  have HNG : ng = decide (q.num < 0) := h.1
  have s1 : (bs (dT q.num.natAbs)).size ≤ 9000000000001 := by rw [bs_size]; have := dT_ln q.num.natAbs; omega
  have s2 : (bs (dT q.den)).size ≤ 9000000000001 := by rw [bs_size]; have := dT_ln q.den; omega
  have hone : (bs (dT q.den) = ⟨#[49]⟩) ↔ q.den = 1 := by
    rw [show (⟨#[49]⟩ : ByteArray) = bs (dT 1) by rw [dT_one]]
    exact ⟨fun e => dT_inj (bs_inj e), fun e => by rw [e]⟩
  have hrt : bs (ratT q) = (if q.num < 0 then bs [45] else bs []) ++ (bs (dT q.num.natAbs) ++ if q.den = 1 then bs [] else bs [47] ++ bs (dT q.den)) := by
    unfold ratT
    by_cases ha : q.num < 0 <;> by_cases hb : q.den = 1 <;> simp only [ha, hb, if_true, if_false, bs_app] <;> rfl
  have hz0 : q = 0 → bs (ratT q) = ⟨#[48]⟩ := fun h => by rw [ratT_zero.2 h]
  obtain ⟨na, nc, da, dl, dc, rfl, rfl, _⟩ := h.parts
  obtain ⟨n, hn⟩ : ∃ n, ln q.num.natAbs = n := ⟨_, rfl⟩
  generalize bs (ratT q) = R at *
  generalize bs (dT q.num.natAbs) = T1 at *
  generalize bs (dT q.den) = T2 at *
  rw [hn] at HT1 HWH ⊢
  have HB := Lib.hid (belowA (Below.refl w.heap.size w) (.cells #[.bool ng, .slice na n nc, .slice da dl dc] 65))
  have KB := Lib.hid (Blk.new w #[.bool ng, .slice na n nc, .slice da dl dc] 65)
  by_cases h0 : q = 0
  · have hz : n = 0 := by rw [← hn, num_zero.2 h0]; exact ln_zero
    subst hz
    have HR := Lib.hid (hz0 h0)
    clear hn h h0 HNG HT1 HT2 HWH hone hrt hz0 h1 h2 hs
    go_enter Tryd.func30, Tryd.ntmps30
    go_wp2_with fail
    go_ret
    exact ⟨by rw [HR.out]; rfl, HB.out⟩
  · have hz : 0 < n := by rw [← hn]; exact ln_pos (Nat.pos_of_ne_zero fun h => h0 (num_zero.1 h))
    have q1 : ((n : Int) == 0) = false := by rw [beq_eq_false_iff_ne]; omega
    have HRT := Lib.hid hrt
    have HON := Lib.hid hone
    have HNN := Lib.hid HNG
    clear hn h h0 hz0 h1 h2 hs hrt hone HNG
    have q2 := tl49 T2
    cases ng with
    | true =>
      have hneg : q.num < 0 := of_decide_eq_true HNN.out.symm
      by_cases hd : q.den = 1
      · have q3 : (T2.toList == [49]) = true := by rw [q2]; exact decide_eq_true (HON.out.2 hd)
        have HR2 : Hid (R = ⟨#[45]⟩ ++ T1) := by show _ = _; rw [HRT.out, if_pos hneg, if_pos hd, bs_nil]
        clear q2 HRT HON hd hneg HNN
        go_enter Tryd.func30, Tryd.ntmps30
        go_wp2_with fail
        refine (HT1.out _ HB.out).mono ?_; rintro e w2 ⟨rfl, hb⟩
        have B2 := Lib.hid (belowT HB.out hb)
        have K2 := below_blk hb KB.out KB.out.lt
        have x0 := K2.cell 0 rfl
        have x1 := K2.cell 1 rfl
        have x2 := K2.cell 2 rfl
        have hl2 := K2.lt
        have HW3 := Lib.hid (HWH.out w2 B2.out)
        clear hb K2 HT1 HWH
        go_wp2_with fail
        refine HW3.out.mono ?_; rintro e w3 ⟨⟨v3, rfl, hv3⟩, hb⟩
        have B3 := Lib.hid (belowT B2.out hb)
        have HT3 := Lib.hid (HT2.out v3 w3 hv3)
        clear hb hv3 HW3 HT2
        go_wp2_with fail
        refine HT3.out.mono ?_; rintro e w4 ⟨rfl, hb⟩
        have B4 := Lib.hid (belowT B3.out hb)
        clear hb HT3
        go_wp2_with fail
        go_ret
        exact ⟨by rw [HR2.out]; rfl, B4.out⟩
      · have q3 : (T2.toList == [49]) = false := by rw [q2]; exact decide_eq_false (fun e => hd (HON.out.1 e))
        have HR2 : Hid (R = ⟨#[45]⟩ ++ T1 ++ (⟨#[47]⟩ ++ T2)) := by show _ = _; rw [HRT.out, if_pos hneg, if_neg hd, bs_assoc]
        clear q2 HRT HON hd hneg HNN
        go_enter Tryd.func30, Tryd.ntmps30
        go_wp2_with fail
        refine (HT1.out _ HB.out).mono ?_; rintro e w2 ⟨rfl, hb⟩
        have B2 := Lib.hid (belowT HB.out hb)
        have K2 := below_blk hb KB.out KB.out.lt
        have x0 := K2.cell 0 rfl
        have x1 := K2.cell 1 rfl
        have x2 := K2.cell 2 rfl
        have hl2 := K2.lt
        have HW3 := Lib.hid (HWH.out w2 B2.out)
        clear hb K2 HT1 HWH
        go_wp2_with fail
        refine HW3.out.mono ?_; rintro e w3 ⟨⟨v3, rfl, hv3⟩, hb⟩
        have B3 := Lib.hid (belowT B2.out hb)
        have HT3 := Lib.hid (HT2.out v3 w3 hv3)
        clear hb hv3 HW3 HT2
        go_wp2_with fail
        refine HT3.out.mono ?_; rintro e w4 ⟨rfl, hb⟩
        have B4 := Lib.hid (belowT B3.out hb)
        clear hb HT3
        go_wp2_with fail
        go_ret
        exact ⟨by rw [HR2.out]; rfl, B4.out⟩
    | false =>
      have hneg : ¬ q.num < 0 := of_decide_eq_false HNN.out.symm
      by_cases hd : q.den = 1
      · have q3 : (T2.toList == [49]) = true := by rw [q2]; exact decide_eq_true (HON.out.2 hd)
        have HR2 : Hid (R = T1) := by show _ = _; rw [HRT.out, if_neg hneg, if_pos hd, bs_nil, nil_bs]
        clear q2 HRT HON hd hneg HNN
        go_enter Tryd.func30, Tryd.ntmps30
        go_wp2_with fail
        refine (HT1.out _ HB.out).mono ?_; rintro e w2 ⟨rfl, hb⟩
        have B2 := Lib.hid (belowT HB.out hb)
        have K2 := below_blk hb KB.out KB.out.lt
        have x0 := K2.cell 0 rfl
        have x1 := K2.cell 1 rfl
        have x2 := K2.cell 2 rfl
        have hl2 := K2.lt
        have HW3 := Lib.hid (HWH.out w2 B2.out)
        clear hb K2 HT1 HWH
        go_wp2_with fail
        refine HW3.out.mono ?_; rintro e w3 ⟨⟨v3, rfl, hv3⟩, hb⟩
        have B3 := Lib.hid (belowT B2.out hb)
        have HT3 := Lib.hid (HT2.out v3 w3 hv3)
        clear hb hv3 HW3 HT2
        go_wp2_with fail
        refine HT3.out.mono ?_; rintro e w4 ⟨rfl, hb⟩
        have B4 := Lib.hid (belowT B3.out hb)
        clear hb HT3
        go_wp2_with fail
        go_ret
        exact ⟨by rw [HR2.out]; rfl, B4.out⟩
      · have q3 : (T2.toList == [49]) = false := by rw [q2]; exact decide_eq_false (fun e => hd (HON.out.1 e))
        have HR2 : Hid (R = T1 ++ (⟨#[47]⟩ ++ T2)) := by show _ = _; rw [HRT.out, if_neg hneg, if_neg hd, nil_bs]
        clear q2 HRT HON hd hneg HNN
        go_enter Tryd.func30, Tryd.ntmps30
        go_wp2_with fail
        refine (HT1.out _ HB.out).mono ?_; rintro e w2 ⟨rfl, hb⟩
        have B2 := Lib.hid (belowT HB.out hb)
        have K2 := below_blk hb KB.out KB.out.lt
        have x0 := K2.cell 0 rfl
        have x1 := K2.cell 1 rfl
        have x2 := K2.cell 2 rfl
        have hl2 := K2.lt
        have HW3 := Lib.hid (HWH.out w2 B2.out)
        clear hb K2 HT1 HWH
        go_wp2_with fail
        refine HW3.out.mono ?_; rintro e w3 ⟨⟨v3, rfl, hv3⟩, hb⟩
        have B3 := Lib.hid (belowT B2.out hb)
        have HT3 := Lib.hid (HT2.out v3 w3 hv3)
        clear hb hv3 HW3 HT2
        go_wp2_with fail
        refine HT3.out.mono ?_; rintro e w4 ⟨rfl, hb⟩
        have B4 := Lib.hid (belowT B3.out hb)
        clear hb HT3
        go_wp2_with fail
        go_ret
        exact ⟨by rw [HR2.out]; rfl, B4.out⟩
end Go.Proofs.YtkpalfgnfhphjaaDoor
