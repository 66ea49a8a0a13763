/- rat: numbers in blocks; In. -/
import Derived.Test.YtkpalfgnfhphjaaDoorRat6
namespace Go.Proofs.YtkpalfgnfhphjaaDoor
open Go.RowKit

theorem QC.keepT {W W' : World} {b : Nat} {ng : Bool} {vn vd : Value} {q : Rat} {cs : Array Value} {T : TypeId} (h : QC W ng vn vd q) (k : Blk W b cs T) (hT : T ≠ 114) (hb : But b W W') : QC W' ng vn vd q :=
  ⟨h.1, h.2.1.keepT k hT hb, h.2.2.imp (fun x => x.keepT k hT hb) (fun x => ⟨x.1, x.2.keepT k hT hb⟩)⟩
/-- A block that holds a rational number. -/
def QM (W : World) (b : Nat) (q : Rat) : Prop := ∃ ng vn vd, Blk W b #[.bool ng, vn, vd] 65 ∧ QC W ng vn vd q
theorem QM.below {W W' : World} {b : Nat} {q : Rat} (h : QM W b q) (k : Below W.heap.size W W') : QM W' b q := by
  obtain ⟨ng, vn, vd, h1, h2⟩ := h
  exact ⟨ng, vn, vd, below_blk k h1 h1.lt, h2.below k⟩
theorem QM.lt {W : World} {b : Nat} {q : Rat} (h : QM W b q) : b < W.heap.size := by
  obtain ⟨ng, vn, vd, h1, h2⟩ := h
  exact h1.lt
theorem QM.blk {W : World} {b : Nat} {q : Rat} (h : QM W b q) : ∃ cs, Blk W b cs 65 := by
  obtain ⟨ng, vn, vd, h1, h2⟩ := h
  exact ⟨_, h1⟩
theorem QM.other {W W' : World} {b b' : Nat} {q : Rat} {cs : Array Value} (h : QM W b q) (k : Blk W b' cs 65) (hb : But b' W W') (hn : b ≠ b') : QM W' b q := by
  obtain ⟨ng, vn, vd, h1, h2⟩ := h
  exact ⟨ng, vn, vd, hb.blk h1 hn, h2.keepT k (by decide) hb⟩
/-- The three stores of a number. -/
abbrev set3 (W : World) (b : Nat) (v0 v1 v2 : Value) : World := ((W.setCell ⟨b, 0, none⟩ v0).setCell ⟨b, 1, none⟩ v1).setCell ⟨b, 2, none⟩ v2
theorem but_set3 (W : World) (b : Nat) (v0 v1 v2 : Value) : But b W (set3 W b v0 v1 v2) := (((But.refl _ _).set 0 _).set 1 _).set 2 _
theorem QM.put {W : World} {b : Nat} {ng : Bool} {vn vd c0 c1 c2 : Value} {q : Rat} (k : Blk W b #[c0, c1, c2] 65) (h : QC W ng vn vd q) : QM (set3 W b (.bool ng) vn vd) b q :=
  ⟨ng, vn, vd, (((k.set 0 _).set 1 _).set 2 _).congr (by simp), h.keepT k (by decide) (but_set3 W b _ _ _)⟩
theorem QM.new {W : World} {ng : Bool} {vn vd : Value} {q : Rat} (h : QC W ng vn vd q) : QM (W.alloc (.cells #[.bool ng, vn, vd] 65)) W.heap.size q :=
  ⟨ng, vn, vd, Blk.new _ _ _, h.below (belowA (Below.refl _ _) _)⟩
/-- What a walk asks of a block that holds a number. -/
theorem QM.parts {W : World} {b : Nat} {q : Rat} (h : QM W b q) : ∃ ng na n nc da dl dc, QC W ng (.slice na n nc) (.slice da dl dc) q ∧ Blk W b #[.bool ng, .slice na n nc, .slice da dl dc] 65 := by
  obtain ⟨ng, vn, vd, h1, h2⟩ := h
  obtain ⟨na, nc, da, dl, dc, rfl, rfl, _⟩ := h2.parts
  exact ⟨ng, na, _, nc, da, dl, dc, h2, h1⟩
theorem fit_read {n : Nat} (h : (dT n).length ≤ 2000) : digsE (bs (dT n)).data.toList = true ∧ (bs (dT n)).size ≤ 1000000000000 ∧ decV (bs (dT n)).data.toList = n := by
  refine ⟨?_, by rw [bs_size]; omega, ?_⟩
  · rw [bs_list]; exact digs_of (dT_digs n)
  · rw [bs_list]; exact dT_val n
set_option maxRecDepth 100000 in
set_option maxHeartbeats 4000000 in
theorem rin_c (q : Rat) (w : World) (hf : FitQ q) :
    Calls Tryd.prog 32 #[.string (bs (ratT q))] w fun e w' => (∃ v, e = .returned v ∧ QV w' v q) ∧ Below w.heap.size w w' := by
  have hS := ratS_T q
  have e1 : Lib.hasPrefix (ratT q) [45] = decide (q.num < 0) := congrArg RatS.neg hS
  have e2 : (cutL 47 (Lib.trimPrefix (ratT q) [45])).1 = dT q.num.natAbs := congrArg RatS.a hS
  have e3 : (cutL 47 (Lib.trimPrefix (ratT q) [45])).2.1 = if q.den = 1 then [] else dT q.den := congrArg RatS.b hS
  have e4 : (cutL 47 (Lib.trimPrefix (ratT q) [45])).2.2 = decide (q.den ≠ 1) := congrArg RatS.is hS
  have hln : (ratT q).length ≤ 4002 := by
    unfold ratT
    have := hf.1
    have := hf.2
    by_cases ha : q.num < 0 <;> by_cases hb : q.den = 1 <;> simp [ha, hb] <;> omega
  have hlt : (Lib.trimPrefix (ratT q) [45]).length ≤ 4002 := Nat.le_trans (trim_size _ _) hln
  have hcp := fun W => Tryd.strings_CutPrefix (bs (ratT q)) ⟨#[45]⟩ W
  rw [bs_list, show ((⟨#[45]⟩ : ByteArray).data.toList) = [45] from rfl, e1] at hcp
  have hcu := fun W => cut_c (bs (Lib.trimPrefix (ratT q) [45])) 47 W (by rw [bs_size]; omega)
  rw [bs_list, e2, e3, e4] at hcu
  obtain ⟨r1, r2, r3⟩ := fit_read hf.1
  obtain ⟨d1, d2, d3⟩ := fit_read hf.2
  have hr := fun W => read_c (bs (dT q.num.natAbs)) W r2 r1
  have hr2 := fun W => read_c (bs (dT q.den)) W d2 d1
  rw [r3] at hr
  rw [d3] at hr2
  have HQC : Hid (∀ W vn vd, NV W vn q.num.natAbs → NV W vd q.den → QC W (decide (q.num < 0)) vn vd q) := fun W vn vd h1 h2 => ⟨rfl, h1, Or.inl h2⟩
  have HOF := Lib.hid (fun W => nof_c 1 W (by omega))
  obtain ⟨S, hSe⟩ : ∃ S, bs (ratT q) = S := ⟨_, rfl⟩
  obtain ⟨T, hTe⟩ : ∃ S, bs (Lib.trimPrefix (ratT q) [45]) = S := ⟨_, rfl⟩
  obtain ⟨A, hAe⟩ : ∃ S, bs (dT q.num.natAbs) = S := ⟨_, rfl⟩
  have HCP : Hid (∀ W, Calls Tryd.prog 57 #[.string S, .string ⟨#[45]⟩] W fun e w' => e = .returned (.tuple #[.string T, .bool (decide (q.num < 0))]) ∧ w' = W) := by
    rw [← hSe, ← hTe]; exact hcp
  rw [hTe, hAe] at hcu
  rw [hAe] at hr
  have HR := Lib.hid hr
  have B1 := Lib.hid (belowA (Below.refl w.heap.size w) (.cells #[.bool false, .slice none 0 0, .slice none 0 0] 65))
  have K1 := Lib.hid (Blk.new w #[.bool false, .slice none 0 0, .slice none 0 0] 65)
  rw [hSe]
  by_cases hd : q.den = 1
  · have HCU : Hid (∀ W, Calls Tryd.prog 58 #[.string T, .string ⟨#[47]⟩] W fun e w' => e = .returned (.tuple #[.string A, .string ⟨#[]⟩, .bool false]) ∧ Below W.heap.size W w') := fun W => by
      have := hcu W
      simpa [hd] using this
    have HD := Lib.hid hd
    generalize decide (q.num < 0) = ng at *
    clear hS e1 e2 e3 e4 hln hlt hcp hcu r1 r2 r3 d1 d2 d3 hr hr2 hSe hTe hAe hd hf
    go_enter Tryd.func32, Tryd.ntmps32
    go_wp2_with fail
    generalize w.alloc (.cells #[.bool false, .slice none 0 0, .slice none 0 0] 65) = w1 at *
    refine (HCP.out _).mono ?_; rintro e w2 ⟨rfl, rfl⟩
    clear HCP
    go_wp2_with fail
    refine (HCU.out _).mono ?_; rintro e w2 ⟨rfl, hb⟩
    have B2 := Lib.hid hb
    have HR2 := Lib.hid (HR.out w2)
    clear hb HCU
    go_wp2_with fail
    refine HR2.out.mono ?_; rintro e w3 ⟨⟨v3, rfl, hv3⟩, hb⟩
    have B3 := Lib.hid (belowT B2.out hb)
    have V3 := Lib.hid hv3.nv
    have HO3 := Lib.hid (HOF.out w3)
    clear hb HR2 hv3 HOF HR
    go_wp2_with fail
    refine HO3.out.mono ?_; rintro e w4 ⟨⟨v4, rfl, hv4⟩, hb⟩
    have B4 := Lib.hid (belowT B3.out hb)
    have V4 := Lib.hid hv4.nv
    have N4 := Lib.hid (V3.out.below hb)
    clear hb HO3 hv4 V3
    obtain ⟨na, nc, rfl⟩ := N4.out.slice
    obtain ⟨oa, oc, rfl⟩ := V4.out.slice
    obtain ⟨n, hn⟩ : ∃ n, ln q.num.natAbs = n := ⟨_, rfl⟩
    obtain ⟨m, hm⟩ : ∃ n, ln 1 = n := ⟨_, rfl⟩
    rw [hn] at N4 ⊢
    rw [hm] at V4 ⊢
    clear hn hm
    have k4 := below_blk B4.out K1.out K1.out.lt
    have K4 := Lib.hid k4
    have B5 := Lib.hid (belowT B1.out B4.out)
    have Q4 : Hid (QC w4 ng (.slice na n nc) (.slice oa m oc) q) := HQC.out w4 _ _ N4.out (by rw [HD.out]; exact V4.out)
    have hl4 := k4.lt
    have y0 := k4.cell 0 rfl
    have y1 := k4.cell 1 rfl
    have y2 := k4.cell 2 rfl
    have f0 := k4.free 0
    have f1 := k4.free 1
    have f2 := k4.free 2
    clear k4
    go_wp2_with fail
    (try simp only [Exit.inBlock, Exit.then])
    refine bodyPost_ret (v := .agg #[.bool ng, .slice na n nc, .slice oa m oc]) ?_ rfl ⟨⟨_, rfl, _, _, _, rfl, ?_⟩, ?_⟩
    · rw [results_cell rfl]
      go_simp
    · exact (Q4.out.keepT K4.out (by decide) (but_set3 _ _ _ _ _)).below (belowA (Below.refl _ _) _)
    · exact belowA (((B5.out.setCell (p := ⟨w.heap.size, 0, none⟩) (Nat.le_refl _) _).setCell (p := ⟨w.heap.size, 1, none⟩) (Nat.le_refl _) _).setCell (p := ⟨w.heap.size, 2, none⟩) (Nat.le_refl _) _) _
  · have HCU : Hid (∀ W, Calls Tryd.prog 58 #[.string T, .string ⟨#[47]⟩] W fun e w' => e = .returned (.tuple #[.string A, .string (bs (dT q.den)), .bool true]) ∧ Below W.heap.size W w') := fun W => by
      have := hcu W
      simpa [hd] using this
    have HRD := Lib.hid hr2
    generalize bs (dT q.den) = DT at *
    generalize decide (q.num < 0) = ng at *
    clear hS e1 e2 e3 e4 hln hlt hcp hcu r1 r2 r3 d1 d2 d3 hr hr2 hSe hTe hAe hd hf
    go_enter Tryd.func32, Tryd.ntmps32
    go_wp2_with fail
    generalize w.alloc (.cells #[.bool false, .slice none 0 0, .slice none 0 0] 65) = w1 at *
    refine (HCP.out _).mono ?_; rintro e w2 ⟨rfl, rfl⟩
    clear HCP
    go_wp2_with fail
    refine (HCU.out _).mono ?_; rintro e w2 ⟨rfl, hb⟩
    have B2 := Lib.hid hb
    have HR2 := Lib.hid (HR.out w2)
    clear hb HCU
    go_wp2_with fail
    refine HR2.out.mono ?_; rintro e w3 ⟨⟨v3, rfl, hv3⟩, hb⟩
    have B3 := Lib.hid (belowT B2.out hb)
    have V3 := Lib.hid hv3.nv
    have HO3 := Lib.hid (HOF.out w3)
    clear hb HR2 hv3 HOF HR
    go_wp2_with fail
    refine HO3.out.mono ?_; rintro e w4 ⟨⟨v4, rfl, hv4⟩, hb⟩
    have B4 := Lib.hid (belowT B3.out hb)
    have V4 := Lib.hid hv4.nv
    have N4 := Lib.hid (V3.out.below hb)
    clear hb HO3 hv4 V3
    obtain ⟨na, nc, rfl⟩ := N4.out.slice
    obtain ⟨oa, oc, rfl⟩ := V4.out.slice
    obtain ⟨n, hn⟩ : ∃ n, ln q.num.natAbs = n := ⟨_, rfl⟩
    obtain ⟨m, hm⟩ : ∃ n, ln 1 = n := ⟨_, rfl⟩
    rw [hn] at N4 ⊢
    rw [hm] at V4 ⊢
    clear hn hm
    have k4 := below_blk B4.out K1.out K1.out.lt
    have K5 := Lib.hid (k4.alloc (.cells #[.bool ng, .slice na n nc, .slice oa m oc] 65))
    have KN := Lib.hid (Blk.new w4 #[.bool ng, .slice na n nc, .slice oa m oc] 65)
    have B5 := Lib.hid ((belowT B1.out B4.out).alloc (belowT B1.out B4.out).size (.cells #[.bool ng, .slice na n nc, .slice oa m oc] 65))
    have N5 := Lib.hid (N4.out.below (belowA (Below.refl _ _) (.cells #[.bool ng, .slice na n nc, .slice oa m oc] 65)))
    have hl4 := k4.lt
    clear k4
    go_upto_region 5 with fail
    generalize w4.alloc (.cells #[.bool ng, .slice na n nc, .slice oa m oc] 65) = w5 at *
    generalize w4.heap.size = b5 at *
    go_wp2_with fail
    refine (HRD.out w5).mono ?_; rintro e w6 ⟨⟨v6, rfl, hv6⟩, hb⟩
    obtain ⟨da, dc, rfl⟩ := hv6.nv.slice
    obtain ⟨dl, hdl⟩ : ∃ n, ln q.den = n := ⟨_, rfl⟩
    have B6 := Lib.hid (belowT B5.out hb)
    have N6 := Lib.hid (N5.out.below hb)
    have V6 := Lib.hid hv6.nv
    rw [hdl] at V6 ⊢
    have k6 := below_blk hb K5.out K5.out.lt
    have K6 := Lib.hid k6
    have kn := below_blk hb KN.out KN.out.lt
    have KN6 := Lib.hid kn
    have hl6 := k6.lt
    have hn6 := kn.lt
    have y0 := k6.cell 0 rfl
    have y1 := k6.cell 1 rfl
    have y2 := k6.cell 2 rfl
    have f0 := k6.free 0
    have f1 := k6.free 1
    have f2 := k6.free 2
    have u0 := kn.cell 0 rfl
    have u1 := kn.cell 1 rfl
    have u2 := kn.cell 2 rfl
    have g2 := kn.free 2
    have Q6 : Hid (QC w6 ng (.slice na n nc) (.slice da dl dc) q) := HQC.out w6 _ _ N6.out V6.out
    have hne : w.heap.size ≠ b5 := by omega
    have Q7 : Hid (QC (w6.setCell ⟨b5, 2, none⟩ (.slice da dl dc)) ng (.slice na n nc) (.slice da dl dc) q) := Q6.out.keepT KN6.out (by decide) ((But.refl _ _).set 2 _)
    have K7 := Lib.hid (K6.out.setOther ⟨b5, 2, none⟩ hne (.slice da dl dc))
    have B7 := Lib.hid (B6.out.setCell (p := ⟨b5, 2, none⟩) (by show w.heap.size ≤ b5; omega) (.slice da dl dc))
    clear hb hv6 k6 kn hdl
    go_wp2_with fail
    (try simp only [Exit.inBlock, Exit.then])
    refine bodyPost_ret (v := .agg #[.bool ng, .slice na n nc, .slice da dl dc]) ?_ rfl ⟨⟨_, rfl, _, _, _, rfl, ?_⟩, ?_⟩
    · rw [results_cell rfl]
      go_simp
    · exact Q7.out.keepT K7.out (by decide) (but_set3 _ _ _ _ _)
    · exact ((B7.out.setCell (Nat.le_refl _) _).setCell (Nat.le_refl _) _).setCell (Nat.le_refl _) _
end Go.Proofs.YtkpalfgnfhphjaaDoor
