/- rat: Add, Sub, Mul, Compare at texts; the laws' helpers over them. -/
import Derived.Test.YtkpalfgnfhphjaaDoorRat7
namespace Go.Proofs.YtkpalfgnfhphjaaDoor
open Go.RowKit

theorem ln_dT (n : Nat) : ln n ≤ (dT n).length := by
  apply ln_le
  rw [pw_ten]
  have h1 := lt_dT n
  have h2 : 10 ^ (dT n).length ≤ 10 ^ (9 * (dT n).length) := Nat.pow_le_pow_right (by omega) (by omega)
  exact Int.ofNat_lt.2 (Nat.lt_of_lt_of_le h1 h2)
theorem FitQ.sz {q : Rat} (h : FitQ q) : sz q ≤ 2000 := by
  have h1 := ln_dT q.num.natAbs
  have h2 := ln_dT q.den
  have := h.1
  have := h.2
  unfold Go.Proofs.YtkpalfgnfhphjaaDoor.sz
  omega
theorem svals {w : World} {b : Nat} {T : TypeId} {l : List ByteArray} (h : Blk w b (l.map Value.string).toArray T) (hn : l.length ≤ 9223372036854775807) : SVal w (.slice (some ⟨b, 0, none⟩) l.length l.length) l :=
  Or.inr ⟨b, 0, l.length, rfl, Nat.le_refl _, hn, h.lt, fun j u hj => by rw [Nat.zero_add]; exact h.cell j (by rw [List.getElem?_toArray]; exact hj)⟩
theorem rtxt_size {q : Rat} (h : FitQ q) : (bs (ratT q)).size ≤ 4002 := by
  rw [bs_size]
  unfold ratT
  have := h.1
  have := h.2
  by_cases ha : q.num < 0 <;> by_cases hb : q.den = 1 <;> simp [ha, hb] <;> omega
/-- What CheckAll answers at two texts. -/
theorem two_ok {p q : Rat} (hp : FitQ p) (hq : FitQ q) (w : World) : Calls Tryd.prog 31 #[.slice (some ⟨w.heap.size, 0, none⟩) 2 2] (w.alloc (.cells #[.string (bs (ratT p)), .string (bs (ratT q))] 37)) fun e w' => e = .returned (.int .i64 0) ∧ Below (w.alloc (.cells #[.string (bs (ratT p)), .string (bs (ratT q))] 37)).heap.size (w.alloc (.cells #[.string (bs (ratT p)), .string (bs (ratT q))] 37)) w' := by
  have h := checkAll_c (.slice (some ⟨w.heap.size, 0, none⟩) 2 2) (txts [p, q]) (w.alloc (.cells #[.string (bs (ratT p)), .string (bs (ratT q))] 37)) (svals (l := txts [p, q]) (Blk.new w _ _) (by simp)) (fun s hs => by
    simp only [txts, List.map_cons, List.map_nil, List.mem_cons, List.mem_nil_iff, or_false] at hs
    have h1 := rtxt_size hp
    have h2 := rtxt_size hq
    rcases hs with rfl | rfl <;> omega)
  rw [allE_of (fun x hx => by
    simp only [List.mem_cons, List.mem_nil_iff, or_false] at hx
    rcases hx with rfl | rfl
    · exact hp
    · exact hq)] at h
  exact h
set_option maxHeartbeats 2000000 in
theorem two_c (g : FuncId) (op : Rat → Rat → Rat) (p q : Rat) (w : World) (hp : FitQ p) (hq : FitQ q) (hsz : sz (op p q) ≤ 1000000000000)
    (eg : ∀ (args : Array Value) (w : World), (callFunc g args).run Tryd.prog w = .ok (.enter g args) w)
    (hg : Hid (∀ np nq vp dp vq dq W, QC W np vp dp p → QC W nq vq dq q → Calls Tryd.prog g #[.agg #[.bool np, vp, dp], .agg #[.bool nq, vq, dq]] W fun e w' => (∃ v, e = .returned v ∧ QV w' v (op p q)) ∧ Below W.heap.size W w')) :
    Calls Tryd.prog 61 #[.string (bs (ratT p)), .string (bs (ratT q)), .func (.func g) #[] #[]] w fun e w' => e = .returned (.tuple #[.string (toldE (op p q)).1, .int .i64 (toldE (op p q)).2]) ∧ Below w.heap.size w w' := by
  have HCA := Lib.hid (two_ok hp hq w)
  have HI1 := Lib.hid (fun W => rin_c p W hp)
  have HI2 := Lib.hid (fun W => rin_c q W hq)
  have HT := Lib.hid (fun ng vn vd W (h : QC W ng vn vd (op p q)) => told_c ng vn vd (op p q) W h hsz)
  have B1 := Lib.hid (belowA (Below.refl w.heap.size w) (.cells #[.string (bs (ratT p)), .string (bs (ratT q))] 37))
  obtain ⟨⟨R1, R2⟩, hR⟩ : ∃ r, toldE (op p q) = r := ⟨_, rfl⟩
  rw [hR] at HT ⊢
  generalize op p q = R at *
  generalize bs (ratT p) = S at *
  generalize bs (ratT q) = T at *
  clear hR hp hq hsz
  go_enter Tryd.func61, Tryd.ntmps61
  go_wp2_with fail
  refine HCA.out.mono ?_; rintro e w2 ⟨rfl, hb⟩
  have B2 := Lib.hid (belowT B1.out hb)
  clear hb HCA
  go_wp2_with fail
  refine (HI1.out _).mono ?_; rintro e w3 ⟨⟨v3, rfl, g3, n3, d3, rfl, h3⟩, hb⟩
  have B3 := Lib.hid (belowT B2.out hb)
  have H3 := Lib.hid h3
  clear hb HI1 h3
  go_wp2_with fail
  refine (HI2.out _).mono ?_; rintro e w4 ⟨⟨v4, rfl, g4, n4, d4, rfl, h4⟩, hb⟩
  have B4 := Lib.hid (belowT B3.out hb)
  have HG4 := Lib.hid (hg.out _ _ _ _ _ _ w4 (H3.out.below hb) h4)
  clear hb HI2 h4 hg H3
  go_wp2_with (rw [eg])
  refine HG4.out.mono ?_; rintro e w5 ⟨⟨v5, rfl, g5, n5, d5, rfl, h5⟩, hb⟩
  have B5 := Lib.hid (belowT B4.out hb)
  have HT5 := Lib.hid (HT.out _ _ _ w5 h5)
  clear hb h5 HG4 HT
  go_wp2_with fail
  refine HT5.out.mono ?_; rintro e w6 ⟨rfl, hb⟩
  have B6 := Lib.hid (belowT B5.out hb)
  clear hb
  go_wp2_with fail
  go_ret2
  exact ⟨rfl, B6.out⟩
set_option maxHeartbeats 1000000 in
theorem ratAdd_c (p q : Rat) (w : World) (hp : FitQ p) (hq : FitQ q) :
    Calls Tryd.prog 36 #[.string (bs (ratT p)), .string (bs (ratT q))] w fun e w' => e = .returned (.tuple #[.string (toldE (p + q)).1, .int .i64 (toldE (p + q)).2]) ∧ Below w.heap.size w w' := by
  have s1 := hp.sz
  have s2 := hq.sz
  have HT := Lib.hid (two_c 24 (fun x y => x + y) p q w hp hq (by have := sz_add p q; show sz (p + q) ≤ _; omega) (enters_of Tryd.func24 (by kernel_rfl) rfl) (fun np nq vp dp vq dq W h1 h2 => radd_c np nq vp dp vq dq p q W h1 h2 (by omega) (by omega)))
  obtain ⟨⟨R1, R2⟩, hR⟩ : ∃ r, toldE (p + q) = r := ⟨_, rfl⟩
  simp only [hR] at HT ⊢
  generalize bs (ratT p) = S at *
  generalize bs (ratT q) = T at *
  clear hR hp hq s1 s2
  go_enter Tryd.func36, Tryd.ntmps36
  go_wp2_with fail
  refine HT.out.mono ?_; rintro e w2 ⟨rfl, hb⟩
  have B2 := Lib.hid hb
  clear hb
  go_wp2_with fail
  go_ret2
  exact ⟨rfl, B2.out⟩
set_option maxHeartbeats 1000000 in
theorem ratSub_c (p q : Rat) (w : World) (hp : FitQ p) (hq : FitQ q) :
    Calls Tryd.prog 62 #[.string (bs (ratT p)), .string (bs (ratT q))] w fun e w' => e = .returned (.tuple #[.string (toldE (p - q)).1, .int .i64 (toldE (p - q)).2]) ∧ Below w.heap.size w w' := by
  have s1 := hp.sz
  have s2 := hq.sz
  have HT := Lib.hid (two_c 53 (fun x y => x - y) p q w hp hq (by have := sz_sub p q; show sz (p - q) ≤ _; omega) (enters_of Tryd.func53 (by kernel_rfl) rfl) (fun np nq vp dp vq dq W h1 h2 => rsub_c np nq vp dp vq dq p q W h1 h2 (by omega) (by omega)))
  obtain ⟨⟨R1, R2⟩, hR⟩ : ∃ r, toldE (p - q) = r := ⟨_, rfl⟩
  simp only [hR] at HT ⊢
  generalize bs (ratT p) = S at *
  generalize bs (ratT q) = T at *
  clear hR hp hq s1 s2
  go_enter Tryd.func62, Tryd.ntmps62
  go_wp2_with fail
  refine HT.out.mono ?_; rintro e w2 ⟨rfl, hb⟩
  have B2 := Lib.hid hb
  clear hb
  go_wp2_with fail
  go_ret2
  exact ⟨rfl, B2.out⟩
set_option maxHeartbeats 1000000 in
theorem ratMul_c (p q : Rat) (w : World) (hp : FitQ p) (hq : FitQ q) :
    Calls Tryd.prog 43 #[.string (bs (ratT p)), .string (bs (ratT q))] w fun e w' => e = .returned (.tuple #[.string (toldE (p * q)).1, .int .i64 (toldE (p * q)).2]) ∧ Below w.heap.size w w' := by
  have s1 := hp.sz
  have s2 := hq.sz
  have HT := Lib.hid (two_c 25 (fun x y => x * y) p q w hp hq (by have := sz_mul p q; show sz (p * q) ≤ _; omega) (enters_of Tryd.func25 (by kernel_rfl) rfl) (fun np nq vp dp vq dq W h1 h2 => rmul_c np nq vp dp vq dq p q W h1 h2 (by omega) (by omega)))
  obtain ⟨⟨R1, R2⟩, hR⟩ : ∃ r, toldE (p * q) = r := ⟨_, rfl⟩
  simp only [hR] at HT ⊢
  generalize bs (ratT p) = S at *
  generalize bs (ratT q) = T at *
  clear hR hp hq s1 s2
  go_enter Tryd.func43, Tryd.ntmps43
  go_wp2_with fail
  refine HT.out.mono ?_; rintro e w2 ⟨rfl, hb⟩
  have B2 := Lib.hid hb
  clear hb
  go_wp2_with fail
  go_ret2
  exact ⟨rfl, B2.out⟩
set_option maxHeartbeats 1000000 in
theorem plus_c (p q : Rat) (w : World) (hp : FitQ p) (hq : FitQ q) :
    Calls Tryd.prog 12 #[.string (bs (ratT p)), .string (bs (ratT q))] w fun e w' => e = .returned (.string (toldE (p + q)).1) ∧ Below w.heap.size w w' := by
  have HT := Lib.hid (ratAdd_c p q w hp hq)
  obtain ⟨⟨R1, R2⟩, hR⟩ : ∃ r, toldE (p + q) = r := ⟨_, rfl⟩
  simp only [hR] at HT ⊢
  generalize bs (ratT p) = S at *
  generalize bs (ratT q) = T at *
  clear hR hp hq
  go_enter Tryd.func12, Tryd.ntmps12
  go_wp2_with fail
  refine HT.out.mono ?_; rintro e w2 ⟨rfl, hb⟩
  have B2 := Lib.hid hb
  clear hb
  go_wp2_with fail
  go_ret
  exact ⟨rfl, B2.out⟩
set_option maxHeartbeats 1000000 in
theorem minus_c (p q : Rat) (w : World) (hp : FitQ p) (hq : FitQ q) :
    Calls Tryd.prog 42 #[.string (bs (ratT p)), .string (bs (ratT q))] w fun e w' => e = .returned (.string (toldE (p - q)).1) ∧ Below w.heap.size w w' := by
  have HT := Lib.hid (ratSub_c p q w hp hq)
  obtain ⟨⟨R1, R2⟩, hR⟩ : ∃ r, toldE (p - q) = r := ⟨_, rfl⟩
  simp only [hR] at HT ⊢
  generalize bs (ratT p) = S at *
  generalize bs (ratT q) = T at *
  clear hR hp hq
  go_enter Tryd.func42, Tryd.ntmps42
  go_wp2_with fail
  refine HT.out.mono ?_; rintro e w2 ⟨rfl, hb⟩
  have B2 := Lib.hid hb
  clear hb
  go_wp2_with fail
  go_ret
  exact ⟨rfl, B2.out⟩
set_option maxHeartbeats 1000000 in
theorem times_c (p q : Rat) (w : World) (hp : FitQ p) (hq : FitQ q) :
    Calls Tryd.prog 17 #[.string (bs (ratT p)), .string (bs (ratT q))] w fun e w' => e = .returned (.string (toldE (p * q)).1) ∧ Below w.heap.size w w' := by
  have HT := Lib.hid (ratMul_c p q w hp hq)
  obtain ⟨⟨R1, R2⟩, hR⟩ : ∃ r, toldE (p * q) = r := ⟨_, rfl⟩
  simp only [hR] at HT ⊢
  generalize bs (ratT p) = S at *
  generalize bs (ratT q) = T at *
  clear hR hp hq
  go_enter Tryd.func17, Tryd.ntmps17
  go_wp2_with fail
  refine HT.out.mono ?_; rintro e w2 ⟨rfl, hb⟩
  have B2 := Lib.hid hb
  clear hb
  go_wp2_with fail
  go_ret
  exact ⟨rfl, B2.out⟩
set_option maxHeartbeats 1000000 in
theorem ratCompare_c (p q : Rat) (w : World) (hp : FitQ p) (hq : FitQ q) :
    Calls Tryd.prog 41 #[.string (bs (ratT p)), .string (bs (ratT q))] w fun e w' => e = .returned (.tuple #[.int .i64 (cmpR p q), .int .i64 0]) ∧ Below w.heap.size w w' := by
  have HCA := Lib.hid (two_ok hp hq w)
  have HI1 := Lib.hid (fun W => rin_c p W hp)
  have HI2 := Lib.hid (fun W => rin_c q W hq)
  have HT := Lib.hid (fun np nq vp dp vq dq W (h1 : QC W np vp dp p) (h2 : QC W nq vq dq q) => rcmp_c np nq vp dp vq dq p q W h1 h2 (by have := hp.sz; omega) (by have := hq.sz; omega))
  have B1 := Lib.hid (belowA (Below.refl w.heap.size w) (.cells #[.string (bs (ratT p)), .string (bs (ratT q))] 37))
  generalize cmpR p q = R at *
  generalize bs (ratT p) = S at *
  generalize bs (ratT q) = T at *
  clear hp hq
  go_enter Tryd.func41, Tryd.ntmps41
  go_wp2_with fail
  refine HCA.out.mono ?_; rintro e w2 ⟨rfl, hb⟩
  have B2 := Lib.hid (belowT B1.out hb)
  clear hb HCA
  go_wp2_with fail
  refine (HI1.out _).mono ?_; rintro e w3 ⟨⟨v3, rfl, g3, n3, d3, rfl, h3⟩, hb⟩
  have B3 := Lib.hid (belowT B2.out hb)
  have H3 := Lib.hid h3
  clear hb HI1 h3
  go_wp2_with fail
  refine (HI2.out _).mono ?_; rintro e w4 ⟨⟨v4, rfl, g4, n4, d4, rfl, h4⟩, hb⟩
  have B4 := Lib.hid (belowT B3.out hb)
  have HG4 := Lib.hid (HT.out _ _ _ _ _ _ w4 (H3.out.below hb) h4)
  clear hb HI2 h4 HT H3
  go_wp2_with fail
  refine HG4.out.mono ?_; rintro e w5 ⟨rfl, hb⟩
  have B5 := Lib.hid (belowT B4.out hb)
  clear hb
  go_wp2_with fail
  go_ret2
  exact ⟨rfl, B5.out⟩
set_option maxHeartbeats 1000000 in
theorem rcmp2_c (p q : Rat) (w : World) (hp : FitQ p) (hq : FitQ q) :
    Calls Tryd.prog 15 #[.string (bs (ratT p)), .string (bs (ratT q))] w fun e w' => e = .returned (.int .i64 (cmpR p q)) ∧ Below w.heap.size w w' := by
  have HT := Lib.hid (ratCompare_c p q w hp hq)
  generalize cmpR p q = R at *
  generalize bs (ratT p) = S at *
  generalize bs (ratT q) = T at *
  clear hp hq
  go_enter Tryd.func15, Tryd.ntmps15
  go_wp2_with fail
  refine HT.out.mono ?_; rintro e w2 ⟨rfl, hb⟩
  have B2 := Lib.hid hb
  clear hb
  go_wp2_with fail
  go_ret
  exact ⟨rfl, B2.out⟩
theorem fit_zero : FitQ 0 := by unfold FitQ; decide +kernel
theorem FitQ.neg {q : Rat} (h : FitQ q) : FitQ (-q) := by
  unfold FitQ at *
  rw [Rat.neg_num, Rat.neg_den, Int.natAbs_neg]; exact h
theorem FitQ.abs {q : Rat} (h : FitQ q) : FitQ (absQ q) := by
  unfold absQ
  split
  · exact h.neg
  · exact h
theorem num_neg_iff {q : Rat} : (q.num < 0) ↔ cmpR q 0 < 0 := by
  unfold cmpR
  rw [Rat.sub_eq_add_neg, Rat.neg_zero, Rat.add_zero]
  unfold signR
  by_cases h0 : q = 0
  · rw [if_pos h0, h0]; decide +kernel
  · rw [if_neg h0]
    by_cases h : q.num < 0 <;> simp [h]
set_option maxHeartbeats 1000000 in
theorem size_c (q : Rat) (w : World) (hq : FitQ q) :
    Calls Tryd.prog 16 #[.string (bs (ratT q))] w fun e w' => e = .returned (.string (bs (ratT (absQ q)))) ∧ Below w.heap.size w w' := by
  have hz : bs (ratT 0) = ⟨#[48]⟩ := by rw [ratT_zero.2 rfl]
  have hc := rcmp2_c q 0 w hq fit_zero
  have HM := fun W => minus_c 0 q W fit_zero hq
  rw [hz] at hc HM
  have HC := Lib.hid hc
  have hni := @num_neg_iff q
  generalize cmpR q 0 = c at *
  by_cases hn : q.num < 0
  · have hab : absQ q = 0 - q := by unfold absQ; rw [if_pos hn, Rat.sub_eq_add_neg, Rat.zero_add]
    have hf : FitQ (0 - q) := by rw [← hab]; exact hq.abs
    have HM2 := Lib.hid HM
    rw [show toldE (0 - q) = (bs (ratT (0 - q)), 0) from if_pos hf] at HM2
    rw [hab]
    have HM3 : Hid (∀ W, Calls Tryd.prog 42 #[.string ⟨#[48]⟩, .string (bs (ratT q))] W fun e w' => e = .returned (.string (bs (ratT (0 - q)))) ∧ Below W.heap.size W w') := HM2.out
    have g1 : decide (c < 0) = true := decide_eq_true (hni.1 hn)
    generalize bs (ratT (0 - q)) = R at *
    generalize bs (ratT q) = S at *
    clear hc HM HM2 hf hab hn hni hz hq
    go_enter Tryd.func16, Tryd.ntmps16
    go_wp2_with fail
    refine HC.out.mono ?_; rintro e w2 ⟨rfl, hb⟩
    have B2 := Lib.hid hb
    clear hb
    go_wp2_with fail
    refine (HM3.out w2).mono ?_; rintro e w3 ⟨rfl, hb⟩
    have B3 := Lib.hid (belowT B2.out hb)
    clear hb
    go_wp2_with fail
    go_ret
    exact ⟨rfl, B3.out⟩
  · have hab : absQ q = q := if_neg hn
    rw [hab]
    have g1 : decide (c < 0) = false := decide_eq_false (fun h => hn (hni.2 h))
    generalize bs (ratT q) = S at *
    clear hc HM hab hn hni hz hq
    go_enter Tryd.func16, Tryd.ntmps16
    go_wp2_with fail
    refine HC.out.mono ?_; rintro e w2 ⟨rfl, hb⟩
    have B2 := Lib.hid hb
    clear hb
    go_wp2_with fail
    go_ret
    exact ⟨rfl, B2.out⟩
end Go.Proofs.YtkpalfgnfhphjaaDoor
