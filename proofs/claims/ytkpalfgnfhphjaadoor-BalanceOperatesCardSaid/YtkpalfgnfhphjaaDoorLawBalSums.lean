/- The law BalanceSums walked. -/
import Derived.Test.YtkpalfgnfhphjaaDoorBal11
namespace Go.Proofs.YtkpalfgnfhphjaaDoor
open Go.RowKit

theorem fit2 : FitQ 2 := fit_int 2 (by decide) (by decide)
theorem empty_eq : (⟨#[]⟩ : ByteArray).toList.isEmpty = true := by decide +kernel
set_option maxRecDepth 100000 in
set_option maxHeartbeats 4000000 in
theorem lawBalSums_c (v : Value) (l0 : List ByteArray) (w : World) (hv : SVal w v l0) :
    Calls Tryd.prog 5 #[v] w fun e w' => e = .returned (.bool true) ∧ Below w.heap.size w w' := by
  have hpl : l0.length ≤ 9223372036854775807 := by
    rcases (show Reads w v l0.length (l0.map Value.string) from hv) with ⟨h, _⟩ | ⟨_, _, _, _, _, h, _⟩ <;> omega
  obtain ⟨a, c, rfl⟩ := (show Reads w v l0.length (l0.map Value.string) from hv).slice
  obtain ⟨n, hn⟩ : ∃ n, l0.length = n := ⟨_, rfl⟩
  obtain ⟨m, hm⟩ : ∃ m, min n 8 = m := ⟨_, rfl⟩
  have hmn : min (n : Int) 8 = (m : Int) := by omega
  have hm8 : m ≤ 8 := by omega
  have hmle : m ≤ n := by omega
  have hvt : Reads w (.slice a m c) m ((l0.take m).map Value.string) := SVal.take (by
    have h : Reads w (.slice a l0.length c) l0.length (l0.map Value.string) := hv
    rw [hn] at h; exact h) hn hmle
  obtain ⟨l, hl⟩ : ∃ l, l0.take m = l := ⟨_, rfl⟩
  have hlm : l.length = m := by rw [← hl, List.length_take]; omega
  rw [hl] at hvt
  have hmc : m ≤ c := by
    rcases hvt with ⟨h, _⟩ | ⟨_, _, _, h1, h2, _⟩
    · omega
    · simp only [Value.slice.injEq] at h1
      obtain ⟨_, _, rfl⟩ := h1
      exact h2
  have HV : Hid (SVal w (.slice a m c) l) := by
    show Reads _ _ _ _
    rw [hlm]; exact hvt
  rw [hn] at hpl ⊢
  clear hv hn hm hvt hl
  have HW := Lib.hid (works_c w)
  have HSM := Lib.hid (fun W b c1 (hW : Below w.heap.size w W) (h : Blk W b #[.slice a m c] 23) => small_c (.slice a m c) l b c1 W (HV.out.below hW) h)
  cases hs : smallB l with
  | false =>
    rw [hs] at HSM
    clear hs
    go_enter Tryd.func5, Tryd.ntmps5
    go_wp2_with (first | rw [hmn])
    refine HW.out.mono ?_; rintro e w2 ⟨rfl, hb⟩
    have B2 := Lib.hid (belowA hb (.cells #[.slice a m c] 23))
    have HS2 := Lib.hid (HSM.out (w2.alloc (.cells #[.slice a m c] 23)) w2.heap.size 1 B2.out (Blk.new w2 _ _))
    clear hb HW HSM
    go_wp2_with fail
    refine HS2.out.mono ?_; rintro e w3 ⟨rfl, hb⟩
    have B3 := Lib.hid (belowT B2.out hb)
    clear hb HS2 B2
    go_wp2_with fail
    go_ret
    exact ⟨rfl, B3.out⟩
  | true =>
    rw [hs] at HSM
    have hsz : Hid (∀ s ∈ l, s.size ≤ 9223372036854775806) := fun s h => by
      unfold smallB at hs
      rw [List.all_eq_true] at hs
      have := of_decide_eq_true (hs s h)
      omega
    by_cases hc : checkB l = 0
    · have ha : allE l = 0 := by
        unfold checkB at hc
        rw [if_neg (by omega)] at hc
        exact hc
      obtain ⟨qs, rfl, hf⟩ := allE_ok ha
      have hql : qs.length = m := by simpa [txts] using hlm
      obtain ⟨f1, f2, f3, f4⟩ := small_fits hs (by omega)
      have f0 : FitQ (sumQ qs) := by have := f1 qs.length (Nat.le_refl _); rwa [List.take_of_length_le (Nat.le_refl _)] at this
      have HBS := Lib.hid (fun W (hW : Below w.heap.size w W) => bsum_ok (.slice a m c) qs W (HV.out.below hW) hf (by omega) f0 f2)
      have HRS := Lib.hid (fun W (hW : Below w.heap.size w W) => ratSum_c (.slice a m c) qs W (HV.out.below hW) hf (by omega) f1)
      have HDT := Lib.hid (fun W (hW : Below w.heap.size w W) => dot_c (.slice a m c) qs W (HV.out.below hW) hf (by omega) f4)
      have HSI := Lib.hid (fun W => size_c (sumQ qs) W f0)
      have htm := fun W => times_c (sumA qs / 2) 2 W f2 fit2
      rw [show toldE (sumA qs / 2 * 2) = (bs (ratT (sumA qs / 2 * 2)), 0) from if_pos (by rw [half_twice]; exact f3), tx2] at htm
      have HTM : Hid (∀ W, Calls Tryd.prog 17 #[.string (bs (ratT (sumA qs / 2))), .string ⟨#[50]⟩] W fun e w' => e = .returned (.string (bs (ratT (sumA qs / 2 * 2)))) ∧ Below W.heap.size W w') := htm
      have HCM := Lib.hid (fun W => rcmp2_c (absQ (sumQ qs)) (sumA qs / 2 * 2) W f0.abs (by rw [half_twice]; exact f3))
      have hcm := law_cmp qs
      have hz := half_zero qs
      have z1 : ((bs (ratT (sumS qs))).toList == [48]) = decide (sumS qs = 0) := by
        rw [tl48, show (⟨#[48]⟩ : ByteArray) = bs [48] from rfl]
        rw [decide_eq_decide]
        exact ⟨fun h => ratT_zero.1 (bs_inj h), fun h => by rw [ratT_zero.2 h]⟩
      have z2 : ((bs (ratT (sumA qs / 2))).toList == [48]) = decide (sumS qs = 0) := by
        rw [tl48, show (⟨#[48]⟩ : ByteArray) = bs [48] from rfl]
        rw [decide_eq_decide, ← hz]
        exact ⟨fun h => ratT_zero.1 (bs_inj h), fun h => by rw [ratT_zero.2 h]⟩
      have q1 : decide (cmpR (absQ (sumQ qs)) (sumA qs / 2 * 2) ≤ 0) = true := decide_eq_true hcm
      generalize cmpR (absQ (sumQ qs)) (sumA qs / 2 * 2) = R at *
      generalize bs (ratT (absQ (sumQ qs))) = TA at *
      generalize bs (ratT (sumA qs / 2 * 2)) = TB at *
      generalize bs (ratT (sumS qs)) = TD at *
      generalize bs (ratT (sumA qs / 2)) = TH at *
      generalize bs (ratT (sumQ qs)) = TS at *
      generalize decide (sumS qs = 0) = Z at *
      have q2 : (TS.toList == TS.toList) = true := (Lib.bytes_beq_iff TS TS).2 rfl
      clear hs hc ha hf f0 f1 f2 f3 f4 hz hcm htm hsz
      go_enter Tryd.func5, Tryd.ntmps5
      go_wp2_with (first | rw [hmn])
      refine HW.out.mono ?_; rintro e w2 ⟨rfl, hb⟩
      have B2 := Lib.hid (belowA hb (.cells #[.slice a m c] 23))
      have HS2 := Lib.hid (HSM.out (w2.alloc (.cells #[.slice a m c] 23)) w2.heap.size 1 B2.out (Blk.new w2 _ _))
      clear hb HW HSM
      go_wp2_with fail
      refine HS2.out.mono ?_; rintro e w3 ⟨rfl, hb⟩
      have B3 := Lib.hid (belowT B2.out hb)
      clear hb HS2 B2
      go_wp2_with fail
      refine (HBS.out w3 B3.out).mono ?_; rintro e w4 ⟨rfl, hb⟩
      have B4 := Lib.hid (belowT B3.out hb)
      clear hb HBS B3
      go_wp2_with fail
      refine (HRS.out w4 B4.out).mono ?_; rintro e w5 ⟨rfl, hb⟩
      have B5 := Lib.hid (belowT B4.out hb)
      clear hb HRS B4
      go_wp2_with fail
      refine (HDT.out w5 B5.out).mono ?_; rintro e w6 ⟨rfl, hb⟩
      have B6 := Lib.hid (belowT B5.out hb)
      clear hb HDT B5
      go_wp2_with fail
      refine (HSI.out w6).mono ?_; rintro e w7 ⟨rfl, hb⟩
      have B7 := Lib.hid (belowT B6.out hb)
      clear hb HSI B6
      go_wp2_with fail
      refine (HTM.out w7).mono ?_; rintro e w8 ⟨rfl, hb⟩
      have B8 := Lib.hid (belowT B7.out hb)
      clear hb HTM B7
      go_wp2_with fail
      refine (HCM.out w8).mono ?_; rintro e w9 ⟨rfl, hb⟩
      have B9 := Lib.hid (belowT B8.out hb)
      clear hb HCM B8
      go_wp2_with fail
      go_ret
      exact ⟨by simp, B9.out⟩
    · have HBS := Lib.hid (fun W (hW : Below w.heap.size w W) => bsum_bad (.slice a m c) l W (HV.out.below hW) hsz hc)
      obtain ⟨C, hC⟩ : ∃ x, checkB l = x := ⟨_, rfl⟩
      rw [hC] at HBS hc
      have g1 : (C != 0) = true := by simpa using hc
      have g2 := empty_eq
      clear hs hc hC hsz
      go_enter Tryd.func5, Tryd.ntmps5
      go_wp2_with (first | rw [hmn])
      refine HW.out.mono ?_; rintro e w2 ⟨rfl, hb⟩
      have B2 := Lib.hid (belowA hb (.cells #[.slice a m c] 23))
      have HS2 := Lib.hid (HSM.out (w2.alloc (.cells #[.slice a m c] 23)) w2.heap.size 1 B2.out (Blk.new w2 _ _))
      clear hb HW HSM
      go_wp2_with fail
      refine HS2.out.mono ?_; rintro e w3 ⟨rfl, hb⟩
      have B3 := Lib.hid (belowT B2.out hb)
      clear hb HS2 B2
      go_wp2_with fail
      refine (HBS.out w3 B3.out).mono ?_; rintro e w4 ⟨rfl, hb⟩
      have B4 := Lib.hid (belowT B3.out hb)
      clear hb HBS B3
      go_wp2_with fail
      go_ret
      exact ⟨by simp, B4.out⟩
end Go.Proofs.YtkpalfgnfhphjaaDoor
