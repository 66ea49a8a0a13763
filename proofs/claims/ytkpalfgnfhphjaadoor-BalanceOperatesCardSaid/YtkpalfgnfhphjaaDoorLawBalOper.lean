/- The law BalanceOperates walked. -/
import Derived.Test.YtkpalfgnfhphjaaDoorLawBalSums
namespace Go.Proofs.YtkpalfgnfhphjaaDoor
open Go.RowKit

/-- The numbers that Operates takes. -/
def RngO (a b : Int) : Prop := 0 ≤ a ∧ a ≤ 1000000 ∧ 0 ≤ b ∧ b ≤ 2000
instance (a b : Int) : Decidable (RngO a b) := inferInstanceAs (Decidable (_ ∧ _))
/-- What Operates answers. -/
def operE (qs : List Rat) (a b : Int) : Bool × Int := if RngO a b then (decide (0 < cmpR (absQ (sumQ qs)) (limQ (sumA qs / 2) a b)), 0) else (false, 4)
theorem oper_c (v : Value) (qs : List Rat) (a b : Int) (w : World) (hv : SVal w v (txts qs)) (hf : ∀ q ∈ qs, FitQ q) (hl : qs.length ≤ 256) (h1 : FitQ (sumQ qs)) (h2 : FitQ (sumA qs / 2)) :
    Calls Tryd.prog 8 #[v, .int .i64 a, .int .i64 b] w fun e w' => e = .returned (.tuple #[.bool (operE qs a b).1, .int .i64 (operE qs a b).2]) ∧ Below w.heap.size w w' := by
  unfold operE
  by_cases hr : RngO a b
  · rw [if_pos hr]
    exact bop_ok v qs a b w hv hf hl h1 h2 hr.1 hr.2.1 hr.2.2.1 hr.2.2.2
  · rw [if_neg hr]
    refine bop_range v (txts qs) a b w hv (fun s hs => by
      obtain ⟨q, hq, rfl⟩ := List.mem_map.1 hs
      have := rtxt_size (hf q hq)
      omega) ?_ hr
    unfold checkB
    rw [show (txts qs).length = qs.length by simp [txts], if_neg (by omega), allE_of hf]
/-- What the law asks of the two answers. -/
theorem oper_law (qs : List Rat) (least slope less flat : Int) :
    ((operE qs least slope).2 = 0 ∨ (operE qs least slope).1 = false) ∧ ((operE qs (min least less) (min slope flat)).2 = 0 ∨ (operE qs (min least less) (min slope flat)).1 = false) ∧
    ((operE qs least slope).2 = 0 → (operE qs (min least less) (min slope flat)).2 = 0 → ((operE qs least slope).1 = true → (operE qs (min least less) (min slope flat)).1 = true) ∧ (sumQ qs = 0 → (operE qs least slope).1 = false ∧ (operE qs (min least less) (min slope flat)).1 = false)) := by
  unfold operE
  by_cases h1 : RngO least slope <;> by_cases h2 : RngO (min least less) (min slope flat)
  · rw [if_pos h1, if_pos h2]
    refine ⟨Or.inl rfl, Or.inl rfl, fun _ _ => ⟨fun h => law_less (Int.min_le_left _ _) (Int.min_le_left _ _) h, fun h => ⟨law_none h h1.1 h1.2.2.1, law_none h h2.1 h2.2.2.1⟩⟩⟩
  · rw [if_pos h1, if_neg h2]
    exact ⟨Or.inl rfl, Or.inr rfl, fun _ h => absurd h (by decide)⟩
  · rw [if_neg h1, if_pos h2]
    exact ⟨Or.inr rfl, Or.inl rfl, fun h => absurd h (by decide)⟩
  · rw [if_neg h1, if_neg h2]
    exact ⟨Or.inr rfl, Or.inr rfl, fun h => absurd h (by decide)⟩
set_option maxRecDepth 100000 in
set_option maxHeartbeats 4000000 in
theorem lawBalOper_c (v : Value) (l0 : List ByteArray) (least slope less flat : Int) (w : World) (hv : SVal w v l0) :
    Calls Tryd.prog 3 #[v, .int .i64 least, .int .i64 slope, .int .i64 less, .int .i64 flat] w fun e w' => e = .returned (.bool true) ∧ Below w.heap.size w w' := by
  have hpl : l0.length ≤ 9223372036854775807 := by
    rcases (show Reads w v l0.length (l0.map Value.string) from hv) with ⟨h, _⟩ | ⟨_, _, _, _, _, h, _⟩ <;> omega
  obtain ⟨a, c, rfl⟩ := (show Reads w v l0.length (l0.map Value.string) from hv).slice
  obtain ⟨n, hn⟩ : ∃ n, l0.length = n := ⟨_, rfl⟩
  obtain ⟨m, hm⟩ : ∃ m, min n 8 = m := ⟨_, rfl⟩
  have hmn : min (n : Int) 8 = (m : Int) := by omega
  have hm8 : m ≤ 8 := by omega
  have hmle : m ≤ n := by omega
  have hvt : Reads w (.slice a m c) m ((l0.take m).map Value.string) := SVal.take (by
    have h : Reads w (.slice a l0.length c) l0.length (l0.map Value.string) := hv
    rw [hn] at h; exact h) hn hmle
  obtain ⟨l, hl⟩ : ∃ l, l0.take m = l := ⟨_, rfl⟩
  have hlm : l.length = m := by rw [← hl, List.length_take]; omega
  rw [hl] at hvt
  have hmc : m ≤ c := by
    rcases hvt with ⟨h, _⟩ | ⟨_, _, _, h1, h2, _⟩
    · omega
    · simp only [Value.slice.injEq] at h1
      obtain ⟨_, _, rfl⟩ := h1
      exact h2
  have HV : Hid (SVal w (.slice a m c) l) := by
    show Reads _ _ _ _
    rw [hlm]; exact hvt
  rw [hn] at hpl ⊢
  clear hv hn hm hvt hl
  have HW := Lib.hid (works_c w)
  have HSM := Lib.hid (fun W b c1 (hW : Below w.heap.size w W) (h : Blk W b #[.slice a m c] 23) => small_c (.slice a m c) l b c1 W (HV.out.below hW) h)
  cases hs : smallB l with
  | false =>
    rw [hs] at HSM
    clear hs
    go_enter Tryd.func3, Tryd.ntmps3
    go_wp2_with (first | rw [hmn])
    refine HW.out.mono ?_; rintro e w2 ⟨rfl, hb⟩
    have B2 := Lib.hid (belowA hb (.cells #[.slice a m c] 23))
    have HS2 := Lib.hid (HSM.out (w2.alloc (.cells #[.slice a m c] 23)) w2.heap.size 1 B2.out (Blk.new w2 _ _))
    clear hb HW HSM
    go_wp2_with fail
    refine HS2.out.mono ?_; rintro e w3 ⟨rfl, hb⟩
    have B3 := Lib.hid (belowT B2.out hb)
    clear hb HS2 B2
    go_wp2_with fail
    go_ret
    exact ⟨rfl, B3.out⟩
  | true =>
    rw [hs] at HSM
    have hsz : Hid (∀ s ∈ l, s.size ≤ 9223372036854775806) := fun s h => by
      unfold smallB at hs
      rw [List.all_eq_true] at hs
      have := of_decide_eq_true (hs s h)
      omega
    obtain ⟨x1, hx1⟩ : ∃ x, min least less = x := ⟨_, rfl⟩
    obtain ⟨x2, hx2⟩ : ∃ x, min slope flat = x := ⟨_, rfl⟩
    by_cases hc : checkB l = 0
    · have ha : allE l = 0 := by
        unfold checkB at hc
        rw [if_neg (by omega)] at hc
        exact hc
      obtain ⟨qs, rfl, hf⟩ := allE_ok ha
      have hql : qs.length = m := by simpa [txts] using hlm
      obtain ⟨f1, f2, f3, f4⟩ := small_fits hs (by omega)
      have f0 : FitQ (sumQ qs) := by have := f1 qs.length (Nat.le_refl _); rwa [List.take_of_length_le (Nat.le_refl _)] at this
      have HBS := Lib.hid (fun W (hW : Below w.heap.size w W) => bsum_ok (.slice a m c) qs W (HV.out.below hW) hf (by omega) f0 f2)
      have HO1 := Lib.hid (fun W (hW : Below w.heap.size w W) => oper_c (.slice a m c) qs least slope W (HV.out.below hW) hf (by omega) f0 f2)
      have HO2 := Lib.hid (fun W (hW : Below w.heap.size w W) => oper_c (.slice a m c) qs x1 x2 W (HV.out.below hW) hf (by omega) f0 f2)
      obtain ⟨k1, k2, k3⟩ := oper_law qs least slope less flat
      rw [hx1, hx2] at k2 k3
      have z1 : ((bs (ratT (sumQ qs))).toList == [48]) = decide (sumQ qs = 0) := by
        rw [tl48, show (⟨#[48]⟩ : ByteArray) = bs [48] from rfl]
        rw [decide_eq_decide]
        exact ⟨fun h => ratT_zero.1 (bs_inj h), fun h => by rw [ratT_zero.2 h]⟩
      obtain ⟨⟨A, E⟩, hA⟩ : ∃ p, operE qs least slope = p := ⟨_, rfl⟩
      obtain ⟨⟨B, F⟩, hB⟩ : ∃ p, operE qs x1 x2 = p := ⟨_, rfl⟩
      rw [hA] at HO1 k1 k3
      rw [hB] at HO2 k2 k3
      simp only at k1 k2 k3
      have HO1 : Hid (∀ W, Below w.heap.size w W → Calls Tryd.prog 8 #[.slice a m c, .int .i64 least, .int .i64 slope] W fun e w' => e = .returned (.tuple #[.bool A, .int .i64 E]) ∧ Below W.heap.size W w') := HO1.out
      have HO2 : Hid (∀ W, Below w.heap.size w W → Calls Tryd.prog 8 #[.slice a m c, .int .i64 x1, .int .i64 x2] W fun e w' => e = .returned (.tuple #[.bool B, .int .i64 F]) ∧ Below W.heap.size W w') := HO2.out
      generalize bs (ratT (sumA qs / 2)) = TH at *
      generalize bs (ratT (sumQ qs)) = TS at *
      obtain ⟨Z, hZ⟩ : ∃ z, decide (sumQ qs = 0) = z := ⟨_, rfl⟩
      rw [hZ] at z1
      have k4 : Z = true → sumQ qs = 0 := fun h => of_decide_eq_true (hZ.trans h)
      have k5 : E = 0 → F = 0 → (A = true → B = true) ∧ (Z = true → A = false ∧ B = false) := fun h1 h2 => ⟨(k3 h1 h2).1, fun h => (k3 h1 h2).2 (k4 h)⟩
      clear hs hc ha hf f0 f1 f2 f3 f4 hsz hA hB k3 k4 hZ
      by_cases hE : E = 0
      · subst hE
        by_cases hF : F = 0
        · subst hF
          have k6 := k5 rfl rfl
          clear k5 k1 k2
          cases A <;> cases B <;> cases Z
          · skip
            go_enter Tryd.func3, Tryd.ntmps3
            go_wp2_with (first | rw [hmn])
            refine HW.out.mono ?_; rintro e w2 ⟨rfl, hb⟩
            have B2 := Lib.hid (belowA hb (.cells #[.slice a m c] 23))
            have HS2 := Lib.hid (HSM.out (w2.alloc (.cells #[.slice a m c] 23)) w2.heap.size 1 B2.out (Blk.new w2 _ _))
            clear hb HW HSM
            go_wp2_with fail
            refine HS2.out.mono ?_; rintro e w3 ⟨rfl, hb⟩
            have B3 := Lib.hid (belowT B2.out hb)
            clear hb HS2 B2
            go_wp2_with fail
            refine (HO1.out w3 B3.out).mono ?_; rintro e w4 ⟨rfl, hb⟩
            have B4 := Lib.hid (belowT B3.out hb)
            clear hb HO1 B3
            go_wp2_with (first | rw [hx1] | rw [hx2])
            refine (HO2.out w4 B4.out).mono ?_; rintro e w5 ⟨rfl, hb⟩
            have B5 := Lib.hid (belowT B4.out hb)
            clear hb HO2 B4
            go_wp2_with fail
            refine (HBS.out w5 B5.out).mono ?_; rintro e w6 ⟨rfl, hb⟩
            have B6 := Lib.hid (belowT B5.out hb)
            clear hb HBS B5
            go_wp2_with fail
            go_ret
            exact ⟨by simp, B6.out⟩
          · skip
            go_enter Tryd.func3, Tryd.ntmps3
            go_wp2_with (first | rw [hmn])
            refine HW.out.mono ?_; rintro e w2 ⟨rfl, hb⟩
            have B2 := Lib.hid (belowA hb (.cells #[.slice a m c] 23))
            have HS2 := Lib.hid (HSM.out (w2.alloc (.cells #[.slice a m c] 23)) w2.heap.size 1 B2.out (Blk.new w2 _ _))
            clear hb HW HSM
            go_wp2_with fail
            refine HS2.out.mono ?_; rintro e w3 ⟨rfl, hb⟩
            have B3 := Lib.hid (belowT B2.out hb)
            clear hb HS2 B2
            go_wp2_with fail
            refine (HO1.out w3 B3.out).mono ?_; rintro e w4 ⟨rfl, hb⟩
            have B4 := Lib.hid (belowT B3.out hb)
            clear hb HO1 B3
            go_wp2_with (first | rw [hx1] | rw [hx2])
            refine (HO2.out w4 B4.out).mono ?_; rintro e w5 ⟨rfl, hb⟩
            have B5 := Lib.hid (belowT B4.out hb)
            clear hb HO2 B4
            go_wp2_with fail
            refine (HBS.out w5 B5.out).mono ?_; rintro e w6 ⟨rfl, hb⟩
            have B6 := Lib.hid (belowT B5.out hb)
            clear hb HBS B5
            go_wp2_with fail
            go_ret
            exact ⟨by simp, B6.out⟩
          · skip
            go_enter Tryd.func3, Tryd.ntmps3
            go_wp2_with (first | rw [hmn])
            refine HW.out.mono ?_; rintro e w2 ⟨rfl, hb⟩
            have B2 := Lib.hid (belowA hb (.cells #[.slice a m c] 23))
            have HS2 := Lib.hid (HSM.out (w2.alloc (.cells #[.slice a m c] 23)) w2.heap.size 1 B2.out (Blk.new w2 _ _))
            clear hb HW HSM
            go_wp2_with fail
            refine HS2.out.mono ?_; rintro e w3 ⟨rfl, hb⟩
            have B3 := Lib.hid (belowT B2.out hb)
            clear hb HS2 B2
            go_wp2_with fail
            refine (HO1.out w3 B3.out).mono ?_; rintro e w4 ⟨rfl, hb⟩
            have B4 := Lib.hid (belowT B3.out hb)
            clear hb HO1 B3
            go_wp2_with (first | rw [hx1] | rw [hx2])
            refine (HO2.out w4 B4.out).mono ?_; rintro e w5 ⟨rfl, hb⟩
            have B5 := Lib.hid (belowT B4.out hb)
            clear hb HO2 B4
            go_wp2_with fail
            refine (HBS.out w5 B5.out).mono ?_; rintro e w6 ⟨rfl, hb⟩
            have B6 := Lib.hid (belowT B5.out hb)
            clear hb HBS B5
            go_wp2_with fail
            go_ret
            exact ⟨by simp, B6.out⟩
          · exact absurd (k6.2 rfl).2 (by decide)
          · exact absurd (k6.1 rfl) (by decide)
          · exact absurd (k6.1 rfl) (by decide)
          · skip
            go_enter Tryd.func3, Tryd.ntmps3
            go_wp2_with (first | rw [hmn])
            refine HW.out.mono ?_; rintro e w2 ⟨rfl, hb⟩
            have B2 := Lib.hid (belowA hb (.cells #[.slice a m c] 23))
            have HS2 := Lib.hid (HSM.out (w2.alloc (.cells #[.slice a m c] 23)) w2.heap.size 1 B2.out (Blk.new w2 _ _))
            clear hb HW HSM
            go_wp2_with fail
            refine HS2.out.mono ?_; rintro e w3 ⟨rfl, hb⟩
            have B3 := Lib.hid (belowT B2.out hb)
            clear hb HS2 B2
            go_wp2_with fail
            refine (HO1.out w3 B3.out).mono ?_; rintro e w4 ⟨rfl, hb⟩
            have B4 := Lib.hid (belowT B3.out hb)
            clear hb HO1 B3
            go_wp2_with (first | rw [hx1] | rw [hx2])
            refine (HO2.out w4 B4.out).mono ?_; rintro e w5 ⟨rfl, hb⟩
            have B5 := Lib.hid (belowT B4.out hb)
            clear hb HO2 B4
            go_wp2_with fail
            refine (HBS.out w5 B5.out).mono ?_; rintro e w6 ⟨rfl, hb⟩
            have B6 := Lib.hid (belowT B5.out hb)
            clear hb HBS B5
            go_wp2_with fail
            go_ret
            exact ⟨by simp, B6.out⟩
          · exact absurd (k6.2 rfl).1 (by decide)
        · have hB : B = false := k2.resolve_left hF
          subst hB
          have g2 : (F != 0) = true := by simpa using hF
          have g3 : (F == 0) = false := by simpa using hF
          clear k5 k1 k2 hF
          go_enter Tryd.func3, Tryd.ntmps3
          go_wp2_with (first | rw [hmn])
          refine HW.out.mono ?_; rintro e w2 ⟨rfl, hb⟩
          have B2 := Lib.hid (belowA hb (.cells #[.slice a m c] 23))
          have HS2 := Lib.hid (HSM.out (w2.alloc (.cells #[.slice a m c] 23)) w2.heap.size 1 B2.out (Blk.new w2 _ _))
          clear hb HW HSM
          go_wp2_with fail
          refine HS2.out.mono ?_; rintro e w3 ⟨rfl, hb⟩
          have B3 := Lib.hid (belowT B2.out hb)
          clear hb HS2 B2
          go_wp2_with fail
          refine (HO1.out w3 B3.out).mono ?_; rintro e w4 ⟨rfl, hb⟩
          have B4 := Lib.hid (belowT B3.out hb)
          clear hb HO1 B3
          go_wp2_with (first | rw [hx1] | rw [hx2])
          refine (HO2.out w4 B4.out).mono ?_; rintro e w5 ⟨rfl, hb⟩
          have B5 := Lib.hid (belowT B4.out hb)
          clear hb HO2 B4
          go_wp2_with fail
          refine (HBS.out w5 B5.out).mono ?_; rintro e w6 ⟨rfl, hb⟩
          have B6 := Lib.hid (belowT B5.out hb)
          clear hb HBS B5
          go_wp2_with fail
          go_ret
          exact ⟨by simp, B6.out⟩
      · have hA : A = false := k1.resolve_left hE
        subst hA
        have g2 : (E != 0) = true := by simpa using hE
        have g3 : (E == 0) = false := by simpa using hE
        by_cases hF : F = 0
        · subst hF
          clear k5 k1 k2 hE
          go_enter Tryd.func3, Tryd.ntmps3
          go_wp2_with (first | rw [hmn])
          refine HW.out.mono ?_; rintro e w2 ⟨rfl, hb⟩
          have B2 := Lib.hid (belowA hb (.cells #[.slice a m c] 23))
          have HS2 := Lib.hid (HSM.out (w2.alloc (.cells #[.slice a m c] 23)) w2.heap.size 1 B2.out (Blk.new w2 _ _))
          clear hb HW HSM
          go_wp2_with fail
          refine HS2.out.mono ?_; rintro e w3 ⟨rfl, hb⟩
          have B3 := Lib.hid (belowT B2.out hb)
          clear hb HS2 B2
          go_wp2_with fail
          refine (HO1.out w3 B3.out).mono ?_; rintro e w4 ⟨rfl, hb⟩
          have B4 := Lib.hid (belowT B3.out hb)
          clear hb HO1 B3
          go_wp2_with (first | rw [hx1] | rw [hx2])
          refine (HO2.out w4 B4.out).mono ?_; rintro e w5 ⟨rfl, hb⟩
          have B5 := Lib.hid (belowT B4.out hb)
          clear hb HO2 B4
          go_wp2_with fail
          refine (HBS.out w5 B5.out).mono ?_; rintro e w6 ⟨rfl, hb⟩
          have B6 := Lib.hid (belowT B5.out hb)
          clear hb HBS B5
          go_wp2_with fail
          go_ret
          exact ⟨by simp, B6.out⟩
        · have hB : B = false := k2.resolve_left hF
          subst hB
          have g4 : (F == 0) = false := by simpa using hF
          clear k5 k1 k2 hE hF
          go_enter Tryd.func3, Tryd.ntmps3
          go_wp2_with (first | rw [hmn])
          refine HW.out.mono ?_; rintro e w2 ⟨rfl, hb⟩
          have B2 := Lib.hid (belowA hb (.cells #[.slice a m c] 23))
          have HS2 := Lib.hid (HSM.out (w2.alloc (.cells #[.slice a m c] 23)) w2.heap.size 1 B2.out (Blk.new w2 _ _))
          clear hb HW HSM
          go_wp2_with fail
          refine HS2.out.mono ?_; rintro e w3 ⟨rfl, hb⟩
          have B3 := Lib.hid (belowT B2.out hb)
          clear hb HS2 B2
          go_wp2_with fail
          refine (HO1.out w3 B3.out).mono ?_; rintro e w4 ⟨rfl, hb⟩
          have B4 := Lib.hid (belowT B3.out hb)
          clear hb HO1 B3
          go_wp2_with (first | rw [hx1] | rw [hx2])
          refine (HO2.out w4 B4.out).mono ?_; rintro e w5 ⟨rfl, hb⟩
          have B5 := Lib.hid (belowT B4.out hb)
          clear hb HO2 B4
          go_wp2_with fail
          refine (HBS.out w5 B5.out).mono ?_; rintro e w6 ⟨rfl, hb⟩
          have B6 := Lib.hid (belowT B5.out hb)
          clear hb HBS B5
          go_wp2_with fail
          go_ret
          exact ⟨by simp, B6.out⟩
    · have HBS := Lib.hid (fun W (hW : Below w.heap.size w W) => bsum_bad (.slice a m c) l W (HV.out.below hW) hsz hc)
      have HO1 := Lib.hid (fun W (hW : Below w.heap.size w W) => bop_bad (.slice a m c) l least slope W (HV.out.below hW) hsz hc)
      have HO2 := Lib.hid (fun W (hW : Below w.heap.size w W) => bop_bad (.slice a m c) l x1 x2 W (HV.out.below hW) hsz hc)
      obtain ⟨C, hC⟩ : ∃ x, checkB l = x := ⟨_, rfl⟩
      rw [hC] at HBS HO1 HO2 hc
      have g1 : (C != 0) = true := by simpa using hc
      have g2 : (C == 0) = false := by simpa using hc
      clear hs hc hC hsz
      go_enter Tryd.func3, Tryd.ntmps3
      go_wp2_with (first | rw [hmn])
      refine HW.out.mono ?_; rintro e w2 ⟨rfl, hb⟩
      have B2 := Lib.hid (belowA hb (.cells #[.slice a m c] 23))
      have HS2 := Lib.hid (HSM.out (w2.alloc (.cells #[.slice a m c] 23)) w2.heap.size 1 B2.out (Blk.new w2 _ _))
      clear hb HW HSM
      go_wp2_with fail
      refine HS2.out.mono ?_; rintro e w3 ⟨rfl, hb⟩
      have B3 := Lib.hid (belowT B2.out hb)
      clear hb HS2 B2
      go_wp2_with fail
      refine (HO1.out w3 B3.out).mono ?_; rintro e w4 ⟨rfl, hb⟩
      have B4 := Lib.hid (belowT B3.out hb)
      clear hb HO1 B3
      go_wp2_with (first | rw [hx1] | rw [hx2])
      refine (HO2.out w4 B4.out).mono ?_; rintro e w5 ⟨rfl, hb⟩
      have B5 := Lib.hid (belowT B4.out hb)
      clear hb HO2 B4
      go_wp2_with fail
      refine (HBS.out w5 B5.out).mono ?_; rintro e w6 ⟨rfl, hb⟩
      have B6 := Lib.hid (belowT B5.out hb)
      clear hb HBS B5
      go_wp2_with fail
      go_ret
      exact ⟨by simp, B6.out⟩
end Go.Proofs.YtkpalfgnfhphjaaDoor
