/- The law JournalMerges walked. -/
import Derived.Test.YtjakhgilkogcnaaDoorJr19
import Derived.BigQuiet
namespace Go.Proofs.YtjakhgilkogcnaaDoor
open Go.RowKit

theorem take_mem {R : List Ev} {z x : Ev} {j : Nat} (h : R[j]? = some x) : (z ∈ R.take (j + 1)) ↔ (z ∈ R.take j ∨ z = x) := by
  rw [List.take_add_one, h]; simp
set_option maxRecDepth 100000 in
set_option maxHeartbeats 4000000 in
theorem lawJrMerges_c (va vb : Value) (la lb : List Ev) (w : World) (hva : EVal w va la) (hvb : EVal w vb lb) (hwa : Hid (∀ x ∈ la, x.Wf)) (hwb : Hid (∀ x ∈ lb, x.Wf)) (ht : Pow w) :
    Calls Tryd.prog 5 #[va, vb] w fun e w' => e = .returned (.bool true) ∧ Below w.heap.size w w' := by
  have HW := Lib.hid (works_c w ht)
  have HM1 := Lib.hid (fun W (hW : Below w.heap.size w W) => merge_c va vb la lb W (hva.below hW) (hvb.below hW) hwa hwb)
  have HM2 := Lib.hid (fun W (hW : Below w.heap.size w W) => merge_c vb va lb la W (hvb.below hW) (hva.below hW) hwb hwa)
  have HM3 := Lib.hid (fun W (hW : Below w.heap.size w W) => merge_c va va la la W (hva.below hW) (hva.below hW) hwa hwa)
  have HM4 := Lib.hid (fun W (hW : Below w.heap.size w W) => merge_c va (.slice none 0 0) la [] W (hva.below hW) (Or.inl ⟨rfl, rfl, none, 0, rfl⟩) hwa (fun x hx => by cases hx))
  have HS := Lib.hid (fun W (hW : Below w.heap.size w W) => sorted_c va la W (hva.below hW) hwa)
  have HVA := Lib.hid hva
  have HVB := Lib.hid hvb
  have HL := Lib.hid (merges_law la lb)
  obtain ⟨aa, ca, rfl⟩ := hva.slice
  obtain ⟨ab, cb, rfl⟩ := hvb.slice
  clear hva hvb ht
  rcases HL.out with ⟨er, er', e1, e2, h1, h2⟩ | ⟨R, S, e1, e2, e3, e4, e5, hmem, l1, l2, l3, l4, l5, l6⟩
  · rw [e1] at HM1
    rw [e2] at HM2
    have g1 : (er != 0) = true := by simpa using h1
    have g2 : (er' != 0) = true := by simpa using h2
    clear HL e1 e2 h1 h2 HM3 HM4 HS HVA HVB
    generalize la.length = n at *
    generalize lb.length = m at *
    go_enter Tryd.func5, Tryd.ntmps5
    go_wp2_with fail
    refine HW.out.mono ?_; rintro e w2 ⟨rfl, hb2⟩
    have HB2 := Lib.hid hb2
    have HF := Lib.hid (HM1.out w2 hb2)
    clear hb2 HW HM1
    go_wp2_with fail
    refine HF.out.mono ?_; rintro e w3 ⟨a3, c3, rfl, _, hb3⟩
    have HB3 := Lib.hid (belowT HB2.out hb3)
    have HF2 := Lib.hid (HM2.out w3 HB3.out)
    clear hb3 HF HB2 HM2
    go_wp2_with fail
    refine HF2.out.mono ?_; rintro e w4 ⟨a4, c4, rfl, _, hb4⟩
    have HB4 := Lib.hid (belowT HB3.out hb4)
    clear hb4 HF2 HB3
    go_wp2_with fail
    go_ret
    exact ⟨rfl, HB4.out⟩
  · rw [e1] at HM1
    rw [e2] at HM2
    rw [e3] at HM3
    rw [e4] at HM4
    rw [e5] at HS
    have HMEM := Lib.hid hmem
    clear HL e1 e2 e3 e4 e5 hmem
    obtain ⟨n, hn⟩ : ∃ n, la.length = n := ⟨_, rfl⟩
    obtain ⟨m, hm⟩ : ∃ m, lb.length = m := ⟨_, rfl⟩
    obtain ⟨rn, hrn⟩ : ∃ m, R.length = m := ⟨_, rfl⟩
    have HN := Lib.hid hn
    have HMM := Lib.hid hm
    have HRN := Lib.hid hrn
    rw [hn] at l1 l3 l4 HM1 HM2 HM3 HM4 HS ⊢
    rw [hm] at l2 l3 l5 HM1 HM2 ⊢
    rw [hrn] at l1 l2 l3 l6
    clear hn hm hrn
    go_enter Tryd.func5, Tryd.ntmps5
    go_wp2_with fail
    refine HW.out.mono ?_; rintro e w2 ⟨rfl, hb2⟩
    have HB2 := Lib.hid hb2
    have HF := Lib.hid (HM1.out w2 hb2)
    clear hb2 HW HM1
    go_wp2_with fail
    refine HF.out.mono ?_; rintro e w3 ⟨a3, c3, rfl, hv3, hb3⟩
    have HB3 := Lib.hid (belowT HB2.out hb3)
    have HV3 : Hid (EVal w3 (.slice a3 R.length c3) R) := hv3
    have HF2 := Lib.hid (HM2.out w3 HB3.out)
    simp only [HRN.out] at HV3 ⊢
    clear hb3 HF HB2 HM2 hv3
    go_wp2_with fail
    refine HF2.out.mono ?_; rintro e w4 ⟨a4, c4, rfl, hv4, hb4⟩
    have HB4 := Lib.hid (belowT HB3.out hb4)
    have HV34 := Lib.hid (HV3.out.below hb4)
    have HV4 : Hid (EVal w4 (.slice a4 R.length c4) R) := hv4
    have HF3 := Lib.hid (HM3.out w4 HB4.out)
    clear hb4 HF2 HB3 HM3 HV3 hv4
    go_wp2_with fail
    refine HF3.out.mono ?_; rintro e w5 ⟨a5, c5, rfl, hv5, hb5⟩
    have HB5 := Lib.hid (belowT HB4.out hb5)
    have HV35 := Lib.hid (HV34.out.below hb5)
    have HV45 := Lib.hid (HV4.out.below hb5)
    have HV5 : Hid (EVal w5 (.slice a5 S.length c5) S) := hv5
    have HF4 := Lib.hid (HM4.out w5 HB5.out)
    clear hb5 HF3 HB4 HM4 HV34 HV4 hv5
    go_wp2_with fail
    refine HF4.out.mono ?_; rintro e w6 ⟨a6, c6, rfl, hv6, hb6⟩
    have HB6 := Lib.hid (belowT HB5.out hb6)
    have HV36 := Lib.hid (HV35.out.below hb6)
    have HV46 := Lib.hid (HV45.out.below hb6)
    have HV56 := Lib.hid (HV5.out.below hb6)
    have HV6 : Hid (EVal w6 (.slice a6 S.length c6) S) := hv6
    have HF5 := Lib.hid (HS.out w6 HB6.out)
    clear hb6 HF4 HB5 HS HV35 HV45 HV5 hv6
    go_wp2_with fail
    refine HF5.out.mono ?_; rintro e w7 ⟨a7, c7, rfl, hv7, hb7⟩
    have HB7 := Lib.hid (belowT HB6.out hb7)
    have HV37 := Lib.hid (HV36.out.below hb7)
    have HV47 := Lib.hid (HV46.out.below hb7)
    have HV57 := Lib.hid (HV56.out.below hb7)
    have HV67 := Lib.hid (HV6.out.below hb7)
    have HV7 : Hid (EVal w7 (.slice a7 S.length c7) S) := hv7
    have HE1 : Hid (∀ W, Below w7.heap.size w7 W → Calls Tryd.prog 11 #[.slice a3 rn c3, .slice a4 R.length c4] W fun e w' => e = .returned (.bool true) ∧ Below W.heap.size W w') := fun W hW => by
      have h := sameEv_c (.slice a3 rn c3) (.slice a4 R.length c4) R R W (HV37.out.below hW) (HV47.out.below hW)
      simpa using h
    have HE2 : Hid (∀ W, Below w7.heap.size w7 W → Calls Tryd.prog 11 #[.slice a5 S.length c5, .slice a7 S.length c7] W fun e w' => e = .returned (.bool true) ∧ Below W.heap.size W w') := fun W hW => by
      have h := sameEv_c (.slice a5 S.length c5) (.slice a7 S.length c7) S S W (HV57.out.below hW) (HV7.out.below hW)
      simpa using h
    have HE3 : Hid (∀ W, Below w7.heap.size w7 W → Calls Tryd.prog 11 #[.slice a6 S.length c6, .slice a7 S.length c7] W fun e w' => e = .returned (.bool true) ∧ Below W.heap.size W w') := fun W hW => by
      have h := sameEv_c (.slice a6 S.length c6) (.slice a7 S.length c7) S S W (HV67.out.below hW) (HV7.out.below hW)
      simpa using h
    have HE1a := Lib.hid (HE1.out w7 (Below.refl _ _))
    have HX7 := HB7
    generalize S.length = sn at *
    generalize hrn2 : R.length = rn2 at *
    clear hb7 HF5 HB6 HV36 HV46 HV56 HV6 hv7 HE1 HV47 HV57 HV67 HV7
    go_wp2_with fail
    refine HE1a.out.mono ?_; rintro e w8 ⟨rfl, hb8⟩
    have B8 := Lib.hid hb8
    have HE2a := Lib.hid (HE2.out w8 B8.out)
    clear hb8 HE1a HE2
    go_wp2_with fail
    refine HE2a.out.mono ?_; rintro e w9 ⟨rfl, hb9⟩
    have B9 := Lib.hid (belowT B8.out hb9)
    have HE3a := Lib.hid (HE3.out w9 B9.out)
    clear hb9 HE2a HE3 B8
    go_wp2_with fail
    refine HE3a.out.mono ?_; rintro e wX ⟨rfl, hbX⟩
    have BX := Lib.hid (HB7.out.trans ((belowT B9.out hbX).mono HB7.out.size))
    have HVX := Lib.hid (HV37.out.below (belowT B9.out hbX))
    have HBL : Hid (Below wX.heap.size wX (wX.alloc (.cells #[] 31))) := belowA (Below.refl _ _) _
    have HV11 : Reads (wX.alloc (.cells #[] 31)) (.slice aa n ca) la.length (flat Ev.cells la) := by
      rw [← HN.out]; exact HVA.out.below (BX.out.trans (HBL.out.mono BX.out.size))
    obtain ⟨b1, k1, W12, q1, o1, p1⟩ := app_any (P := []) (L := la) (show OwnE (wX.alloc (.cells #[] 31)) wX.heap.size (.slice (some ⟨wX.heap.size, 0, none⟩) 0 0) [] from owns_lit (Blk.new _ _ _) (Nat.le_refl _) 4 0 rfl (by decide)) HV11 (by simp; have := HN.out; omega) (by rw [World.size_alloc]; omega)
    simp only [List.nil_append, HN.out] at q1
    have HB12 : Hid (Below wX.heap.size wX W12) := HBL.out.trans p1
    have HV12 : Reads W12 (.slice ab m cb) lb.length (flat Ev.cells lb) := by
      rw [← HMM.out]; exact HVB.out.below (BX.out.trans (HB12.out.mono BX.out.size))
    obtain ⟨b2, k2, W13, q2, o2, p2⟩ := app_any (P := la) (L := lb) (by simpa only [List.nil_append] using o1) HV12 (by have := HN.out; have := HMM.out; omega) HB12.out.size
    simp only [HN.out] at q2
    have hlen : (la ++ lb).length = n + m := by rw [List.length_append, HN.out, HMM.out]
    obtain ⟨tn, htn⟩ : ∃ t, (la ++ lb).length = t := ⟨_, rfl⟩
    have HTN := Lib.hid htn
    have HT : Hid (Reads W13 (.slice (some ⟨b2, 0, none⟩) tn k2) tn (flat Ev.cells (la ++ lb))) := by
      show Reads _ _ _ _
      rw [← htn]
      exact Reads.of_owns o2 (by omega)
    have htn2 : tn ≤ 512 := by omega
    rw [htn] at q2
    have Q1 := Lib.hid q1
    have Q2 := Lib.hid q2
    have HB13 : Hid (Below wX.heap.size wX W13) := HB12.out.trans p2
    have HRL : Hid (R.length = rn) := hrn2.trans HRN.out
    have HVY : Hid (Reads W13 (.slice a3 rn c3) rn (flat Ev.cells R)) := by
      have h := HVX.out.below HB13.out
      rw [HRN.out] at h; exact h
    clear HRN hrn2
    clear HV11 q1 o1 p1 HV12 q2 o2 p2 hlen htn HVA HVB HVX HB12 HBL
    go_wp2_with (first
      | (at_builtin; refine wpList_append_told rfl (.tmp 94) (.tmp 95) 22 rfl _ _ rfl rfl _ W12 (Q1.out _) ?_)
      | (at_builtin; refine wpList_append_told rfl (.tmp 96) (.tmp 97) 22 rfl _ _ rfl rfl _ W13 (Q2.out _) ?_))
    go_loopw [100] (fun i wr => ∃ k : Nat, k ≤ tn ∧ i = .int .i64 k ∧ Hid (Below W13.heap.size W13 wr)) (fun i _ => tn - (intOf i).toNat)
    case atStart => exact ⟨0, Nat.zero_le _, rfl, Below.refl _ _⟩
    case round =>
      clear Q1 Q2
      obtain ⟨k, hk, rfl, hb⟩ := hrel
      by_cases hlt : k < tn
      · obtain ⟨z, hz⟩ : ∃ y, (la ++ lb)[k]? = some y := ⟨_, List.getElem?_eq_getElem (by rw [HTN.out]; exact hlt)⟩
        have hzm := HMEM.out z (List.mem_of_getElem? hz)
        obtain ⟨g', off, cap', hvv, _, _, _, hcc⟩ := (HT.out.below hb.out).addr (by omega)
        simp only [Value.slice.injEq] at hvv
        obtain ⟨hv1, _, rfl⟩ := hvv
        cases hv1
        obtain ⟨d0, d1, d2, d3⟩ := ev_cells hcc hz
        obtain ⟨z0, z1, z2, z3⟩ := z
        simp only [Nat.zero_add] at d0 d1 d2 d3
        have HZM : Hid ((⟨z0, z1, z2, z3⟩ : Ev) ∈ R) := hzm
        have HB14 : Hid (Below W13.heap.size W13 (wr.alloc (.cells #[.int .i64 z0, .string z1, .string z2, .int .i64 z3] 31))) := hb.out.alloc hb.out.size _
        have KZ := Lib.hid (Blk.new wr #[.int .i64 z0, .string z1, .string z2, .int .i64 z3] 31)
        clear hcc hz hzm
        go_upto_region 15 with fail
        generalize hW14 : wr.alloc (.cells #[.int .i64 z0, .string z1, .string z2, .int .i64 z3] 31) = W14 at *
        generalize hzb : wr.heap.size = zb at *
        have hzlt := KZ.out.lt
        go_wp2_with fail
        go_loopw [106, 17] (fun i f wq => ∃ j : Nat, j ≤ rn ∧ i = .int .i64 j ∧ f = .bool (decide ((⟨z0, z1, z2, z3⟩ : Ev) ∈ R.take j)) ∧ Hid (Below W14.heap.size W14 wq)) (fun i _ _ => rn - (intOf i).toNat)
        case atStart => exact ⟨0, Nat.zero_le _, rfl, by simp, Below.refl _ _⟩
        case round =>
          obtain ⟨j, hj, rfl, rfl, hq⟩ := hrel
          by_cases hjl : j < rn
          · obtain ⟨x, hx⟩ : ∃ y, R[j]? = some y := ⟨_, List.getElem?_eq_getElem (by rw [HRL.out]; exact hjl)⟩
            have htm := take_mem (z := ⟨z0, z1, z2, z3⟩) hx
            obtain ⟨g', off, cap', hvv, _, _, _, hcc⟩ := (HVY.out.below (HB14.out.trans (hq.out.mono HB14.out.size))).addr (by omega)
            simp only [Value.slice.injEq] at hvv
            obtain ⟨rfl, _, rfl⟩ := hvv
            obtain ⟨d0, d1, d2, d3⟩ := ev_cells hcc hx
            obtain ⟨x0, x1, x2, x3⟩ := x
            simp only at d0 d1 d2 d3
            have KZ2 := Lib.hid (below_blk hq.out KZ.out hzlt)
            have HB15 : Hid (Below W14.heap.size W14 (wr.alloc (.cells #[.int .i64 x0, .string x1, .string x2, .int .i64 x3] 31))) := hq.out.alloc hq.out.size _
            have KZ3 := Lib.hid (KZ2.out.alloc (.cells #[.int .i64 x0, .string x1, .string x2, .int .i64 x3] 31))
            have KX3 := Lib.hid (Blk.new wr #[.int .i64 x0, .string x1, .string x2, .int .i64 x3] 31)
            clear hcc hx
            by_cases hf : (⟨z0, z1, z2, z3⟩ : Ev) ∈ R.take j
            · have g1 : decide ((⟨z0, z1, z2, z3⟩ : Ev) ∈ R.take j) = true := decide_eq_true hf
              have HG : Hid (true = decide ((⟨z0, z1, z2, z3⟩ : Ev) ∈ R.take (j + 1))) := by
                show _ = _
                rw [decide_eq_true (htm.2 (Or.inl hf))]
              rw [g1]
              clear htm hf g1
              go_wp2_with fail
              go_roundw
              case rel => exact ⟨j + 1, hjl, by go_num, by rw [← HG.out], HB15⟩
              case measure => simp [intOf]; omega
            · have g1 : decide ((⟨z0, z1, z2, z3⟩ : Ev) ∈ R.take j) = false := decide_eq_false hf
              have HG : Hid (decide ((⟨x0, x1, x2, x3⟩ : Ev) = ⟨z0, z1, z2, z3⟩) = decide ((⟨z0, z1, z2, z3⟩ : Ev) ∈ R.take (j + 1))) := by
                show _ = _
                rw [decide_eq_decide, htm]
                exact ⟨fun h => Or.inr h.symm, fun h => (h.resolve_left hf).symm⟩
              rw [g1]
              obtain ⟨DD, hDD⟩ : ∃ d, decide ((⟨z0, z1, z2, z3⟩ : Ev) ∈ R.take (j + 1)) = d := ⟨_, rfl⟩
              have HD := Lib.hid hDD
              rw [hDD] at HG
              clear hDD
              have qb : ∀ W : World, (binOp .eql 31 (.agg #[.int .i64 x0, .string x1, .string x2, .int .i64 x3]) (.agg #[.int .i64 z0, .string z1, .string z2, .int .i64 z3])).run Tryd.prog W = .ok (.bool DD) W := fun W => by
                rw [evEq_run, HG.out]
              have y0 := KX3.out.cell 0 rfl
              have y1 := KX3.out.cell 1 rfl
              have y2 := KX3.out.cell 2 rfl
              have y3 := KX3.out.cell 3 rfl
              have v0 := KZ3.out.cell 0 rfl
              have v1 := KZ3.out.cell 1 rfl
              have v2 := KZ3.out.cell 2 rfl
              have v3 := KZ3.out.cell 3 rfl
              have hzq := KZ3.out.lt
              clear htm hf g1
              go_wp2_with (rw [qb])
              go_roundw
              case rel => exact ⟨j + 1, hjl, by go_num, by rw [HD.out], HB15⟩
              case measure => simp [intOf]; omega
          · have hjr : R.take j = R := List.take_of_length_le (by rw [HRL.out]; omega)
            have g1 : decide ((⟨z0, z1, z2, z3⟩ : Ev) ∈ R.take j) = true := decide_eq_true (by rw [hjr]; exact HZM.out)
            have HB16 : Hid (Below W13.heap.size W13 wr) := HB14.out.trans (hq.out.mono HB14.out.size)
            rw [g1]
            clear hjr g1
            go_wp2_with fail
            go_roundw
            case rel => exact ⟨k + 1, hlt, by go_num, HB16⟩
            case measure => simp [intOf]; omega
      · have HBB : Hid (Below w.heap.size w wr) := BX.out.trans ((HB13.out.trans (hb.out.mono HB13.out.size)).mono BX.out.size)
        have gq : decide ((rn : Int) ≤ (n : Int) + (m : Int)) = true := decide_eq_true (by omega)
        go_wp2_with fail
        go_ret
        exact ⟨rfl, HBB.out⟩
end Go.Proofs.YtjakhgilkogcnaaDoor
