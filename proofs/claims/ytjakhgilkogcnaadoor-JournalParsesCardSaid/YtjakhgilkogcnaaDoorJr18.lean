/- journal: Merge, walked. -/
import Derived.Test.YtjakhgilkogcnaaDoorJr17
import Derived.BigQuiet
import Derived.Deep.CutBlock
namespace Go.Proofs.YtjakhgilkogcnaaDoor
open Go.RowKit

theorem OwnE.below {W W' : World} {base : Nat} {v : Value} {P : List Ev} (h : OwnE W base v P) (k : Below W.heap.size W W') : OwnE W' base v P := by
  obtain ⟨h1, h2⟩ := h
  refine ⟨h1, h2.imp id ?_⟩
  rintro ⟨g, cap, cur, rfl, e2, e3, e4⟩
  refine ⟨g, cap, cur, rfl, e2, ?_, e4⟩
  rw [k.block g (by have := (Array.getElem?_eq_some_iff.1 e3).1; exact this)]
  exact e3
set_option maxRecDepth 100000 in
set_option maxHeartbeats 4000000 in
theorem merge_c (va vb : Value) (la lb : List Ev) (w : World) (hva : EVal w va la) (hvb : EVal w vb lb) (hwa : Hid (∀ x ∈ la, x.Wf)) (hwb : Hid (∀ x ∈ lb, x.Wf)) :
    Calls Tryd.prog 13 #[va, vb] w (EvsP (mergedE la lb).1 (mergedE la lb).2 w) := by
  have HS1 := Lib.hid (sorted_c va la w hva hwa)
  have HS2 := Lib.hid (fun W (hW : Below w.heap.size w W) => sorted_c vb lb W (hvb.below hW) hwb)
  have HE : Hid (mergedE la lb = if (sortedE la).2 ≠ 0 then ([], (sortedE la).2) else if (sortedE lb).2 ≠ 0 then ([], (sortedE lb).2) else
    if 256 < (mergeE (sortedE la).1 (sortedE lb).1).length then ([], 2) else (mergeE (sortedE la).1 (sortedE lb).1, 0)) := rfl
  have HL1 := Lib.hid (fun h => (@sorted_len la h).1)
  have HL2 := Lib.hid (fun h => (@sorted_len lb h).1)
  generalize mergedE la lb = E at *
  obtain ⟨⟨Sa, Ta⟩, hSa⟩ : ∃ s, sortedE la = s := ⟨_, rfl⟩
  obtain ⟨⟨Sb, Tb⟩, hSb⟩ : ∃ s, sortedE lb = s := ⟨_, rfl⟩
  rw [hSa] at HS1 HE HL1
  rw [hSb] at HS2 HE HL2
  clear hSa hSb hva hvb
  by_cases hz : Ta = 0
  · have HE1 := Lib.hid (HE.out.trans (if_neg (fun h => h hz)))
    have hl1 := HL1.out hz
    subst hz
    clear HE HL1
    by_cases hy : Tb = 0
    · have HE2 := Lib.hid (HE1.out.trans (if_neg (fun h => h hy)))
      have hl2 := HL2.out hy
      subst hy
      clear HE1 HL2
      go_enter Tryd.func13, Tryd.ntmps13
      go_wp2_with fail
      refine HS1.out.mono ?_; rintro e w3 ⟨a, c, rfl, hv3, hb3⟩
      have B3 := Lib.hid hb3
      have HV3 := Lib.hid hv3
      have HS3 := Lib.hid (HS2.out w3 hb3)
      clear hb3 hv3 HS1 HS2
      go_wp2_with fail
      refine HS3.out.mono ?_; rintro e w4 ⟨a4, c4, rfl, hv4, hb4⟩
      have HV4 := Lib.hid hv4
      have HV3' := Lib.hid (HV3.out.below hb4)
      have B4 := Lib.hid (belowT B3.out hb4)
      clear hb4 hv4 HS3 B3 HV3
      have HR0 : Hid ([] ++ mergeE Sa Sb = mergeE Sa Sb) := rfl
      have hsum : ([] : List Ev).length + Sa.length + Sb.length ≤ 512 := by simp; omega
      go_wp2_with fail
      go_loopw [6, 8, 9] (fun pv qv ov wr => ∃ (ps qs P : List Ev), Hid (Reads w4 pv ps.length (flat Ev.cells ps)) ∧ Hid (Reads w4 qv qs.length (flat Ev.cells qs)) ∧ Hid (OwnE wr w4.heap.size ov P) ∧ Hid (P ++ mergeE ps qs = mergeE Sa Sb) ∧ P.length + ps.length + qs.length ≤ 512 ∧ Hid (Below w4.heap.size w4 wr)) (fun pv qv _ _ => lenOf pv + lenOf qv)
      case atStart => exact ⟨Sa, Sb, [], HV3', HV4, OwnE.nil _ _, HR0, hsum, Below.refl _ _⟩
      case round =>
        clear HR0 hsum HV3' HV4
        obtain ⟨ps, qs, P, hrp, hrq, ho, hm, hl, hb⟩ := hrel
        obtain ⟨oa, oc, rfl⟩ := row_slice (show wr.ownsRow w4.heap.size 31 4 _ P.length (flat Ev.cells P) from ho.out)
        cases ps with
        | nil =>
          obtain ⟨pa, pc, rfl⟩ := hrp.out.slice
          cases qs with
          | nil =>
            obtain ⟨qa, qc, rfl⟩ := hrq.out.slice
            have hR : P = mergeE Sa Sb := by have := hm.out; rw [mergeE_nil, List.append_nil] at this; exact this
            have BB := Lib.hid (B4.out.trans (hb.out.mono B4.out.size))
            simp only [List.length_nil]
            by_cases hbig : 256 < P.length
            · have HE3 := Lib.hid (HE2.out.trans (if_pos (by rw [← hR]; exact hbig)))
              have g1 : decide (256 < (P.length : Int)) = true := decide_eq_true (by omega)
              clear hR HE2 hm
              go_wp2_with fail
              go_ret2
              exact ⟨none, 0, by rw [HE3.out]; rfl, by rw [HE3.out]; exact Or.inl ⟨rfl, rfl, _, _, rfl⟩, BB.out⟩
            · have HE3 := Lib.hid (HE2.out.trans (if_neg (by rw [← hR]; exact hbig)))
              have g1 : decide (256 < (P.length : Int)) = false := decide_eq_false (by omega)
              have HO2 : Hid (EVal wr (.slice oa P.length oc) P) := Reads.of_owns ho.out (by omega)
              rw [← hR] at HE3
              clear hR HE2 hm
              go_wp2_with fail
              go_ret2
              exact ⟨oa, oc, by rw [HE3.out]; rfl, by rw [HE3.out]; exact HO2.out, BB.out⟩
          | cons y qs =>
            obtain ⟨qb, qo, qc, rfl, hqc, hqlt, hq63, HQC, HQ1, HQ2⟩ := ev_head hrq.out
            have HQC2 := HQC wr hb.out
            obtain ⟨b0, b1, b2, b3⟩ := y
            obtain ⟨y0, y1, y2, y3⟩ := HQC2
            simp only at y0 y1 y2 y3
            have HR1 : Hid ((P ++ [⟨b0, b1, b2, b3⟩]) ++ mergeE [] qs = mergeE Sa Sb) := by
              show _ = _
              rw [← hm.out]; simp [mergeE]
            simp only [List.length_nil, List.length_cons] at hl ⊢
            have hqw : qb < wr.heap.size := Nat.lt_of_lt_of_le hqlt hb.out.size
            obtain ⟨a7, c7, W7, hr7, ho7, hb7⟩ := app_one ⟨b0, b1, b2, b3⟩ ho.out (by omega) hb.out.size
            have H7 : Hid (∀ ty, (Builtin.append_ #[22, 22] ty #[.slice oa P.length oc, .slice (some ⟨wr.heap.size, 0, none⟩) 1 1]).run Tryd.prog (wr.alloc (.cells #[.int .i64 b0, .string b1, .string b2, .int .i64 b3] 31)) = .ok (.slice a7 (P.length + 1) c7) W7) := hr7
            have O7 := Lib.hid ho7
            have B7 : Hid (Below w4.heap.size w4 W7) := (hb.out).trans hb7
            clear hr7 ho7 hb7
            clear HQC hm hrq
            by_cases hc1 : qc = 1
            · have HQ := Lib.hid (HQ1 hc1)
              subst hc1
              have hnil : qs = [] := List.eq_nil_of_length_eq_zero (by omega)
              subst hnil
              go_wp2_with (at_builtin; refine wpList_append_told rfl (.tmp 60) (.tmp 64) 22 rfl _ _ rfl rfl _ W7 (H7.out _) ?_)
              go_roundw
              case rel => exact ⟨[], _, _, hrp, HQ, O7, HR1, by simp <;> omega, B7⟩
              case measure => first | (simp [lenOf]; done) | (simp [lenOf]; omega)
            · have HQ := Lib.hid (HQ2 hc1)
              have hc2 : ¬ 1 = qc := fun h => hc1 h.symm
              go_wp2_with (at_builtin; refine wpList_append_told rfl (.tmp 60) (.tmp 64) 22 rfl _ _ rfl rfl _ W7 (H7.out _) ?_)
              go_roundw
              case rel => exact ⟨[], _, _, hrp, HQ, O7, HR1, by simp <;> omega, B7⟩
              case measure => first | (simp [lenOf]; done) | (simp [lenOf]; omega)
        | cons x ps =>
          cases qs with
          | nil =>
            obtain ⟨qa, qc, rfl⟩ := hrq.out.slice
            obtain ⟨pb, po, pc, rfl, hpc, hplt, hp63, HPC, HP1, HP2⟩ := ev_head hrp.out
            have HPC2 := HPC wr hb.out
            obtain ⟨a0, a1, a2, a3⟩ := x
            obtain ⟨x0, x1, x2, x3⟩ := HPC2
            simp only at x0 x1 x2 x3
            have HR1 : Hid ((P ++ [⟨a0, a1, a2, a3⟩]) ++ mergeE ps [] = mergeE Sa Sb) := by
              show _ = _
              rw [← hm.out, mergeE_nil, mergeE_nil]; simp
            simp only [List.length_nil, List.length_cons] at hl ⊢
            have hpw : pb < wr.heap.size := Nat.lt_of_lt_of_le hplt hb.out.size
            obtain ⟨a7, c7, W7, hr7, ho7, hb7⟩ := app_one ⟨a0, a1, a2, a3⟩ ho.out (by omega) hb.out.size
            have H7 : Hid (∀ ty, (Builtin.append_ #[22, 22] ty #[.slice oa P.length oc, .slice (some ⟨wr.heap.size, 0, none⟩) 1 1]).run Tryd.prog (wr.alloc (.cells #[.int .i64 a0, .string a1, .string a2, .int .i64 a3] 31)) = .ok (.slice a7 (P.length + 1) c7) W7) := hr7
            have O7 := Lib.hid ho7
            have B7 : Hid (Below w4.heap.size w4 W7) := (hb.out).trans hb7
            clear hr7 ho7 hb7
            clear HPC hm hrp
            by_cases hc1 : pc = 1
            · have HQ := Lib.hid (HP1 hc1)
              subst hc1
              have hnil : ps = [] := List.eq_nil_of_length_eq_zero (by omega)
              subst hnil
              go_wp2_with (at_builtin; refine wpList_append_told rfl (.tmp 52) (.tmp 56) 22 rfl _ _ rfl rfl _ W7 (H7.out _) ?_)
              go_roundw
              case rel => exact ⟨_, [], _, HQ, hrq, O7, HR1, by simp <;> omega, B7⟩
              case measure => first | (simp [lenOf]; done) | (simp [lenOf]; omega)
            · have HQ := Lib.hid (HP2 hc1)
              have hc2 : ¬ 1 = pc := fun h => hc1 h.symm
              go_wp2_with (at_builtin; refine wpList_append_told rfl (.tmp 52) (.tmp 56) 22 rfl _ _ rfl rfl _ W7 (H7.out _) ?_)
              go_roundw
              case rel => exact ⟨_, [], _, HQ, hrq, O7, HR1, by simp <;> omega, B7⟩
              case measure => first | (simp [lenOf]; done) | (simp [lenOf]; omega)
          | cons y qs =>
            obtain ⟨pb, po, pc, rfl, hpc, hplt, hp63, HPC, HP1, HP2⟩ := ev_head hrp.out
            obtain ⟨qb, qo, qc, rfl, hqc, hqlt, hq63, HQC, HQ1, HQ2⟩ := ev_head hrq.out
            obtain ⟨a0, a1, a2, a3⟩ := x
            obtain ⟨b0, b1, b2, b3⟩ := y
            have HST := Lib.hid (merge_step (⟨a0, a1, a2, a3⟩ :: ps) (⟨b0, b1, b2, b3⟩ :: qs) (by simp))
            simp only [cE] at HST
            have HC : Hid (∀ W, Calls Tryd.prog 19 #[.agg #[.int .i64 a0, .string a1, .string a2, .int .i64 a3], .agg #[.int .i64 b0, .string b1, .string b2, .int .i64 b3]] W fun e w' => e = .returned (.int .i64 (cmpE ⟨a0, a1, a2, a3⟩ ⟨b0, b1, b2, b3⟩)) ∧ Gro W w') := fun W => compare_c ⟨a0, a1, a2, a3⟩ ⟨b0, b1, b2, b3⟩ W
            generalize cmpE ⟨a0, a1, a2, a3⟩ ⟨b0, b1, b2, b3⟩ = C at *
            have HSB : Hid (∀ W, Below wr.heap.size wr W → (W.cell? ⟨pb, po, none⟩ = some (.int .i64 a0) ∧ W.cell? ⟨pb, po + 1, none⟩ = some (.string a1) ∧ W.cell? ⟨pb, po + 2, none⟩ = some (.string a2) ∧ W.cell? ⟨pb, po + 3, none⟩ = some (.int .i64 a3) ∧ W.cell? ⟨qb, qo, none⟩ = some (.int .i64 b0) ∧ W.cell? ⟨qb, qo + 1, none⟩ = some (.string b1) ∧ W.cell? ⟨qb, qo + 2, none⟩ = some (.string b2) ∧ W.cell? ⟨qb, qo + 3, none⟩ = some (.int .i64 b3))) := fun W hW => by
              have hh := hb.out.trans (hW.mono hb.out.size)
              obtain ⟨u0, u1, u2, u3⟩ := HPC W hh
              exact ⟨u0, u1, u2, u3, HQC W hh⟩
            have HPQ := Lib.hid (And.intro HPC HQC)
            have HPS := Lib.hid (And.intro HP1 HP2)
            have HQS := Lib.hid (And.intro HQ1 HQ2)
            have D0 : Hid (Below wr.heap.size wr wr.drew) := ⟨rfl, rfl, rfl, Nat.le_refl _, fun _ _ => rfl⟩
            simp only [List.length_cons] at hl ⊢
            clear HPC HQC HP1 HP2 HQ1 HQ2
            go_upto_block 2 with fail
            go_cut [10] from 35 to 49 (fun s wx => s = .int .i64 C ∧ Hid (Below wr.heap.size wr wx))
            case first =>
              go_upto_region 13 with fail
              go_region_held3 (fun W => (W.cell? ⟨pb, po, none⟩ = some (.int .i64 a0) ∧ W.cell? ⟨pb, po + 1, none⟩ = some (.string a1) ∧ W.cell? ⟨pb, po + 2, none⟩ = some (.string a2) ∧ W.cell? ⟨pb, po + 3, none⟩ = some (.int .i64 a3) ∧ W.cell? ⟨qb, qo, none⟩ = some (.int .i64 b0) ∧ W.cell? ⟨qb, qo + 1, none⟩ = some (.string b1) ∧ W.cell? ⟨qb, qo + 2, none⟩ = some (.string b2) ∧ W.cell? ⟨qb, qo + 3, none⟩ = some (.int .i64 b3)))
                (first
                  | exact HSB.out _ D0.out
                  | exact HSB.out _ D1.out)
                (first
                  | (go_at_call 19; ((with_reducible refine (HC.out wr.drew).mono ?_); rintro e w1 ⟨rfl, hg1⟩; have D1 := Lib.hid (belowT D0.out hg1.below); clear hg1)))
              all_goals
                go_simp
                go_wp2_with fail
                go_meet
                exact ⟨rfl, D1.out⟩
            case rest =>
              obtain ⟨rfl, hwx⟩ := hcut
              have HBC : Hid (Below w4.heap.size w4 wc) := hb.out.trans (hwx.out.mono hb.out.size)
              obtain ⟨x0, x1, x2, x3, y0, y1, y2, y3⟩ := HSB.out wc hwx.out
              have HOC : Hid (OwnE wc w4.heap.size (.slice oa P.length oc) P) := ho.out.below hwx.out
              have hpw : pb < wc.heap.size := Nat.lt_of_lt_of_le hplt HBC.out.size
              have hqw : qb < wc.heap.size := Nat.lt_of_lt_of_le hqlt HBC.out.size
              obtain ⟨HP1, HP2⟩ := HPS.out
              obtain ⟨HQ1, HQ2⟩ := HQS.out
              clear hwx HSB HC HPS HQS D0 HPQ ho
              rcases Int.lt_trichotomy C 0 with hC | hC | hC
              · obtain ⟨x, p', e1, e2⟩ := HST.out.1 hC
                injection e1 with e3 e4
                subst e3; subst e4
                have HR1 : Hid ((P ++ [⟨a0, a1, a2, a3⟩]) ++ mergeE ps (⟨b0, b1, b2, b3⟩ :: qs) = mergeE Sa Sb) := by
                  show _ = _
                  rw [← hm.out, e2]; simp
                obtain ⟨a7, c7, W7, hr7, ho7, hb7⟩ := app_one ⟨a0, a1, a2, a3⟩ HOC.out (by omega) HBC.out.size
                have H7 : Hid (∀ ty, (Builtin.append_ #[22, 22] ty #[.slice oa P.length oc, .slice (some ⟨wc.heap.size, 0, none⟩) 1 1]).run Tryd.prog (wc.alloc (.cells #[.int .i64 a0, .string a1, .string a2, .int .i64 a3] 31)) = .ok (.slice a7 (P.length + 1) c7) W7) := hr7
                have O7 := Lib.hid ho7
                have B7 : Hid (Below w4.heap.size w4 W7) := (HBC.out).trans hb7
                clear hr7 ho7 hb7
                have g1 : decide (C ≤ 0) = true := decide_eq_true (by omega)
                have g2 : decide (0 ≤ C) = false := decide_eq_false (by omega)
                clear hm hrp e2 HST
                by_cases hc1 : pc = 1
                · have HQ := Lib.hid (HP1 hc1)
                  subst hc1
                  have hnil : ps = [] := List.eq_nil_of_length_eq_zero (by omega)
                  subst hnil
                  go_wp2_with (at_builtin; refine wpList_append_told rfl (.tmp 52) (.tmp 56) 22 rfl _ _ rfl rfl _ W7 (H7.out _) ?_)
                  go_roundw
                  case rel => exact ⟨_, _ :: qs, _, HQ, hrq, O7, HR1, by simp <;> omega, B7⟩
                  case measure => first | (simp [lenOf]; done) | (simp [lenOf]; omega)
                · have HQ := Lib.hid (HP2 hc1)
                  have hc2 : ¬ 1 = pc := fun h => hc1 h.symm
                  go_wp2_with (at_builtin; refine wpList_append_told rfl (.tmp 52) (.tmp 56) 22 rfl _ _ rfl rfl _ W7 (H7.out _) ?_)
                  go_roundw
                  case rel => exact ⟨_, _ :: qs, _, HQ, hrq, O7, HR1, by simp <;> omega, B7⟩
                  case measure => first | (simp [lenOf]; done) | (simp [lenOf]; omega)
              · obtain ⟨x, p', y, q', e1, e5, e2⟩ := HST.out.2.1 hC
                injection e1 with e3 e4
                subst e3; subst e4
                injection e5 with e3 e4
                subst e3; subst e4
                subst hC
                have HR1 : Hid ((P ++ [⟨a0, a1, a2, a3⟩]) ++ mergeE ps qs = mergeE Sa Sb) := by
                  show _ = _
                  rw [← hm.out, e2]; simp
                obtain ⟨a7, c7, W7, hr7, ho7, hb7⟩ := app_one ⟨a0, a1, a2, a3⟩ HOC.out (by omega) HBC.out.size
                have H7 : Hid (∀ ty, (Builtin.append_ #[22, 22] ty #[.slice oa P.length oc, .slice (some ⟨wc.heap.size, 0, none⟩) 1 1]).run Tryd.prog (wc.alloc (.cells #[.int .i64 a0, .string a1, .string a2, .int .i64 a3] 31)) = .ok (.slice a7 (P.length + 1) c7) W7) := hr7
                have O7 := Lib.hid ho7
                have B7 : Hid (Below w4.heap.size w4 W7) := (HBC.out).trans hb7
                clear hr7 ho7 hb7
                clear hm hrq hrp e2 HST
                by_cases hd1 : qc = 1
                · have HQ5 := Lib.hid (HQ1 hd1)
                  subst hd1
                  have hnil5 : qs = [] := List.eq_nil_of_length_eq_zero (by omega)
                  subst hnil5
                  by_cases hc1 : pc = 1
                  · have HQ := Lib.hid (HP1 hc1)
                    subst hc1
                    have hnil : ps = [] := List.eq_nil_of_length_eq_zero (by omega)
                    subst hnil
                    go_wp2_with (at_builtin; refine wpList_append_told rfl (.tmp 52) (.tmp 56) 22 rfl _ _ rfl rfl _ W7 (H7.out _) ?_)
                    go_roundw
                    case rel => exact ⟨_, [], _, HQ, HQ5, O7, HR1, by simp <;> omega, B7⟩
                    case measure => first | (simp [lenOf]; done) | (simp [lenOf]; omega)
                  · have HQ := Lib.hid (HP2 hc1)
                    have hc2 : ¬ 1 = pc := fun h => hc1 h.symm
                    go_wp2_with (at_builtin; refine wpList_append_told rfl (.tmp 52) (.tmp 56) 22 rfl _ _ rfl rfl _ W7 (H7.out _) ?_)
                    go_roundw
                    case rel => exact ⟨_, [], _, HQ, HQ5, O7, HR1, by simp <;> omega, B7⟩
                    case measure => first | (simp [lenOf]; done) | (simp [lenOf]; omega)
                · have HQ5 := Lib.hid (HQ2 hd1)
                  have hd2 : ¬ 1 = qc := fun h => hd1 h.symm
                  by_cases hc1 : pc = 1
                  · have HQ := Lib.hid (HP1 hc1)
                    subst hc1
                    have hnil : ps = [] := List.eq_nil_of_length_eq_zero (by omega)
                    subst hnil
                    go_wp2_with (at_builtin; refine wpList_append_told rfl (.tmp 52) (.tmp 56) 22 rfl _ _ rfl rfl _ W7 (H7.out _) ?_)
                    go_roundw
                    case rel => exact ⟨_, qs, _, HQ, HQ5, O7, HR1, by simp <;> omega, B7⟩
                    case measure => first | (simp [lenOf]; done) | (simp [lenOf]; omega)
                  · have HQ := Lib.hid (HP2 hc1)
                    have hc2 : ¬ 1 = pc := fun h => hc1 h.symm
                    go_wp2_with (at_builtin; refine wpList_append_told rfl (.tmp 52) (.tmp 56) 22 rfl _ _ rfl rfl _ W7 (H7.out _) ?_)
                    go_roundw
                    case rel => exact ⟨_, qs, _, HQ, HQ5, O7, HR1, by simp <;> omega, B7⟩
                    case measure => first | (simp [lenOf]; done) | (simp [lenOf]; omega)
              · obtain ⟨y, q', e1, e2⟩ := HST.out.2.2 hC
                injection e1 with e3 e4
                subst e3; subst e4
                have HR1 : Hid ((P ++ [⟨b0, b1, b2, b3⟩]) ++ mergeE (⟨a0, a1, a2, a3⟩ :: ps) qs = mergeE Sa Sb) := by
                  show _ = _
                  rw [← hm.out, e2]; simp
                obtain ⟨a7, c7, W7, hr7, ho7, hb7⟩ := app_one ⟨b0, b1, b2, b3⟩ HOC.out (by omega) HBC.out.size
                have H7 : Hid (∀ ty, (Builtin.append_ #[22, 22] ty #[.slice oa P.length oc, .slice (some ⟨wc.heap.size, 0, none⟩) 1 1]).run Tryd.prog (wc.alloc (.cells #[.int .i64 b0, .string b1, .string b2, .int .i64 b3] 31)) = .ok (.slice a7 (P.length + 1) c7) W7) := hr7
                have O7 := Lib.hid ho7
                have B7 : Hid (Below w4.heap.size w4 W7) := (HBC.out).trans hb7
                clear hr7 ho7 hb7
                have g1 : decide (C ≤ 0) = false := decide_eq_false (by omega)
                have g2 : decide (0 ≤ C) = true := decide_eq_true (by omega)
                clear hm hrq e2 HST
                by_cases hc1 : qc = 1
                · have HQ := Lib.hid (HQ1 hc1)
                  subst hc1
                  have hnil : qs = [] := List.eq_nil_of_length_eq_zero (by omega)
                  subst hnil
                  go_wp2_with (at_builtin; refine wpList_append_told rfl (.tmp 60) (.tmp 64) 22 rfl _ _ rfl rfl _ W7 (H7.out _) ?_)
                  go_roundw
                  case rel => exact ⟨_ :: ps, _, _, hrp, HQ, O7, HR1, by simp <;> omega, B7⟩
                  case measure => first | (simp [lenOf]; done) | (simp [lenOf]; omega)
                · have HQ := Lib.hid (HQ2 hc1)
                  have hc2 : ¬ 1 = qc := fun h => hc1 h.symm
                  go_wp2_with (at_builtin; refine wpList_append_told rfl (.tmp 60) (.tmp 64) 22 rfl _ _ rfl rfl _ W7 (H7.out _) ?_)
                  go_roundw
                  case rel => exact ⟨_ :: ps, _, _, hrp, HQ, O7, HR1, by simp <;> omega, B7⟩
                  case measure => first | (simp [lenOf]; done) | (simp [lenOf]; omega)
    · have HE2 := Lib.hid (HE1.out.trans (if_pos hy))
      have g1 : (Tb != 0) = true := by simpa using hy
      clear HE1 hy HL2
      go_enter Tryd.func13, Tryd.ntmps13
      go_wp2_with fail
      refine HS1.out.mono ?_; rintro e w3 ⟨a, c, rfl, hv3, hb3⟩
      have B3 := Lib.hid hb3
      have HS3 := Lib.hid (HS2.out w3 hb3)
      clear hb3 hv3 HS1 HS2
      go_wp2_with fail
      refine HS3.out.mono ?_; rintro e w4 ⟨a4, c4, rfl, hv4, hb4⟩
      have B4 := Lib.hid (belowT B3.out hb4)
      clear hb4 hv4 HS3 B3
      go_wp2_with fail
      go_ret2
      exact ⟨none, 0, by rw [HE2.out]; rfl, by rw [HE2.out]; exact Or.inl ⟨rfl, rfl, _, _, rfl⟩, B4.out⟩
  · have HE1 := Lib.hid (HE.out.trans (if_pos hz))
    have g1 : (Ta != 0) = true := by simpa using hz
    clear HE hz HL1 HL2
    go_enter Tryd.func13, Tryd.ntmps13
    go_wp2_with fail
    refine HS1.out.mono ?_; rintro e w3 ⟨a, c, rfl, hv3, hb3⟩
    have B3 := Lib.hid hb3
    clear hb3 hv3 HS1 HS2
    go_wp2_with fail
    go_ret2
    exact ⟨none, 0, by rw [HE1.out]; rfl, by rw [HE1.out]; exact Or.inl ⟨rfl, rfl, _, _, rfl⟩, B3.out⟩
end Go.Proofs.YtjakhgilkogcnaaDoor
