/- The law JournalGroups walked. -/
import Derived.Test.YtjakhgilkogcnaaDoorJr16
import Derived.BigQuiet
namespace Go.Proofs.YtjakhgilkogcnaaDoor
open Go.RowKit

set_option maxHeartbeats 4000000 in
theorem lawJrGroups_c (v : Value) (l : List Ev) (gap : Int) (w : World) (hv : EVal w v l) (hw : Hid (∀ x ∈ l, x.Wf)) (ht : Pow w) :
    Calls Tryd.prog 3 #[v, .int .i64 gap] w fun e w' => e = .returned (.bool true) ∧ Below w.heap.size w w' := by
  obtain ⟨va, vc, rfl⟩ := (show Reads w v l.length (flat Ev.cells l) from hv).slice
  have HW := Lib.hid (works_c w ht)
  have HF := Lib.hid (fun W (hW : Below w.heap.size w W) => groups_c (.slice va l.length vc) l gap W (hv.below hW) hw)
  have HS := Lib.hid (fun W (hW : Below w.heap.size w W) => sorted_c (.slice va l.length vc) l W (hv.below hW) hw)
  have HL := Lib.hid (groups_law l gap)
  generalize l.length = n at *
  obtain ⟨p, hP⟩ : ∃ p, groupsE l gap = p := ⟨_, rfl⟩
  obtain ⟨q, hQ⟩ : ∃ q, sortedE l = q := ⟨_, rfl⟩
  rw [hP, hQ] at HL
  rw [hP] at HF
  rw [hQ] at HS
  obtain ⟨S, T⟩ := q
  clear hP hQ hv ht
  rcases HL.out with ⟨er, rfl, her⟩ | ⟨gs, S', rfl, hq, hfl, hok, hsn, hst, hg0, hg1⟩
  · have g1 : (er != 0) = true := by simpa using her
    clear HL her
    go_enter Tryd.func3, Tryd.ntmps3
    go_wp2_with fail
    refine HW.out.mono ?_; rintro e w2 ⟨rfl, hb2⟩
    have HB2 := Lib.hid hb2
    have HF3 := Lib.hid (HF.out w2 hb2)
    clear hb2 HF HW
    go_wp2_with fail
    refine HF3.out.mono ?_; rintro e w3 ⟨gv, rfl, ⟨hs, _, hr, _⟩, hb3⟩
    obtain ⟨ga, gc, rfl⟩ := hr.slice
    have HB3 := Lib.hid (belowT HB2.out hb3)
    have HS4 := Lib.hid (HS.out w3 HB3.out)
    clear hb3 HF3 HB2 hr HS
    go_wp2_with fail
    refine HS4.out.mono ?_; rintro e w4 ⟨a, c, rfl, hv4, hb4⟩
    have HB4 := Lib.hid (belowT HB3.out hb4)
    clear hb4 hv4 HS4 HB3
    go_wp2_with fail
    go_ret
    exact ⟨rfl, HB4.out⟩
  · obtain rfl : S = S' := congrArg Prod.fst hq
    obtain rfl : T = 0 := congrArg Prod.snd hq
    have HFL := Lib.hid hfl
    have HOK := Lib.hid hok
    have HSN := Lib.hid hsn
    have HST := Lib.hid hst
    clear HL hq hfl hok hsn hst
    go_enter Tryd.func3, Tryd.ntmps3
    go_wp2_with fail
    refine HW.out.mono ?_; rintro e w2 ⟨rfl, hb2⟩
    have HB2 := Lib.hid hb2
    have HF3 := Lib.hid (HF.out w2 hb2)
    clear hb2 HF HW
    go_wp2_with fail
    refine HF3.out.mono ?_; rintro e w3 ⟨gv, rfl, ⟨hs, hhl, hr, hin⟩, hb3⟩
    obtain ⟨ga, gc, rfl⟩ := hr.slice
    have HB3 := Lib.hid (belowT HB2.out hb3)
    have HS4 := Lib.hid (HS.out w3 HB3.out)
    have HR3 := Lib.hid hr
    have HI3 := Lib.hid hin
    have HHL := Lib.hid hhl
    clear hb3 HF3 HB2 hr HS hin hhl
    have hmb : gs.length ≤ 9223372036854775807 := by
      rcases HR3.out with ⟨h, _⟩ | ⟨_, _, _, _, _, h, _⟩ <;> omega
    obtain ⟨m, hM⟩ : ∃ m, gs.length = m := ⟨_, rfl⟩
    rw [hM] at HR3 hmb ⊢
    have HM := Lib.hid hM
    clear hM
    go_wp2_with fail
    refine HS4.out.mono ?_; rintro e w4 ⟨a, c, rfl, hv4, hb4⟩
    have HB4 := Lib.hid (belowT HB3.out hb4)
    have HR4 := Lib.hid (HR3.out.below hb4)
    have HI4 : Hid (∀ (i : Nat) (h : Value) (l : List Ev), hs[i]? = some h → gs[i]? = some l → Reads w4 h l.length (flat Ev.cells l)) := fun i h l h1 h2 => (HI3.out i h l h1 h2).below hb4
    have HV4 : Hid (EVal w4 (.slice a S.length c) S) := hv4
    obtain ⟨sn, hsn⟩ : ∃ x, S.length = x := ⟨_, rfl⟩
    rw [hsn] at HV4 ⊢
    have HSL := Lib.hid hsn
    clear hsn hb4 hv4 HS4 HB3 HR3 HI3
    go_wp2_with fail
    go_loopw [33, 9] (fun i av wr => ∃ k : Nat, k ≤ m ∧ i = .int .i64 k ∧ Hid (OwnE wr w4.heap.size av (gs.take k).flatten) ∧ Hid (Below w4.heap.size w4 wr)) (fun i _ _ => m - (intOf i).toNat)
    case atStart => exact ⟨0, Nat.zero_le _, rfl, OwnE.nil _ _, Below.refl _ _⟩
    case round =>
      obtain ⟨k, hk, rfl, HO, hb⟩ := hrel
      by_cases hlt : k < m
      · obtain ⟨u, hu⟩ : ∃ u, hs[k]? = some u := ⟨_, List.getElem?_eq_getElem (by rw [HHL.out, HM.out]; exact hlt)⟩
        obtain ⟨L, hL⟩ : ∃ L, gs[k]? = some L := ⟨_, List.getElem?_eq_getElem (by rw [HM.out]; exact hlt)⟩
        obtain ⟨hL0, hL1, hP2, hP1, hLT, hPT, hPos⟩ := grp_step HFL.out HSN.out HOK.out HST.out hL
        obtain ⟨hin, hou⟩ := HOK.out.law k L hL
        obtain ⟨g', off, cap', hvv, _, _, _, hcc⟩ := (HR4.out.below hb.out).addr (by omega)
        simp only [Value.slice.injEq] at hvv
        obtain ⟨rfl, _, rfl⟩ := hvv
        have cu := hcc k u hu
        have hlr := (HI4.out k u L hu hL).below hb.out
        obtain ⟨b2, off2, cap2, rfl, _, _, _, hlc⟩ := hlr.addr hL0
        have HLR := Lib.hid hlr
        have HLC := Lib.hid hlc
        have HLT := Lib.hid hLT
        have HIN := Lib.hid hin
        have HP1 := Lib.hid hP1
        have HP2 := Lib.hid hP2
        obtain ⟨x0, hx0⟩ : ∃ y, L[0]? = some y := ⟨_, List.getElem?_eq_getElem hL0⟩
        have d0 : wr.cell? ⟨b2, off2, none⟩ = some (.int .i64 x0.t) := by have := (ev_cells HLC.out hx0).1; simpa using this
        have t0 := HLT.out x0 (List.mem_of_getElem? hx0)
        obtain ⟨ln, hln⟩ : ∃ ln, L.length = ln := ⟨_, rfl⟩
        have HLL := Lib.hid hln
        rw [hln] at hL0 hL1 HLR cu
        have g0 : ((ln : Int) == 0) = false := by rw [beq_eq_false_iff_ne]; omega
        clear hlr hlc hLT hin hP1 hP2 hcc hln
        rcases Nat.eq_zero_or_pos k with hk0 | hk0
        · have g3 : decide ((0 : Int) < (k : Int)) = false := decide_eq_false (by omega)
          have g4 : decide (0 < k) = false := decide_eq_false (by omega)
          clear hx0 hou hk0
          go_wp2_with fail
          go_quiet (fail)
          go_wp2_with fail
          have HBW : Hid (Below w4.heap.size w4 wr) := hb.out
          clear hu hL
          go_loopw [12] (fun i wq => ∃ j nq' : Nat, j + 1 ≤ ln ∧ i = .int .i64 ((j + 1 : Nat) : Int) ∧ wq = wr.drewN nq') (fun i _ => ln - (intOf i).toNat)
          case atStart => exact ⟨0, _, by omega, rfl, rfl⟩
          case round =>
            obtain ⟨j, nj, hj, rfl, rfl⟩ := hrel
            by_cases hjl : j + 1 < ln
            · obtain ⟨xa, hxa⟩ : ∃ y, L[j]? = some y := ⟨_, List.getElem?_eq_getElem (by rw [HLL.out]; omega)⟩
              obtain ⟨xb, hxb⟩ : ∃ y, L[j + 1]? = some y := ⟨_, List.getElem?_eq_getElem (by rw [HLL.out]; omega)⟩
              have ca : wr.cell? ⟨b2, off2 + j * 4, none⟩ = some (.int .i64 xa.t) := (ev_cells HLC.out hxa).1
              have cb : wr.cell? ⟨b2, off2 + (j + 1) * 4, none⟩ = some (.int .i64 xb.t) := (ev_cells HLC.out hxb).1
              have ga := HLT.out xa (List.mem_of_getElem? hxa)
              have gb := HLT.out xb (List.mem_of_getElem? hxb)
              have gg := HIN.out j xa xb hxa hxb
              clear hxa hxb
              generalize xa.t = ta at *
              generalize xb.t = tb at *
              have g7 : decide (gap < tb - ta) = false := decide_eq_false (by omega)
              clear gg
              go_wp2_with fail
              go_quiet (fail)
              go_wp2_with fail
              go_roundw
              case rel => exact ⟨j + 1, _, by omega, by go_num, rfl⟩
              case measure => simp [intOf]; omega
            · obtain ⟨a7, c7, W7, hr7, ho7, hb7⟩ := app_reads (HO.out.drewN nj) (show Reads (wr.drewN nj) (.slice (some ⟨b2, off2, none⟩) ln cap2) L.length (flat Ev.cells L) from by rw [HLL.out]; exact HLR.out.below (below_drewN (Below.refl _ _) nj)) (by rw [HLL.out]; omega) HP2.out (show w4.heap.size ≤ (wr.drewN nj).heap.size from HBW.out.size)
              obtain ⟨pl, hpl⟩ : ∃ x, ((gs.take k).flatten ++ L).length = x := ⟨_, rfl⟩
              rw [hpl] at hr7 ho7
              clear hpl
              have H7 := Lib.hid hr7
              have O7 := Lib.hid ho7
              have B7 : Hid (Below w4.heap.size w4 W7) := (below_drewN HBW.out nj).trans hb7
              clear hr7 ho7 hb7
              go_wp2_with (at_builtin; refine wpList_append_told rfl (.tmp 81) (.tmp 82) 22 rfl _ _ rfl rfl _ W7 (H7.out _) ?_)
              go_roundw
              case rel => exact ⟨k + 1, hlt, by go_num, by rw [HP1.out]; exact O7, B7⟩
              case measure => simp [intOf]; omega
        · have g3 : decide ((0 : Int) < (k : Int)) = true := decide_eq_true (by omega)
          obtain ⟨g6, off6, c6, z, hav, hz, cz⟩ := HO.out.last (by have := HP2.out; omega) (hPos hk0)
          subst hav
          have g4 := hou x0 z hx0 hz
          have tz := hPT z (List.mem_of_getLast? hz)
          have hp0 := hPos hk0
          obtain ⟨pn, hpn⟩ : ∃ pn, (gs.take k).flatten.length = pn + 1 := ⟨(gs.take k).flatten.length - 1, by omega⟩
          rw [hpn] at cz ⊢
          have HPN := Lib.hid hpn
          have hpb : pn + 1 ≤ 256 := by rw [← hpn]; have := HP2.out; omega
          have hpl : (pn : Int) < (pn : Int) + 1 := by omega
          simp only [Nat.add_sub_cancel] at cz
          clear hx0 hou hz hPT hPos hp0 hpn
          generalize x0.t = tx at *
          generalize z.t = tz' at *
          have g5 : decide (tx - tz' ≤ gap) = false := decide_eq_false (by omega)
          go_wp2_with fail
          go_quiet (fail)
          go_wp2_with fail
          have HBW : Hid (Below w4.heap.size w4 wr) := hb.out
          clear hu hL
          go_loopw [12] (fun i wq => ∃ j nq' : Nat, j + 1 ≤ ln ∧ i = .int .i64 ((j + 1 : Nat) : Int) ∧ wq = wr.drewN nq') (fun i _ => ln - (intOf i).toNat)
          case atStart => exact ⟨0, _, by omega, rfl, rfl⟩
          case round =>
            obtain ⟨j, nj, hj, rfl, rfl⟩ := hrel
            by_cases hjl : j + 1 < ln
            · obtain ⟨xa, hxa⟩ : ∃ y, L[j]? = some y := ⟨_, List.getElem?_eq_getElem (by rw [HLL.out]; omega)⟩
              obtain ⟨xb, hxb⟩ : ∃ y, L[j + 1]? = some y := ⟨_, List.getElem?_eq_getElem (by rw [HLL.out]; omega)⟩
              have ca : wr.cell? ⟨b2, off2 + j * 4, none⟩ = some (.int .i64 xa.t) := (ev_cells HLC.out hxa).1
              have cb : wr.cell? ⟨b2, off2 + (j + 1) * 4, none⟩ = some (.int .i64 xb.t) := (ev_cells HLC.out hxb).1
              have ga := HLT.out xa (List.mem_of_getElem? hxa)
              have gb := HLT.out xb (List.mem_of_getElem? hxb)
              have gg := HIN.out j xa xb hxa hxb
              clear hxa hxb
              generalize xa.t = ta at *
              generalize xb.t = tb at *
              have g7 : decide (gap < tb - ta) = false := decide_eq_false (by omega)
              clear gg
              go_wp2_with fail
              go_quiet (fail)
              go_wp2_with fail
              go_roundw
              case rel => exact ⟨j + 1, _, by omega, by go_num, rfl⟩
              case measure => simp [intOf]; omega
            · obtain ⟨a7, c7, W7, hr7, ho7, hb7⟩ := app_reads (HO.out.drewN nj) (show Reads (wr.drewN nj) (.slice (some ⟨b2, off2, none⟩) ln cap2) L.length (flat Ev.cells L) from by rw [HLL.out]; exact HLR.out.below (below_drewN (Below.refl _ _) nj)) (by rw [HLL.out]; omega) HP2.out (show w4.heap.size ≤ (wr.drewN nj).heap.size from HBW.out.size)
              rw [HPN.out] at hr7
              obtain ⟨pl, hpl⟩ : ∃ x, ((gs.take k).flatten ++ L).length = x := ⟨_, rfl⟩
              rw [hpl] at hr7 ho7
              clear hpl
              have H7 := Lib.hid hr7
              have O7 := Lib.hid ho7
              have B7 : Hid (Below w4.heap.size w4 W7) := (below_drewN HBW.out nj).trans hb7
              clear hr7 ho7 hb7
              go_wp2_with (at_builtin; refine wpList_append_told rfl (.tmp 81) (.tmp 82) 22 rfl _ _ rfl rfl _ W7 (H7.out _) ?_)
              go_roundw
              case rel => exact ⟨k + 1, hlt, by go_num, by rw [HP1.out]; exact O7, B7⟩
              case measure => simp [intOf]; omega
      · have hkm : k = m := by omega
        have hall : (gs.take k).flatten = S := by rw [hkm, ← HM.out, List.take_length]; exact HFL.out
        have HO2 := HO.out
        rw [hall] at HO2
        obtain ⟨a2, c2, rfl⟩ := row_slice (show wr.ownsRow w4.heap.size 31 4 _ S.length (flat Ev.cells S) from HO2)
        have HSE := sameEv_c (.slice a2 S.length c2) (.slice a S.length c) S S wr (Reads.of_owns HO2 (by have := HSN.out; omega)) (by have := HV4.out.below hb.out; rw [← HSL.out] at this; exact this)
        rw [HSL.out] at HSE ⊢
        have HSE2 := Lib.hid HSE
        clear hkm hall HO HO2 HSE
        go_wp2_with fail
        refine HSE2.out.mono ?_; rintro e w8 ⟨rfl, hb8⟩
        have HB8 := Lib.hid (belowT (HB4.out.trans (hb.out.mono HB4.out.size)) hb8)
        clear hb8
        go_wp2_with fail
        go_ret
        exact ⟨by simp, HB8.out⟩
end Go.Proofs.YtjakhgilkogcnaaDoor
