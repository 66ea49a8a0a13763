/- balance: Boundary walked. -/
import Derived.Test.YtkpalfgnfhphjaaDoorBal6
namespace Go.Proofs.YtkpalfgnfhphjaaDoor
open Go.RowKit

theorem net_brs {n : Net} (h : netE n = 0) : n.brs.length ≤ 1000 := by
  unfold netE at h
  rcases sizes_case n.nodes.length n.sws.length n.brs.length n.gens.length n.loads.length n.stores.length with ⟨h1, h2⟩ | ⟨h1, _⟩
  · unfold SizesOk at h2
    omega
  · rw [h1, if_pos (by decide)] at h
    cases h
set_option maxRecDepth 100000 in
set_option maxHeartbeats 4000000 in
theorem boundary_c (x0 : NAddr) (n : Net) (pv : Value) (P : List ByteArray) (w : World) (hr : NetR w x0 n) (hwf : n.Wf) (hp : SVal w pv P) :
    Calls Tryd.prog 19 #[x0.val n, pv] w (BndP (bndE n P) w) := by
  have HNC := Lib.hid (fun W (hW : Below w.heap.size w W) => net_c x0 n W (hr.below hW) hwf)
  have HCN := Lib.hid (fun s W (hW : Below w.heap.size w W) => contains_c (.slice x0.na n.nodes.length x0.nc) n.nodes s W (hr.nodes.below hW))
  have hpl : P.length ≤ 9223372036854775807 := by
    rcases (show Reads w pv P.length (P.map Value.string) from hp) with ⟨h, _⟩ | ⟨_, _, _, _, _, h, _⟩ <;> omega
  obtain ⟨pa, pc, rfl⟩ := (show Reads w pv P.length (P.map Value.string) from hp).slice
  obtain ⟨m, hm⟩ : ∃ m, P.length = m := ⟨_, rfl⟩
  have HM := Lib.hid hm
  have HPV : Hid (Reads w (.slice pa m pc) m (P.map Value.string)) := by
    show Reads _ _ _ _
    have h : Reads w (.slice pa P.length pc) P.length (P.map Value.string) := hp
    rw [hm] at h; exact h
  have HCT := Lib.hid (fun s k (hk : k ≤ m) W (hW : Below w.heap.size w W) => by
    have h := contains_c (.slice pa k pc) (P.take k) s W (by
      have h2 := (SVal.take HPV.out HM.out hk).below hW
      show Reads _ _ (P.take k).length _
      rw [show (P.take k).length = k by rw [List.length_take]; omega]
      exact h2)
    exact h)
  have HCP := Lib.hid (fun s W (hW : Below w.heap.size w W) => by
    have h := HCT.out s m (Nat.le_refl _) W hW
    rw [List.take_of_length_le (by omega)] at h
    exact h)
  have hE : bndE n P = if netE n ≠ 0 then ([], netE n) else if partE n.nodes P P 0 ≠ 0 then ([], partE n.nodes P P 0) else if n.sws.any (crossS P) = true then ([], 3) else (idxL P n.brs 0, 0) := rfl
  have HBN : Hid (netE n = 0 → n.brs.length ≤ 1000) := net_brs
  have HSW := Lib.hid hr.sws
  have HBR := Lib.hid hr.brs
  have HPD : Hid (partE n.nodes P (P.drop 0) 0 = partE n.nodes P P 0) := rfl
  have HSD : Hid ((n.sws.drop 0).any (crossS P) = n.sws.any (crossS P)) := rfl
  have HBD : Hid (idxL P (n.brs.drop 0) 0 = idxL P n.brs 0) := rfl
  obtain ⟨na, nc, sa, sc, ba, bc, ga, gc, la, lc, ta, tc⟩ := x0
  obtain ⟨nl, sws, brs, gens, loads, stores⟩ := n
  simp only at *
  have HE := Lib.hid hE
  generalize bndE _ P = E at *
  generalize netE _ = NE at *
  generalize partE nl P P 0 = PE at *
  generalize sws.any (crossS P) = SE at *
  generalize idxL P brs 0 = IE at *
  have HNC : Hid (∀ W, Below w.heap.size w W → Calls Tryd.prog 44 #[.agg #[.slice na nl.length nc, .slice sa sws.length sc, .slice ba brs.length bc, .slice ga gens.length gc, .slice la loads.length lc, .slice ta stores.length tc]] W fun e w' => e = .returned (.int .i64 NE) ∧ Below W.heap.size W w') := HNC.out
  show Calls _ _ #[.agg #[.slice na nl.length nc, .slice sa sws.length sc, .slice ba brs.length bc, .slice ga gens.length gc, .slice la loads.length lc, .slice ta stores.length tc], .slice pa P.length pc] w _
  obtain ⟨nn, hnn⟩ : ∃ m, nl.length = m := ⟨_, rfl⟩
  obtain ⟨sn, hsn⟩ : ∃ m, sws.length = m := ⟨_, rfl⟩
  obtain ⟨bn, hbn⟩ : ∃ m, brs.length = m := ⟨_, rfl⟩
  have HSN := Lib.hid hsn
  have HBNN := Lib.hid hbn
  rw [hnn] at HNC HCN ⊢
  rw [hsn] at HNC HSW ⊢
  rw [hbn] at HNC HBR HBN ⊢
  rw [hm] at ⊢
  generalize gens.length = gn at *
  generalize loads.length = ln at *
  generalize stores.length = tn at *
  have B1 := Lib.hid (belowA (Below.refl w.heap.size w) (.cells #[.slice na nn nc, .slice sa sn sc, .slice ba bn bc, .slice ga gn gc, .slice la ln lc, .slice ta tn tc] 33))
  have K1 := Lib.hid (Blk.new w #[.slice na nn nc, .slice sa sn sc, .slice ba bn bc, .slice ga gn gc, .slice la ln lc, .slice ta tn tc] 33)
  have hml : m ≤ 9223372036854775807 := by omega
  clear hr hwf hp hpl hm hE hnn hsn hbn
  have y0 := K1.out.cell 0 rfl
  have y1 := K1.out.cell 1 rfl
  have y2 := K1.out.cell 2 rfl
  have y3 := K1.out.cell 3 rfl
  have y4 := K1.out.cell 4 rfl
  have y5 := K1.out.cell 5 rfl
  have hl1 := K1.out.lt
  go_enter Tryd.func19, Tryd.ntmps19
  go_upto_region 1 with fail
  generalize w.alloc (.cells #[.slice na nn nc, .slice sa sn sc, .slice ba bn bc, .slice ga gn gc, .slice la ln lc, .slice ta tn tc] 33) = w1 at *
  obtain ⟨nb, hnb⟩ : ∃ b, w.heap.size = b := ⟨_, rfl⟩
  have HNB := Lib.hid hnb
  rw [hnb] at K1 y0 y1 y2 y3 y4 y5 hl1 ⊢
  clear hnb
  by_cases hne : NE = 0
  · have HE1 : Hid (E = if PE ≠ 0 then ([], PE) else if SE = true then ([], 3) else (IE, 0)) := HE.out.trans (if_neg (fun h => h hne))
    have hbnl : bn ≤ 1000 := HBN.out hne
    subst hne
    clear HE HBN
    go_wp2_with fail
    refine (HNC.out w1 B1.out).mono ?_; rintro e w2 ⟨rfl, hb⟩
    have B2 := Lib.hid (belowT B1.out hb)
    have K2 := Lib.hid (below_blk hb K1.out K1.out.lt)
    clear hb K1 B1 y0 y1 y2 y3 y4 y5 hl1 HNC
    have y0 := K2.out.cell 0 rfl
    have y1 := K2.out.cell 1 rfl
    have y2 := K2.out.cell 2 rfl
    have hl2 := K2.out.lt
    go_wp2_with fail
    go_loopw [21] (fun i wr => ∃ k : Nat, k ≤ m ∧ i = .int .i64 k ∧ Hid (partE nl P (P.drop k) k = PE) ∧ w2 = wr) (fun i _ => m - (intOf i).toNat)
    case atStart => exact ⟨0, Nat.zero_le _, rfl, HPD.out, rfl⟩
    case round =>
      clear HPD
      obtain ⟨k, hk, rfl, he, rfl⟩ := hrel
      by_cases hlt : k < m
      · obtain ⟨b, off, cap', hvv, _, _, hbl, hc⟩ := (HPV.out.below B2.out).addr (by omega)
        simp only [Value.slice.injEq] at hvv
        obtain ⟨rfl, _, rfl⟩ := hvv
        obtain ⟨s, hs⟩ : ∃ s, P[k]? = some s := ⟨_, List.getElem?_eq_getElem (by rw [HM.out]; exact hlt)⟩
        have x0 : w2.cell? ⟨b, off + k, none⟩ = some (.string s) := hc k _ (by simp [hs])
        rw [partE_drop hs] at he
        have H1 := Lib.hid (HCN.out s w2 B2.out)
        have H2 := Lib.hid (HCT.out s k (by omega) w2 B2.out)
        generalize hasS s nl = A at *
        generalize hasS s (P.take k) = C at *
        clear hc hs
        cases A with
        | false =>
          have HE2 : Hid (PE = 6) := he.out.symm.trans (if_pos rfl)
          have HE3 : Hid (E = ([], 6)) := by show _ = _; rw [HE1.out, HE2.out]; rfl
          clear he HE1 HE2 H2
          go_wp2_with fail
          refine H1.out.mono ?_; rintro e w3 ⟨rfl, rfl⟩
          go_wp2_with fail
          go_ret2
          rw [HE3.out]; exact BndP.fail B2.out
        | true =>
          cases C with
          | true =>
            have HE2 : Hid (PE = 7) := he.out.symm.trans ((if_neg (by decide)).trans (if_pos rfl))
            have HE3 : Hid (E = ([], 7)) := by show _ = _; rw [HE1.out, HE2.out]; rfl
            clear he HE1 HE2
            go_wp2_with fail
            refine H1.out.mono ?_; rintro e w3 ⟨rfl, rfl⟩
            go_wp2_with fail
            refine H2.out.mono ?_; rintro e w3 ⟨rfl, rfl⟩
            go_wp2_with fail
            go_ret2
            rw [HE3.out]; exact BndP.fail B2.out
          | false =>
            have HE2 : Hid (partE nl P (P.drop (k + 1)) (k + 1) = PE) := by show _ = _; rw [← he.out]; rfl
            clear he
            go_wp2_with fail
            refine H1.out.mono ?_; rintro e w3 ⟨rfl, rfl⟩
            go_wp2_with fail
            refine H2.out.mono ?_; rintro e w3 ⟨rfl, rfl⟩
            go_wp2_with fail
            go_roundw
            case rel => exact ⟨k + 1, hlt, by go_num, HE2, trivial⟩
            case measure => simp [intOf]; omega
      · have hkn : P.drop k = [] := List.drop_eq_nil_of_le (by rw [HM.out]; omega)
        have HE2 : Hid (PE = 0) := by show _ = _; rw [← he.out, hkn]; rfl
        have HE3 : Hid (E = if SE = true then ([], 3) else (IE, 0)) := HE1.out.trans (if_neg (fun h => h HE2.out))
        have hkm : k = m := by omega
        subst hkm
        clear he hkn HE1 HE2 HCN HCT
        go_wp2_with fail
        go_loopw [42] (fun i wr => ∃ k : Nat, k ≤ sn ∧ i = .int .i64 k ∧ Hid ((sws.drop k).any (crossS P) = SE) ∧ Hid (Below w2.heap.size w2 wr)) (fun i _ => sn - (intOf i).toNat)
        case atStart => exact ⟨0, Nat.zero_le _, rfl, HSD.out, Below.refl _ _⟩
        case round =>
          clear HSD
          obtain ⟨k, hk, rfl, he, hb⟩ := hrel
          by_cases hlt : k < sn
          · obtain ⟨b, off, cap', hvv, _, _, hbl, hc⟩ := (HSW.out.below (belowT B2.out hb.out)).addr (by omega)
            simp only [Value.slice.injEq] at hvv
            obtain ⟨rfl, _, rfl⟩ := hvv
            obtain ⟨x, hx⟩ : ∃ x, sws[k]? = some x := ⟨_, List.getElem?_eq_getElem (by rw [HSN.out]; exact hlt)⟩
            rw [any_drop hx] at he
            obtain ⟨c0, c1, c2, c3, c4⟩ := sw_cells hc hx
            obtain ⟨xn, xa, xb, xk, xo⟩ := x
            simp only at c0 c1 c2 c3 c4
            have HCA := Lib.hid (fun W hW => HCP.out xa W hW)
            have HCB := Lib.hid (fun W hW => HCP.out xb W hW)
            have hcr : crossS P ⟨xn, xa, xb, xk, xo⟩ = (!xo && (hasS xa P != hasS xb P)) := rfl
            rw [hcr] at he
            generalize hasS xa P = A at *
            generalize hasS xb P = C at *
            have B6 := Lib.hid (hb.out.alloc hb.out.size (.cells #[.string xn, .string xa, .string xb, .bool xk, .bool xo] 87))
            have K6 := Lib.hid (Blk.new wr #[.string xn, .string xa, .string xb, .bool xk, .bool xo] 87)
            clear hc hx hcr hb
            go_upto_region 15 with fail
            generalize wr.alloc (.cells #[.string xn, .string xa, .string xb, .bool xk, .bool xo] 87) = w6 at *
            generalize wr.heap.size = p6 at *
            have z1 := K6.out.cell 1 rfl
            have z2 := K6.out.cell 2 rfl
            have z4 := K6.out.cell 4 rfl
            have hl6 := K6.out.lt
            have hs2 : w2.heap.size ≤ w6.heap.size := B6.out.size
            clear c0 c1 c2 c3 c4
            cases xo with
            | true =>
              have HE4 : Hid ((sws.drop (k + 1)).any (crossS P) = SE) := by show _ = _; rw [← he.out]; simp
              clear he
              refine wp_region_quiet_lit (by kernel_rfl) (by kernel_rfl) ?_
              repeat (first | go_big_quiet_step (fail) | (go_big_quiet_want; go_simp; go_big_quiet_on))
              refine wpQuiet_nil ?_
              intro _ hw'
              obtain ⟨nq, hw''⟩ := hw'
              subst hw''
              go_wp2_with fail
              go_roundw
              case rel => exact ⟨k + 1, hlt, by go_num, HE4, below_drewN B6.out _⟩
              case measure => simp [intOf]; omega
            | false =>
              have HS0 : Hid (w6.drew.cell? ⟨p6, 1, none⟩ = some (.string xa) ∧ w6.drew.cell? ⟨p6, 2, none⟩ = some (.string xb) ∧ w6.drew.cell? ⟨p6, 4, none⟩ = some (.bool false)) := ⟨z1, z2, z4⟩
              have BW : Hid (Below w.heap.size w w6.drew) := belowT B2.out (B6.out.trans ((below_drew0 w6.heap.size w6).mono B6.out.size))
              have HA1 := Lib.hid (HCA.out w6.drew BW.out)
              have HB1 := Lib.hid (HCB.out w6.drew BW.out)
              have BD : Hid (Below w2.heap.size w2 w6.drew) := B6.out.trans ((below_drew0 w6.heap.size w6).mono hs2)
              go_region_held3 (fun W => (W.cell? ⟨p6, 1, none⟩ = some (.string xa) ∧ W.cell? ⟨p6, 2, none⟩ = some (.string xb) ∧ W.cell? ⟨p6, 4, none⟩ = some (.bool false)))
                (with_reducible exact HS0.out)
                (first
                  | (go_at_call 33; ((with_reducible refine HA1.out.mono ?_); rintro e w7 ⟨rfl, rfl⟩))
                  | (go_at_call 33; ((with_reducible refine HB1.out.mono ?_); rintro e w7 ⟨rfl, rfl⟩)))
              all_goals
                go_simp
              all_goals
                cases A <;> cases C
              all_goals
                first
                | (have HE4 : Hid ((sws.drop (k + 1)).any (crossS P) = SE) := (by show _ = _; rw [← he.out]; simp; done)
                   clear he
                   go_wp2_with fail
                   go_roundw
                   case rel => exact ⟨k + 1, hlt, by go_num, HE4, BD.out⟩
                   case measure => simp [intOf]; omega)
                | (have HE4 : Hid (SE = true) := (by show _ = _; rw [← he.out]; simp; done)
                   have HE5 : Hid (E = ([], 3)) := HE3.out.trans (if_pos HE4.out)
                   clear he HE3 HE4
                   go_wp2_with fail
                   go_ret2
                   rw [HE5.out]; exact BndP.fail BW.out)
          · have hkn : sws.drop k = [] := List.drop_eq_nil_of_le (by rw [HSN.out]; omega)
            have HE4 : Hid (SE = false) := by show _ = _; rw [← he.out, hkn]; rfl
            have HE5 : Hid (E = (IE, 0)) := HE3.out.trans (if_neg (by rw [HE4.out]; decide))
            have hks : k = sn := by omega
            subst hks
            have kr := below_blk hb.out K2.out K2.out.lt
            have K3 := Lib.hid kr
            have B3 := Lib.hid (belowT B2.out hb.out)
            clear y0 y1 y2 hl2
            have y2 := kr.cell 2 rfl
            have hl3 := kr.lt
            clear he hkn HE3 HE4 kr hb
            go_wp2_with fail
            go_loopw [64, 11] (fun i ov wq => ∃ (k : Nat) (out : List Int), k ≤ bn ∧ i = .int .i64 k ∧ out.length ≤ k ∧ Hid (out ++ idxL P (brs.drop k) k = IE) ∧ Hid (IO nb wq ov out) ∧ Hid (Below w.heap.size w wq)) (fun i _ _ => bn - (intOf i).toNat)
            case atStart => exact ⟨0, [], Nat.zero_le _, rfl, Nat.le_refl _, by rw [List.nil_append]; exact HBD.out, ⟨rfl, Or.inl ⟨rfl, rfl⟩⟩, B3.out⟩
            case round =>
              clear HBD
              obtain ⟨k, out, hk, rfl, hol, he, ho, hb⟩ := hrel
              obtain ⟨oa, oc, rfl⟩ := row_slice (show World.ownsRow _ nb 3 1 _ out.length (ints out) from ho.out)
              by_cases hlt : k < bn
              · obtain ⟨b, off, cap', hvv, _, _, hbl, hc⟩ := (HBR.out.below hb.out).addr (by omega)
                simp only [Value.slice.injEq] at hvv
                obtain ⟨rfl, _, rfl⟩ := hvv
                obtain ⟨x, hx⟩ : ∃ x, brs[k]? = some x := ⟨_, List.getElem?_eq_getElem (by rw [HBNN.out]; exact hlt)⟩
                rw [idxL_drop hx] at he
                obtain ⟨c0, c1, c2, c3, c4, c5, c6, c7, c8⟩ := br_cells hc hx
                obtain ⟨b0, b1, b2, b3, b4, b5, b6, b7, b8⟩ := x
                simp only at c0 c1 c2 c3 c4 c5 c6 c7 c8
                have HCA := Lib.hid (fun W hW => HCP.out b1 W hW)
                have HCB := Lib.hid (fun W hW => HCP.out b2 W hW)
                have hcr : crossB P ⟨b0, b1, b2, b3, b4, b5, b6, b7, b8⟩ = (hasS b1 P != hasS b2 P) := rfl
                rw [hcr] at he
                generalize hasS b1 P = A at *
                generalize hasS b2 P = C at *
                have B6 := Lib.hid (hb.out.alloc hb.out.size (.cells #[.string b0, .string b1, .string b2, .int .i64 b3, .int .i64 b4, .int .i64 b5, .int .i64 b6, .int .i64 b7, .int .i64 b8] 78))
                have O6 := Lib.hid (ownsRow_below ho.out (belowA (Below.refl _ _) (.cells #[.string b0, .string b1, .string b2, .int .i64 b3, .int .i64 b4, .int .i64 b5, .int .i64 b6, .int .i64 b7, .int .i64 b8] 78)))
                have K6 := Lib.hid (Blk.new wr #[.string b0, .string b1, .string b2, .int .i64 b3, .int .i64 b4, .int .i64 b5, .int .i64 b6, .int .i64 b7, .int .i64 b8] 78)
                clear hc hx hcr hb ho
                go_upto_region 22 with fail
                generalize wr.alloc (.cells #[.string b0, .string b1, .string b2, .int .i64 b3, .int .i64 b4, .int .i64 b5, .int .i64 b6, .int .i64 b7, .int .i64 b8] 78) = w6 at *
                generalize wr.heap.size = p6 at *
                have z1 := K6.out.cell 1 rfl
                have z2 := K6.out.cell 2 rfl
                have hl6 := K6.out.lt
                clear c0 c1 c2 c3 c4 c5 c6 c7 c8
                have HS0 : Hid (w6.drew.cell? ⟨p6, 1, none⟩ = some (.string b1) ∧ w6.drew.cell? ⟨p6, 2, none⟩ = some (.string b2)) := ⟨z1, z2⟩
                have BW : Hid (Below w.heap.size w w6.drew) := B6.out.trans ((below_drew0 w6.heap.size w6).mono B6.out.size)
                have HA1 := Lib.hid (HCA.out w6.drew BW.out)
                have HB1 := Lib.hid (HCB.out w6.drew BW.out)
                have OD : Hid (IO nb w6.drew (.slice oa out.length oc) out) := O6.out
                clear O6 B6
                go_region_held3 (fun W => (W.cell? ⟨p6, 1, none⟩ = some (.string b1) ∧ W.cell? ⟨p6, 2, none⟩ = some (.string b2)))
                  (with_reducible exact HS0.out)
                  (first
                    | (go_at_call 33; ((with_reducible refine HA1.out.mono ?_); rintro e w7 ⟨rfl, rfl⟩))
                    | (go_at_call 33; ((with_reducible refine HB1.out.mono ?_); rintro e w7 ⟨rfl, rfl⟩)))
                all_goals
                  go_simp
                all_goals
                  generalize w6.drew = w7 at *
                  cases A <;> cases C
                all_goals
                  first
                  | (have HE4 : Hid (out ++ idxL P (brs.drop (k + 1)) (k + 1) = IE) := (by show _ = _; rw [← he.out]; simp; done)
                     clear he
                     go_wp2_with fail
                     go_roundw
                     case rel => exact ⟨k + 1, out, hlt, by go_num, by omega, HE4, OD, BW⟩
                     case measure => simp [intOf]; omega)
                  | (have HE4 : Hid ((out ++ [(k : Int)]) ++ idxL P (brs.drop (k + 1)) (k + 1) = IE) := (by
                       show _ = _
                       rw [← he.out, List.append_assoc]; simp; done)
                     have hge : nb ≤ w7.heap.size := (by have := HNB.out; have := BW.out.size; omega)
                     obtain ⟨v9, W9, hr9, ho9, hb9⟩ := (show IO nb (w7.alloc (.cells #[.int .i64 (k : Int)] 3)) (.slice oa out.length oc) out from ownsRow_below OD.out (belowA (Below.refl _ _) _)).app (by rw [World.size_alloc]; omega) (Blk.new w7 #[.int .i64 (k : Int)] 3) (by omega)
                     have H9 : Hid (∀ ty, (Builtin.append_ #[53, 53] ty #[.slice oa out.length oc, .slice (some ⟨w7.heap.size, 0, none⟩) 1 1]).run Tryd.prog (w7.alloc (.cells #[.int .i64 (k : Int)] 3)) = .ok v9 W9) := hr9
                     have O9 := Lib.hid ho9
                     have B9 : Hid (Below w.heap.size w W9) := (by
                       have h1 := BW.out.alloc BW.out.size (.cells #[.int .i64 (k : Int)] 3)
                       have h2 := HNB.out
                       rw [← h2] at hb9
                       exact h1.trans hb9)
                     clear he hr9 ho9 hb9 BW OD HS0 HA1 HB1
                     go_wp2_with (at_builtin; refine wpList_append_told rfl (.tmp 78) (.tmp 80) 53 rfl _ _ rfl rfl _ W9 (H9.out _) ?_)
                     go_roundw
                     case rel => exact ⟨k + 1, out ++ [(k : Int)], hlt, by go_num, by simp; omega, HE4, O9, B9⟩
                     case measure => simp [intOf]; omega)
              · have hkn : brs.drop k = [] := List.drop_eq_nil_of_le (by rw [HBNN.out]; omega)
                have HE6 : Hid (E = (out, 0)) := by
                  show _ = _
                  rw [HE5.out, ← he.out, hkn]
                  show (out ++ [], (0 : Int)) = _
                  rw [List.append_nil]
                have HV6 := Lib.hid (Reads.of_owns (show World.ownsRow _ nb 3 1 (.slice oa out.length oc) out.length (ints out) from ho.out) (by omega))
                clear he hkn ho HE5
                go_wp2_with fail
                go_ret2
                rw [HE6.out]; exact ⟨oa, oc, rfl, HV6.out, hb.out⟩
  · have HE1 : Hid (E = ([], NE)) := HE.out.trans (if_pos hne)
    have g1 : (NE != 0) = true := by simpa using hne
    clear HE hne
    go_wp2_with fail
    refine (HNC.out w1 B1.out).mono ?_; rintro e w2 ⟨rfl, hb⟩
    have B2 := Lib.hid (belowT B1.out hb)
    clear hb
    go_wp2_with fail
    go_ret2
    rw [HE1.out]; exact BndP.fail B2.out
end Go.Proofs.YtkpalfgnfhphjaaDoor
