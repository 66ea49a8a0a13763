/- The law BalanceParts walked. -/
import Derived.Test.YtkpalfgnfhphjaaDoorBal12
namespace Go.Proofs.YtkpalfgnfhphjaaDoor
open Go.RowKit

/-- An own list of strings. -/
def OT (base : Nat) (W : World) (v : Value) (l : List ByteArray) : Prop := W.ownsRow base 9 1 v l.length (l.map Value.string)
theorem infoT : (Tryd.prog.info? 9).map (fun i => (i.zero, i.size, i.bytes)) = some (some (.string ByteArray.empty), 1, 16) := by kernel_rfl
theorem OT.app {base : Nat} {W : World} {v : Value} {l : List ByteArray} {s : ByteArray} {xb : Nat} (h : OT base W v l) (hb : base ≤ W.heap.size) (hx : Blk W xb #[.string s] 9) (hl : l.length ≤ 100000) :
    ∃ v' W', (∀ ty, (Builtin.append_ #[26, 26] ty #[v, .slice (some ⟨xb, 0, none⟩) 1 1]).run Tryd.prog W = .ok v' W') ∧ OT base W' v' (l ++ [s]) ∧ Below base W W' := by
  obtain ⟨i0, hi0, hz0, hz1, hz2⟩ := info_parts infoT
  have key := fun ty => run_append_own (P := Tryd.prog) W base 26 ty 9 i0 _ 1 16 Tryd.underlying26 hi0 hz0 hz1 hz2 rfl (by decide) v l.length (l.map Value.string) h ⟨xb, 0, none⟩ 1 1 [.string s] rfl
    (fun j u hj => by rw [add_z]; exact hx.cell j (by rw [← Array.getElem?_toList]; exact hj)) (fun u hu => by rw [List.mem_singleton] at hu; subst hu; rfl) (by unfold maxLen; omega) (by omega) hb
  obtain ⟨v', w', a1, a2, a3, _⟩ := key 0
  refine ⟨v', w', fun ty => a1, ?_, Below.grown ⟨rfl, rfl, rfl, Nat.le_refl _, fun _ _ => rfl⟩ a3 hb (fun k e => row_own h k e)⟩
  unfold OT
  rw [List.length_append, List.map_append]; exact a2
theorem rest_take {nl P : List ByteArray} {k : Nat} {s : ByteArray} (h : nl[k]? = some s) : restP (nl.take (k + 1)) P = restP (nl.take k) P ++ if hasS s P = true then [] else [s] := by
  obtain ⟨hk, hx⟩ := List.getElem?_eq_some_iff.1 h
  unfold restP
  rw [List.take_succ_eq_append_getElem hk, hx, List.filter_append]
  cases h2 : hasS s P <;> simp [h2]
set_option maxRecDepth 100000 in
set_option maxHeartbeats 4000000 in
theorem lawBalParts_c (x0 : NAddr) (n : Net) (pv fv : Value) (P l : List ByteArray) (w : World) (hr : NetR w x0 n) (hwf : n.Wf) (hp : SVal w pv P) (hv : SVal w fv l) (hz : ∀ s ∈ l, s.size ≤ 9223372036854775807) :
    Calls Tryd.prog 4 #[x0.val n, pv, fv] w fun e w' => e = .returned (.bool true) ∧ Below w.heap.size w w' := by
  have HW := Lib.hid (fun W => works_c W)
  have HEN := Lib.hid (fun W (hW : Below w.heap.size w W) pv' P' (h : SVal W pv' P') => enter_c x0 n pv' fv P' l W (hr.below hW) hwf h (hv.below hW) hz)
  have HPV := Lib.hid hp
  have HHT := Lib.hid (fun s W (hW : Below w.heap.size w W) => hasText_c pv P s W (hp.below hW))
  have HND := Lib.hid hr.nodes
  by_cases hX : entX n P l = 0
  · obtain ⟨hb1, hl1, ha1⟩ := ent_ok hX
    have hnn : n.nodes.length ≤ 24 := (netE_ok2 (bnd_parts hb1).1).nn
    obtain ⟨qs, rfl, hf⟩ := allE_ok ha1
    have hfit : ∀ q ∈ entQ n P qs, FitQ q := entQ_fit hf (by rw [← hl1]; simp [txts])
    have HE1 : Hid (∀ W, Below w.heap.size w W → Calls Tryd.prog 10 #[x0.val n, pv, fv] W (EntP (txts (entQ n P qs), 0) W)) := fun W hW => (HEN.out W hW pv P (HPV.out.below hW)).mono fun e w' h => h.2 qs hX rfl hf
    have HE2 : Hid (∀ W rv, Below w.heap.size w W → SVal W rv (restP n.nodes P) → Calls Tryd.prog 10 #[x0.val n, rv, fv] W (EntP (txts ((entQ n P qs).map fun x => -x), 0) W)) := fun W rv hW h => (HEN.out W hW rv _ h).mono fun e w' h => by
      have := h.2 qs (ent_rest hX) rfl hf
      rwa [entQ_rest hX] at this
    have HPL : Hid (∀ q ∈ entQ n P qs, ∀ W, Calls Tryd.prog 12 #[.string (bs (ratT q)), .string (bs (ratT (-q)))] W fun e w' => e = .returned (.string ⟨#[48]⟩) ∧ Below W.heap.size W w') := fun q hq W => by
      have h := plus_c q (-q) W (hfit q hq) (hfit q hq).neg
      rw [show q + -q = 0 from Rat.add_neg_cancel q, show toldE 0 = (bs (ratT 0), 0) from if_pos fit_zero, ratT_zero.2 rfl] at h
      exact h
    have g9 : ((⟨#[48]⟩ : ByteArray).toList == [48]) = true := by rw [tl48]; simp
    obtain ⟨Q, hQ⟩ : ∃ Q, entQ n P qs = Q := ⟨_, rfl⟩
    rw [hQ] at HE1 HE2 HPL
    generalize txts qs = lt at *
    obtain ⟨na, nc, sa, sc, ba, bc, ga, gc, la, lc, ta, tc⟩ := x0
    obtain ⟨nl, sws, brs, gens, loads, stores⟩ := n
    simp only at *
    obtain ⟨pa, pc, rfl⟩ := (show Reads w pv P.length (P.map Value.string) from hp).slice
    obtain ⟨fa, fc, rfl⟩ := (show Reads w fv lt.length (lt.map Value.string) from hv).slice
    have HE1 : Hid (∀ W, Below w.heap.size w W → Calls Tryd.prog 10 #[.agg #[.slice na nl.length nc, .slice sa sws.length sc, .slice ba brs.length bc, .slice ga gens.length gc, .slice la loads.length lc, .slice ta stores.length tc], .slice pa P.length pc, .slice fa lt.length fc] W (EntP (txts Q, 0) W)) := HE1.out
    have HE2 : Hid (∀ W rv, Below w.heap.size w W → SVal W rv (restP nl P) → Calls Tryd.prog 10 #[.agg #[.slice na nl.length nc, .slice sa sws.length sc, .slice ba brs.length bc, .slice ga gens.length gc, .slice la loads.length lc, .slice ta stores.length tc], rv, .slice fa lt.length fc] W (EntP (txts (Q.map fun x => -x), 0) W)) := HE2.out
    show Calls _ _ #[.agg #[.slice na nl.length nc, .slice sa sws.length sc, .slice ba brs.length bc, .slice ga gens.length gc, .slice la loads.length lc, .slice ta stores.length tc], .slice pa P.length pc, .slice fa lt.length fc] w _
    clear HEN HPV hr hwf hp hv hz hX hb1 hl1 ha1 hf hfit hQ
    obtain ⟨nn, hnl⟩ : ∃ m, nl.length = m := ⟨_, rfl⟩
    have HNL := Lib.hid hnl
    rw [hnl] at HND HE1 HE2 hnn ⊢
    generalize sws.length = sn at *
    generalize brs.length = bn at *
    generalize gens.length = gn at *
    generalize loads.length = ln at *
    generalize stores.length = tn at *
    generalize P.length = pn at *
    generalize lt.length = fl at *
    clear hnl
    have B1 := Lib.hid (belowA (Below.refl w.heap.size w) (.cells #[.slice na nn nc, .slice sa sn sc, .slice ba bn bc, .slice ga gn gc, .slice la ln lc, .slice ta tn tc] 33))
    have K1 := Lib.hid (Blk.new w #[.slice na nn nc, .slice sa sn sc, .slice ba bn bc, .slice ga gn gc, .slice la ln lc, .slice ta tn tc] 33)
    go_enter Tryd.func4, Tryd.ntmps4
    go_upto_region 1 with fail
    generalize w.alloc (.cells #[.slice na nn nc, .slice sa sn sc, .slice ba bn bc, .slice ga gn gc, .slice la ln lc, .slice ta tn tc] 33) = w1 at *
    obtain ⟨nb, hnb⟩ : ∃ b, w.heap.size = b := ⟨_, rfl⟩
    have HNB := Lib.hid hnb
    rw [hnb] at K1 ⊢
    clear hnb
    go_wp2_with fail
    refine (HW.out w1).mono ?_; rintro e w2 ⟨rfl, hb⟩
    have B2 := Lib.hid (belowT B1.out hb)
    have K2 := Lib.hid (below_blk hb K1.out K1.out.lt)
    clear hb K1 B1 HW
    have y0 := K2.out.cell 0 rfl
    have y1 := K2.out.cell 1 rfl
    have y2 := K2.out.cell 2 rfl
    have y3 := K2.out.cell 3 rfl
    have y4 := K2.out.cell 4 rfl
    have y5 := K2.out.cell 5 rfl
    have hl2 := K2.out.lt
    go_wp2_with fail
    refine (HE1.out w2 B2.out).mono ?_; rintro e w3 ⟨ea, ec, rfl, hsv, hb⟩
    have B3 := Lib.hid (belowT B2.out hb)
    have K3 := Lib.hid (below_blk hb K2.out K2.out.lt)
    obtain ⟨ql, hql⟩ : ∃ k, (txts Q).length = k := ⟨_, rfl⟩
    have HQL := Lib.hid hql
    have V3 : Hid (Reads w3 (.slice ea ql ec) ql ((txts Q).map Value.string)) := by
      show Reads _ _ _ _
      have h : Reads w3 (.slice ea (txts Q).length ec) (txts Q).length ((txts Q).map Value.string) := hsv
      rw [hql] at h; exact h
    rw [show ((txts Q, (0 : Int)).1).length = ql from hql]
    clear hb hsv K2 B2 y0 y1 y2 y3 y4 y5 hl2 HE1 hql
    have y0 := K3.out.cell 0 rfl
    have hl3 := K3.out.lt
    go_wp2_with fail
    go_loopw [32, 9] (fun i ov wr => ∃ k : Nat, k ≤ nn ∧ i = .int .i64 k ∧ Hid (OT w3.heap.size wr ov (restP (nl.take k) P)) ∧ Hid (Below w3.heap.size w3 wr)) (fun i _ _ => nn - (intOf i).toNat)
    case atStart => exact ⟨0, Nat.zero_le _, rfl, ⟨rfl, Or.inl ⟨rfl, rfl⟩⟩, Below.refl _ _⟩
    case round =>
      obtain ⟨k, hk, rfl, ho, hb⟩ := hrel
      obtain ⟨oa, oc, rfl⟩ := row_slice (show World.ownsRow _ w3.heap.size 9 1 _ (restP (nl.take k) P).length ((restP (nl.take k) P).map Value.string) from ho.out)
      have hol : (restP (nl.take k) P).length ≤ 24 := by
        have h1 : (restP (nl.take k) P).length ≤ (nl.take k).length := List.length_filter_le _ _
        rw [List.length_take, HNL.out] at h1
        omega
      obtain ⟨m, hm⟩ : ∃ m, (restP (nl.take k) P).length = m := ⟨_, rfl⟩
      have HMM := Lib.hid hm
      have HO : Hid (World.ownsRow wr w3.heap.size 9 1 (.slice oa m oc) m ((restP (nl.take k) P).map Value.string)) := by
        have h := ho.out
        unfold OT at h
        rw [hm] at h
        exact h
      rw [hm] at hol ⊢
      clear ho hm
      have BW := Lib.hid (belowT B3.out hb.out)
      by_cases hlt : k < nn
      · obtain ⟨b, off, cap', hvv, _, _, hbl, hc⟩ := (HND.out.below BW.out).addr (by omega)
        simp only [Value.slice.injEq] at hvv
        obtain ⟨rfl, _, rfl⟩ := hvv
        obtain ⟨s, hs⟩ : ∃ s, nl[k]? = some s := ⟨_, List.getElem?_eq_getElem (by rw [HNL.out]; exact hlt)⟩
        have x0 : wr.cell? ⟨b, off + k, none⟩ = some (.string s) := hc k _ (by simp [strs, hs])
        have HRT : Hid (restP (nl.take (k + 1)) P = restP (nl.take k) P ++ if hasS s P = true then [] else [s]) := rest_take hs
        have HH := Lib.hid (HHT.out s wr BW.out)
        generalize hasS s P = A at *
        clear hc hs
        go_wp2_with fail
        refine HH.out.mono ?_; rintro e w5 ⟨rfl, hb5⟩
        have B5 := Lib.hid (hb.out.trans (hb5.mono hb.out.size))
        have O5 := Lib.hid (ownsRow_below HO.out hb5)
        clear hb5 HH HO hb x0
        cases A with
        | true =>
          have HR2 : Hid (restP (nl.take (k + 1)) P = restP (nl.take k) P) := by show _ = _; rw [HRT.out, if_pos rfl, List.append_nil]
          go_wp2_with fail
          go_roundw
          case rel => exact ⟨k + 1, hlt, by go_num, by rw [HR2.out]; show World.ownsRow _ _ _ 1 _ _ _; rw [HMM.out]; exact O5.out, B5.out⟩
          case measure => simp [intOf]; omega
        | false =>
          have HR2 : Hid (restP (nl.take (k + 1)) P = restP (nl.take k) P ++ [s]) := by show _ = _; rw [HRT.out, if_neg (by decide)]
          have B6 := B5.out.alloc B5.out.size (.cells #[.string s] 9)
          have O6 : OT w3.heap.size (w5.alloc (.cells #[.string s] 9)) (.slice oa m oc) (restP (nl.take k) P) := by
            unfold OT
            rw [HMM.out]
            exact ownsRow_below O5.out (belowA (Below.refl _ _) _)
          obtain ⟨v9, W9, hr9, ho9, hb9⟩ := O6.app B6.size (Blk.new w5 _ _) (by rw [HMM.out]; omega)
          have H9 : Hid (∀ ty, (Builtin.append_ #[26, 26] ty #[.slice oa m oc, .slice (some ⟨w5.heap.size, 0, none⟩) 1 1]).run Tryd.prog (w5.alloc (.cells #[.string s] 9)) = .ok v9 W9) := hr9
          have O9 := Lib.hid ho9
          have B9 := Lib.hid (B6.trans hb9)
          clear hr9 ho9 hb9 O6 B6 O5 B5
          go_wp2_with (at_builtin; refine wpList_append_told rfl (.tmp 40) (.tmp 42) 26 rfl _ _ rfl rfl _ W9 (H9.out _) ?_)
          go_roundw
          case rel => exact ⟨k + 1, hlt, by go_num, by rw [HR2.out]; exact O9.out, B9.out⟩
          case measure => simp [intOf]; omega
      · obtain rfl : k = nn := by omega
        have hT : nl.take k = nl := List.take_of_length_le (by rw [HNL.out]; exact Nat.le_refl _)
        have hRV : SVal wr (.slice oa m oc) (restP nl P) := by
          have h := HO.out
          rw [hT] at h
          have hm2 := HMM.out
          rw [hT] at hm2
          show Reads _ _ (restP nl P).length _
          rw [hm2]
          exact Reads.of_owns h (by omega)
        have kr := below_blk hb.out K3.out K3.out.lt
        have HEN2 := Lib.hid (HE2.out wr _ BW.out hRV)
        have V4 := Lib.hid (V3.out.below hb.out)
        clear y0 hl3
        have y0 := kr.cell 0 rfl
        have y1 := kr.cell 1 rfl
        have y2 := kr.cell 2 rfl
        have y3 := kr.cell 3 rfl
        have y4 := kr.cell 4 rfl
        have y5 := kr.cell 5 rfl
        have hlr := kr.lt
        clear HO hT hRV kr HE2 V3 hb
        go_wp2_with fail
        refine HEN2.out.mono ?_; rintro e w6 ⟨ma, mc, rfl, hsv, hb6⟩
        have B6 := Lib.hid (belowT BW.out hb6)
        have V6 := Lib.hid (V4.out.below hb6)
        have hml : (txts (Q.map fun x => -x)).length = ql := by rw [← HQL.out]; simp [txts]
        have U6 : Hid (Reads w6 (.slice ma ql mc) ql ((txts (Q.map fun x => -x)).map Value.string)) := by
          show Reads _ _ _ _
          have h : Reads w6 (.slice ma (txts (Q.map fun x => -x)).length mc) (txts (Q.map fun x => -x)).length ((txts (Q.map fun x => -x)).map Value.string) := hsv
          rw [hml] at h; exact h
        rw [show ((txts (Q.map fun x => -x), (0 : Int)).1).length = ql from hml]
        have hqQ : Q.length = ql := by have := HQL.out; simpa [txts] using this
        have HQQ := Lib.hid hqQ
        have hqb : ql ≤ 9223372036854775807 := by
          rcases (show Reads w6 (.slice ea ql ec) ql ((txts Q).map Value.string) from V6.out) with ⟨h, _⟩ | ⟨_, _, _, _, _, h, _⟩ <;> omega
        clear hb6 hsv HEN2 V4 hml hqQ y0 y1 y2 y3 y4 y5 hlr
        go_wp2_with fail
        go_loopw [63] (fun i wq => ∃ j : Nat, j ≤ ql ∧ i = .int .i64 j ∧ Hid (Below w6.heap.size w6 wq)) (fun i _ => ql - (intOf i).toNat)
        case atStart => exact ⟨0, Nat.zero_le _, rfl, Below.refl _ _⟩
        case round =>
          obtain ⟨j, hj, rfl, hb⟩ := hrel
          by_cases hjl : j < ql
          · obtain ⟨b1, off1, cap1, hvv, _, _, hbl1, h1⟩ := (V6.out.below hb.out).addr (by omega)
            simp only [Value.slice.injEq] at hvv
            obtain ⟨rfl, _, rfl⟩ := hvv
            obtain ⟨b2, off2, cap2, hvv, _, _, hbl2, h2⟩ := (U6.out.below hb.out).addr (by omega)
            simp only [Value.slice.injEq] at hvv
            obtain ⟨rfl, _, rfl⟩ := hvv
            obtain ⟨q, hq⟩ : ∃ q, Q[j]? = some q := ⟨_, List.getElem?_eq_getElem (by rw [HQQ.out]; exact hjl)⟩
            have x1 : wr.cell? ⟨b1, off1 + j, none⟩ = some (.string (bs (ratT q))) := h1 j _ (txts_get hq)
            have x2 : wr.cell? ⟨b2, off2 + j, none⟩ = some (.string (bs (ratT (-q)))) := h2 j _ (txts_get (by simp [hq]))
            have HPX := Lib.hid (HPL.out q (List.mem_of_getElem? hq))
            generalize bs (ratT q) = T1 at *
            generalize bs (ratT (-q)) = T2 at *
            have E0 := Lib.hid (below_drew0 wr.heap.size wr)
            have HSC : Hid (∀ W, Below wr.heap.size wr W → (W.cell? ⟨b1, off1 + j, none⟩ = some (.string T1) ∧ W.cell? ⟨b2, off2 + j, none⟩ = some (.string T2))) := fun W hW => ⟨(hW.cell (p := ⟨b1, off1 + j, none⟩) hbl1).trans x1, (hW.cell (p := ⟨b2, off2 + j, none⟩) hbl2).trans x2⟩
            clear h1 h2 hq
            go_upto_region 19 with fail
            go_region_held3 (fun W => (W.cell? ⟨b1, off1 + j, none⟩ = some (.string T1) ∧ W.cell? ⟨b2, off2 + j, none⟩ = some (.string T2)))
              (first
                | with_reducible exact HSC.out _ E0.out
                | with_reducible exact HSC.out _ E1.out)
              (first
                | (go_at_call 12; ((with_reducible refine (HPX.out _).mono ?_); rintro e w7 ⟨rfl, hb7⟩; have E1 := Lib.hid (belowT E0.out hb7); clear hb7)))
            all_goals
              go_simp
              have B7 := Lib.hid (hb.out.trans (E1.out.mono hb.out.size))
              clear HSC E0 E1 x1 x2 hb
              go_wp2_with fail
              go_roundw
              case rel => exact ⟨j + 1, hjl, by go_num, B7.out⟩
              case measure => simp [intOf]; omega
          · go_wp2_with fail
            go_ret
            exact ⟨rfl, belowT B6.out hb.out⟩
  · have HE1 : Hid (∀ W, Below w.heap.size w W → Calls Tryd.prog 10 #[x0.val n, pv, fv] W (EntP ([], entX n P l) W)) := fun W hW => (HEN.out W hW pv P (HPV.out.below hW)).mono fun e w' h => h.1 hX
    obtain ⟨X, hXe⟩ : ∃ x, entX n P l = x := ⟨_, rfl⟩
    rw [hXe] at HE1 hX
    have g1 : (X != 0) = true := by simpa using hX
    obtain ⟨na, nc, sa, sc, ba, bc, ga, gc, la, lc, ta, tc⟩ := x0
    obtain ⟨nl, sws, brs, gens, loads, stores⟩ := n
    simp only at *
    obtain ⟨pa, pc, rfl⟩ := (show Reads w pv P.length (P.map Value.string) from hp).slice
    obtain ⟨fa, fc, rfl⟩ := (show Reads w fv l.length (l.map Value.string) from hv).slice
    have HE1 : Hid (∀ W, Below w.heap.size w W → Calls Tryd.prog 10 #[.agg #[.slice na nl.length nc, .slice sa sws.length sc, .slice ba brs.length bc, .slice ga gens.length gc, .slice la loads.length lc, .slice ta stores.length tc], .slice pa P.length pc, .slice fa l.length fc] W (EntP ([], X) W)) := HE1.out
    show Calls _ _ #[.agg #[.slice na nl.length nc, .slice sa sws.length sc, .slice ba brs.length bc, .slice ga gens.length gc, .slice la loads.length lc, .slice ta stores.length tc], .slice pa P.length pc, .slice fa l.length fc] w _
    clear HEN HPV HHT HND hr hwf hp hv hz hX hXe
    generalize nl.length = nn at *
    generalize sws.length = sn at *
    generalize brs.length = bn at *
    generalize gens.length = gn at *
    generalize loads.length = ln at *
    generalize stores.length = tn at *
    generalize P.length = pn at *
    generalize l.length = fl at *
    have B1 := Lib.hid (belowA (Below.refl w.heap.size w) (.cells #[.slice na nn nc, .slice sa sn sc, .slice ba bn bc, .slice ga gn gc, .slice la ln lc, .slice ta tn tc] 33))
    have K1 := Lib.hid (Blk.new w #[.slice na nn nc, .slice sa sn sc, .slice ba bn bc, .slice ga gn gc, .slice la ln lc, .slice ta tn tc] 33)
    go_enter Tryd.func4, Tryd.ntmps4
    go_upto_region 1 with fail
    generalize w.alloc (.cells #[.slice na nn nc, .slice sa sn sc, .slice ba bn bc, .slice ga gn gc, .slice la ln lc, .slice ta tn tc] 33) = w1 at *
    obtain ⟨nb, hnb⟩ : ∃ b, w.heap.size = b := ⟨_, rfl⟩
    have HNB := Lib.hid hnb
    rw [hnb] at K1 ⊢
    clear hnb
    go_wp2_with fail
    refine (HW.out w1).mono ?_; rintro e w2 ⟨rfl, hb⟩
    have B2 := Lib.hid (belowT B1.out hb)
    have K2 := Lib.hid (below_blk hb K1.out K1.out.lt)
    clear hb K1 B1 HW
    have y0 := K2.out.cell 0 rfl
    have y1 := K2.out.cell 1 rfl
    have y2 := K2.out.cell 2 rfl
    have y3 := K2.out.cell 3 rfl
    have y4 := K2.out.cell 4 rfl
    have y5 := K2.out.cell 5 rfl
    have hl2 := K2.out.lt
    go_wp2_with fail
    refine (HE1.out w2 B2.out).mono ?_; rintro e w3 ⟨ea, ec, rfl, hsv, hb⟩
    have B3 := Lib.hid (belowT B2.out hb)
    clear hb hsv
    go_wp2_with fail
    go_ret
    exact ⟨by simp, B3.out⟩
end Go.Proofs.YtkpalfgnfhphjaaDoor
