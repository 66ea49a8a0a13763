/- balance: Entering. -/
import Derived.Test.YtkpalfgnfhphjaaDoorBal7
namespace Go.Proofs.YtkpalfgnfhphjaaDoor
open Go.RowKit

/-- What enters a part through a branch. -/
def sgQ (P : List ByteArray) (brs : List NBr) (qs : List Rat) (k : Int) : Rat :=
  match brs[k.toNat]? with
  | some b => if hasS b.fr P = true then -(qs.getD k.toNat 0) else qs.getD k.toNat 0
  | none => 0
def entQ (n : Net) (P : List ByteArray) (qs : List Rat) : List Rat := (idxL P n.brs 0).map (sgQ P n.brs qs)
theorem idxL_mem {P : List ByteArray} : ∀ (l : List NBr) (j : Nat), ∀ k ∈ idxL P l j, ∃ i : Nat, k = ((j + i : Nat) : Int) ∧ i < l.length
  | [], _, k, h => by cases h
  | b :: l, j, k, h => by
    unfold idxL at h
    split at h
    · rcases List.mem_cons.1 h with rfl | h
      · exact ⟨0, rfl, by simp⟩
      · obtain ⟨i, e, hi⟩ := idxL_mem l (j + 1) k h
        exact ⟨i + 1, by rw [e]; congr 1; omega, by simp; omega⟩
    · obtain ⟨i, e, hi⟩ := idxL_mem l (j + 1) k h
      exact ⟨i + 1, by rw [e]; congr 1; omega, by simp; omega⟩
theorem entQ_fit {n : Net} {P : List ByteArray} {qs : List Rat} (hf : ∀ q ∈ qs, FitQ q) (hl : qs.length = n.brs.length) : ∀ q ∈ entQ n P qs, FitQ q := by
  intro q hq
  obtain ⟨k, hk, rfl⟩ := List.mem_map.1 hq
  obtain ⟨i, rfl, hi⟩ := idxL_mem _ _ k hk
  rw [Nat.zero_add]
  unfold sgQ
  rw [Int.toNat_natCast, List.getElem?_eq_getElem hi]
  have h : FitQ (qs.getD i 0) := by
    rw [List.getD_eq_getElem?_getD, List.getElem?_eq_getElem (by omega)]
    exact hf _ (List.getElem_mem _)
  show FitQ (if hasS n.brs[i].fr P = true then -(qs.getD i 0) else qs.getD i 0)
  split
  · exact h.neg
  · exact h
theorem idxL_len {P : List ByteArray} : ∀ (l : List NBr) (j : Nat), (idxL P l j).length ≤ l.length
  | [], _ => Nat.le_refl _
  | b :: l, j => by
    unfold idxL
    have := idxL_len (P := P) l (j + 1)
    split <;> simp <;> omega
theorem txts_inj : ∀ {a b : List Rat}, txts a = txts b → a = b
  | [], [], _ => rfl
  | [], _ :: _, h => by cases h
  | _ :: _, [], h => by cases h
  | x :: xs, y :: ys, h => by
    injection h with h1 h2
    rw [ratT_inj (bs_inj h1), txts_inj h2]
/-- Entries and an error, as Entering returns them. -/
def EntP (r : List ByteArray × Int) (w : World) (e : Ending) (w' : World) : Prop :=
  ∃ a c, e = .returned (.tuple #[.slice a r.1.length c, .int .i64 r.2]) ∧ SVal w' (.slice a r.1.length c) r.1 ∧ Below w.heap.size w w'
theorem EntP.fail {w w' : World} {er : Int} (h : Below w.heap.size w w') : EntP ([], er) w (.returned (.tuple #[.slice none 0 0, .int .i64 er])) w' :=
  ⟨none, 0, rfl, Or.inl ⟨rfl, rfl, none, 0, rfl⟩, h⟩
/-- The error of Entering. -/
def entX (n : Net) (P : List ByteArray) (l : List ByteArray) : Int :=
  if (bndE n P).2 ≠ 0 then (bndE n P).2 else if l.length ≠ n.brs.length then 3 else allE l
set_option maxRecDepth 100000 in
set_option maxHeartbeats 4000000 in
theorem enter_c (x0 : NAddr) (n : Net) (pv fv : Value) (P l : List ByteArray) (w : World) (hr : NetR w x0 n) (hwf : n.Wf) (hp : SVal w pv P) (hv : SVal w fv l) (hsz : Hid (∀ s ∈ l, s.size ≤ 9223372036854775807)) :
    Calls Tryd.prog 10 #[x0.val n, pv, fv] w fun e w' => (entX n P l ≠ 0 → EntP ([], entX n P l) w e w') ∧ (∀ qs, entX n P l = 0 → l = txts qs → (∀ q ∈ qs, FitQ q) → EntP (txts (entQ n P qs), 0) w e w') := by
  have HBND := Lib.hid (fun W (hW : Below w.heap.size w W) => boundary_c x0 n pv P W (hr.below hW) hwf (hp.below hW))
  have HCK := Lib.hid (fun W (hW : Below w.heap.size w W) => checkAll_c fv l W (hv.below hW) hsz)
  have HCP := Lib.hid (fun s W (hW : Below w.heap.size w W) => contains_c pv P s W (hp.below hW))
  obtain ⟨pa, pc, rfl⟩ := (show Reads w pv P.length (P.map Value.string) from hp).slice
  obtain ⟨fa, fc, rfl⟩ := (show Reads w fv l.length (l.map Value.string) from hv).slice
  have hX : entX n P l = if (bndE n P).2 ≠ 0 then (bndE n P).2 else if l.length ≠ n.brs.length then 3 else allE l := rfl
  have HBN : Hid ((bndE n P).2 = 0 → n.brs.length ≤ 1000 ∧ (bndE n P).1 = idxL P n.brs 0) := by
    intro h0
    unfold bndE at h0 ⊢
    split at h0
    · rename_i h1; exact absurd h0 h1
    · rename_i h1
      rw [if_neg h1]
      split at h0
      · rename_i h2; exact absurd h0 h2
      · rename_i h2
        rw [if_neg h2]
        split at h0
        · cases h0
        · rename_i h3
          rw [if_neg h3]
          exact ⟨net_brs (Decidable.not_not.1 h1), rfl⟩
  have HBR := Lib.hid hr.brs
  have HQ : Hid (∀ qs, entQ n P qs = (idxL P n.brs 0).map (sgQ P n.brs qs)) := fun qs => rfl
  have HQF := Lib.hid (fun qs (hf : ∀ q ∈ qs, FitQ q) (hl : qs.length = n.brs.length) => entQ_fit (n := n) (P := P) hf hl)
  obtain ⟨⟨L, er⟩, hLE⟩ : ∃ r, bndE n P = r := ⟨_, rfl⟩
  rw [hLE] at HBND hX HBN
  obtain ⟨na, nc, sa, sc, ba, bc, ga, gc, la, lc, ta, tc⟩ := x0
  obtain ⟨nl, sws, brs, gens, loads, stores⟩ := n
  simp only at *
  show Calls _ _ #[.agg #[.slice na nl.length nc, .slice sa sws.length sc, .slice ba brs.length bc, .slice ga gens.length gc, .slice la loads.length lc, .slice ta stores.length tc], .slice pa P.length pc, .slice fa l.length fc] w _
  have HBND2 : Hid (∀ W, Below w.heap.size w W → Calls Tryd.prog 19 #[.agg #[.slice na nl.length nc, .slice sa sws.length sc, .slice ba brs.length bc, .slice ga gens.length gc, .slice la loads.length lc, .slice ta stores.length tc], .slice pa P.length pc] W (BndP (L, er) W)) := HBND.out
  have HX := Lib.hid hX
  generalize entX _ P l = X at *
  obtain ⟨bn, hbn⟩ : ∃ m, brs.length = m := ⟨_, rfl⟩
  obtain ⟨fl, hfl⟩ : ∃ m, l.length = m := ⟨_, rfl⟩
  have HBNN := Lib.hid hbn
  have HFL := Lib.hid hfl
  have HFV : Hid (Reads w (.slice fa fl fc) fl (l.map Value.string)) := by
    show Reads _ _ _ _
    have h : Reads w (.slice fa l.length fc) l.length (l.map Value.string) := hv
    rw [hfl] at h; exact h
  rw [hbn] at HBR HBN HBND2 HX ⊢
  rw [hfl] at HCK HX ⊢
  clear HBND hX hLE hr hwf hp hv hsz hbn hfl
  generalize nl.length = nn at *
  generalize sws.length = sn at *
  generalize gens.length = gn at *
  generalize loads.length = ln at *
  generalize stores.length = tn at *
  generalize P.length = pn at *
  have B1 := Lib.hid (belowA (Below.refl w.heap.size w) (.cells #[.slice na nn nc, .slice sa sn sc, .slice ba bn bc, .slice ga gn gc, .slice la ln lc, .slice ta tn tc] 33))
  have K1 := Lib.hid (Blk.new w #[.slice na nn nc, .slice sa sn sc, .slice ba bn bc, .slice ga gn gc, .slice la ln lc, .slice ta tn tc] 33)
  have y0 := K1.out.cell 0 rfl
  have y1 := K1.out.cell 1 rfl
  have y2 := K1.out.cell 2 rfl
  have y3 := K1.out.cell 3 rfl
  have y4 := K1.out.cell 4 rfl
  have y5 := K1.out.cell 5 rfl
  have hl1 := K1.out.lt
  by_cases he : er = 0
  · obtain ⟨hbnl, hLI⟩ := HBN.out he
    subst he
    have HX1 : Hid (X = if fl ≠ bn then 3 else allE l) := HX.out.trans (if_neg (fun h => h rfl))
    have HLI : Hid (L = idxL P brs 0) := hLI
    clear HX HBN hLI
    by_cases hlen : fl = bn
    · have hlen2 := hlen.symm
      subst hlen2
      have HX2 : Hid (X = allE l) := HX1.out.trans (if_neg (fun h => h rfl))
      clear HX1 hlen
      by_cases ha : allE l = 0
      · have HX3 : Hid (X = 0) := HX2.out.trans ha
        obtain ⟨qs, hlq, hfq⟩ := allE_ok ha
        rw [ha] at HCK
        clear ha HX2
        go_enter Tryd.func10, Tryd.ntmps10
        go_upto_region 1 with fail
        generalize w.alloc (.cells #[.slice na nn nc, .slice sa sn sc, .slice ba bn bc, .slice ga gn gc, .slice la ln lc, .slice ta tn tc] 33) = w1 at *
        obtain ⟨nb, hnb⟩ : ∃ b, w.heap.size = b := ⟨_, rfl⟩
        have HNB := Lib.hid hnb
        rw [hnb] at K1 y0 y1 y2 y3 y4 y5 hl1 ⊢
        clear hnb
        go_wp2_with fail
        refine (HBND2.out w1 B1.out).mono ?_; rintro e w2 ⟨La, Lc, rfl, hLV, hb⟩
        have B2 := Lib.hid (belowT B1.out hb)
        have K2 := Lib.hid (below_blk hb K1.out K1.out.lt)
        have V2 := Lib.hid hLV
        have HC2 := Lib.hid (HCK.out w2 B2.out)
        clear hb hLV HBND2 HCK y0 y1 y2 y3 y4 y5 hl1 K1 B1
        have y2 := K2.out.cell 2 rfl
        have hl2 := K2.out.lt
        go_wp2_with fail
        refine HC2.out.mono ?_; rintro e w3 ⟨rfl, hb⟩
        have B3 := Lib.hid (belowT B2.out hb)
        have K3 := Lib.hid (below_blk hb K2.out K2.out.lt)
        have V3 := Lib.hid (Reads.below (show Reads w2 (.slice La L.length Lc) L.length (ints L) from V2.out) hb)
        clear hb y2 hl2 K2 B2 V2 HC2
        obtain ⟨ll, hll⟩ : ∃ k, L.length = k := ⟨_, rfl⟩
        have HLL := Lib.hid hll
        rw [hll] at V3 ⊢
        have HLB : Hid (ll ≤ 1000) := by
          show _ ≤ _
          have h1 := idxL_len (P := P) brs 0
          have h2 := HLL.out
          rw [HLI.out] at h2
          have := HBNN.out
          omega
        have HIN := Lib.hid (fun (q : Rat) (h : q ∈ qs) W => rin_c q W (hfq q h))
        have HNEG := Lib.hid (fun g vn vd (q : Rat) W (h : QC W g vn vd q) => neg_c g vn vd q W h)
        have hql : qs.length = bn := by
          have h1 := HFL.out
          rw [hlq] at h1
          simpa [txts] using h1
        have HQL := Lib.hid hql
        have HLT := Lib.hid hlq
        have HQE : Hid (L.map (sgQ P brs qs) = entQ ⟨nl, sws, brs, gens, loads, stores⟩ P qs) := by
          show _ = _
          rw [HQ.out qs, HLI.out]
        have hqf := HQF.out qs hfq (by rw [HBNN.out]; exact hql)
        have hqlen : (L.map (sgQ P brs qs)).length = ll := by rw [List.length_map]; exact HLL.out
        have HOUT := Lib.hid (fun v W (hv : QsV W v (L.map (sgQ P brs qs))) => vout_c v (L.map (sgQ P brs qs)) W hv (by rw [HQE.out]; exact hqf) (by rw [hqlen]; have := HLB.out; omega))
        rw [hqlen] at HOUT
        have HFIN : Hid (∀ qs', l = txts qs' → txts (entQ ⟨nl, sws, brs, gens, loads, stores⟩ P qs') = txts (L.map (sgQ P brs qs))) := fun qs' h => by
          have : qs' = qs := txts_inj (h.symm.trans HLT.out)
          rw [this, HQE.out]
        have hlln : ll ≤ 1000 := HLB.out
        clear hll hlq hfq hql hqf hqlen HQF HQ HQE
        have y2 := K3.out.cell 2 rfl
        have hl3 := K3.out.lt
        go_wp2_with fail
        go_loopw [37, 11] (fun i ov wr => ∃ j : Nat, j ≤ ll ∧ i = .int .i64 j ∧ Hid (QO w3.heap.size wr ov ((L.take j).map (sgQ P brs qs))) ∧ Hid (Below w3.heap.size w3 wr)) (fun i _ _ => ll - (intOf i).toNat)
        case atStart => exact ⟨0, Nat.zero_le _, rfl, QO.nil _ _, Below.refl _ _⟩
        case round =>
          obtain ⟨j, hj, rfl, ho, hb⟩ := hrel
          have hjl : ((L.take j).map (sgQ P brs qs)).length = j := by rw [List.length_map, List.length_take, HLL.out]; omega
          obtain ⟨oa, oc, rfl⟩ := ho.out.slice
          rw [hjl] at ho ⊢
          have HJL := Lib.hid hjl
          have BW := Lib.hid (belowT B3.out hb.out)
          by_cases hlt : j < ll
          · obtain ⟨b, off, cap', hvv, _, _, hbl, hc⟩ := (V3.out.below hb.out).addr (by omega)
            simp only [Value.slice.injEq] at hvv
            obtain ⟨rfl, _, rfl⟩ := hvv
            obtain ⟨k', hk'⟩ : ∃ x, L[j]? = some x := ⟨_, List.getElem?_eq_getElem (by rw [HLL.out]; exact hlt)⟩
            have x0 : wr.cell? ⟨b, off + j, none⟩ = some (.int .i64 k') := hc j _ (by simp [ints, hk'])
            obtain ⟨i, hki, hi⟩ := idxL_mem brs 0 k' (by rw [← HLI.out]; exact List.mem_of_getElem? hk')
            rw [Nat.zero_add] at hki
            subst hki
            have hi2 : i < bn := by rw [← HBNN.out]; exact hi
            have HTK : Hid ((L.take (j + 1)).map (sgQ P brs qs) = (L.take j).map (sgQ P brs qs) ++ [sgQ P brs qs (i : Int)]) := by
              show _ = _
              obtain ⟨h1, h2⟩ := List.getElem?_eq_some_iff.1 hk'
              rw [List.take_succ_eq_append_getElem h1, h2, List.map_append]; rfl
            obtain ⟨q, hq⟩ : ∃ x, qs[i]? = some x := ⟨_, List.getElem?_eq_getElem (by rw [HQL.out]; exact hi2)⟩
            obtain ⟨x, hx⟩ : ∃ x, brs[i]? = some x := ⟨_, List.getElem?_eq_getElem hi⟩
            obtain ⟨b2, off2, cap2, hvv, _, _, hbl2, hc2⟩ := (HFV.out.below BW.out).addr (by omega)
            simp only [Value.slice.injEq] at hvv
            obtain ⟨rfl, _, rfl⟩ := hvv
            have x1 : wr.cell? ⟨b2, off2 + i, none⟩ = some (.string (bs (ratT q))) := hc2 i _ (by rw [HLT.out]; exact txts_get hq)
            obtain ⟨b3, off3, cap3, hvv, _, _, hbl3, hc3⟩ := (HBR.out.below BW.out).addr (by omega)
            simp only [Value.slice.injEq] at hvv
            obtain ⟨rfl, _, rfl⟩ := hvv
            obtain ⟨_, c1, _⟩ := br_cells hc3 hx
            obtain ⟨u0, u1, u2, u3, u4, u5, u6, u7, u8⟩ := x
            simp only at c1
            have HSG : Hid (sgQ P brs qs (i : Int) = if hasS u1 P = true then -q else q) := by
              show _ = _
              unfold sgQ
              rw [Int.toNat_natCast, hx, List.getD_eq_getElem?_getD, hq]; rfl
            have HIX := Lib.hid (HIN.out q (List.mem_of_getElem? hq) wr)
            have HCX := Lib.hid (fun W hW => HCP.out u1 W hW)
            generalize bs (ratT q) = T at *
            generalize hasS u1 P = A at *
            have kr := below_blk hb.out K3.out K3.out.lt
            have KR := Lib.hid kr
            clear y2 hl3 hc hc2 hc3 hk' hq hx kr hjl
            have y2 := KR.out.cell 2 rfl
            have hl3 := KR.out.lt
            go_wp2_with fail
            refine HIX.out.mono ?_; rintro e w5 ⟨⟨v5, rfl, hqv⟩, hb5⟩
            obtain ⟨ig, ia, im, ic, ja, jl, jc, rfl, hq5⟩ := hqv.op
            have M6 := Lib.hid (QM.new hq5)
            have BR6 := Lib.hid (belowA hb5 (.cells #[.bool ig, .slice ia im ic, .slice ja jl jc] 65))
            have k6 := below_blk BR6.out KR.out KR.out.lt
            have y2' := k6.cell 2 rfl
            have hl6 := k6.lt
            have c1' := (BR6.out.cell (p := ⟨b3, off3 + i * 9 + 1, none⟩) hbl3).trans c1
            have hge6 : wr.heap.size ≤ w5.heap.size := hb5.size
            clear hb5 hqv hq5 k6 HIX
            go_upto_region 14 with fail
            generalize w5.alloc (.cells #[.bool ig, .slice ia im ic, .slice ja jl jc] 65) = w6 at *
            generalize w5.heap.size = p6 at *
            clear y2 hl3 c1 x0 x1
            go_wp2_with fail
            refine (HCX.out w6 (belowT BW.out BR6.out)).mono ?_; rintro e w7 ⟨rfl, rfl⟩
            cases A with
            | true =>
              have HSG : Hid (sgQ P brs qs (i : Int) = -q) := HSG.out.trans (if_pos rfl)
              obtain ⟨g7, a7, m7, c7, d7, l7, k7, q7, kb7⟩ := M6.out.parts
              have z0 := kb7.cell 0 rfl
              have z1 := kb7.cell 1 rfl
              have z2 := kb7.cell 2 rfl
              have hl7 := kb7.lt
              have K7 := Lib.hid kb7
              have HN7 := Lib.hid (HNEG.out _ _ _ q w6 q7)
              clear kb7 q7 M6
              go_wp2_with fail
              refine HN7.out.mono ?_; rintro e w7 ⟨⟨v7, rfl, hqv⟩, hb7⟩
              obtain ⟨ng, na7, nm, nc7, nd, nl7, nk, rfl, hq7⟩ := hqv.op
              have k8 := below_blk hb7 K7.out K7.out.lt
              have M7 : Hid (QM (((w7.setCell ⟨p6, 0, none⟩ (.bool ng)).setCell ⟨p6, 1, none⟩ (.slice na7 nm nc7)).setCell ⟨p6, 2, none⟩ (.slice nd nl7 nk)) p6 (-q)) := QM.put k8 hq7
              have BR7 : Hid (Below wr.heap.size wr (((w7.setCell ⟨p6, 0, none⟩ (.bool ng)).setCell ⟨p6, 1, none⟩ (.slice na7 nm nc7)).setCell ⟨p6, 2, none⟩ (.slice nd nl7 nk))) := (((BR6.out.trans (hb7.mono BR6.out.size)).setCell (p := ⟨p6, 0, none⟩) hge6 _).setCell (p := ⟨p6, 1, none⟩) hge6 _).setCell (p := ⟨p6, 2, none⟩) hge6 _
              have v0 := k8.cell 0 rfl
              have v1 := k8.cell 1 rfl
              have v2 := k8.cell 2 rfl
              have f0 := k8.free 0
              have f1 := k8.free 1
              have f2 := k8.free 2
              have hl8' := k8.lt
              clear z0 z1 z2 hb7 hqv hq7 k8
              go_upto_region 16 with fail
              generalize hW8 : ((w7.setCell ⟨p6, 0, none⟩ (.bool ng)).setCell ⟨p6, 1, none⟩ (.slice na7 nm nc7)).setCell ⟨p6, 2, none⟩ (.slice nd nl7 nk) = w8 at *
              have M8 := M7
              clear hW8 M7 v0 v1 v2 f0 f1 f2 K7
              have BR8 : Hid (Below wr.heap.size wr w8) := BR7.out
              have O8 := ho.out.below BR8.out
              have B8 := hb.out.trans (BR8.out.mono hb.out.size)
              obtain ⟨g8, a8, m8, c8, d8, l8, k8, q8, kb8⟩ := M8.out.parts
              have z0 := kb8.cell 0 rfl
              have z1 := kb8.cell 1 rfl
              have z2 := kb8.cell 2 rfl
              have hl8 := kb8.lt
              have O9 := O8.below (belowA (Below.refl _ _) (.cells #[.bool g8, .slice a8 m8 c8, .slice d8 l8 k8] 65))
              have B9 := B8.alloc B8.size (.cells #[.bool g8, .slice a8 m8 c8, .slice d8 l8 k8] 65)
              obtain ⟨v9, W9, hr9, ho9, hb9⟩ := O9.app (c := ⟨g8, a8, m8, c8, d8, l8, k8⟩) B9.size (Blk.new w8 _ _) (q8.below (belowA (Below.refl _ _) _)) (by rw [HJL.out]; have := HLB.out; omega)
              have H9 : Hid (∀ ty, (Builtin.append_ #[75, 75] ty #[.slice oa j oc, .slice (some ⟨w8.heap.size, 0, none⟩) 1 1]).run Tryd.prog (w8.alloc (.cells #[.bool g8, .slice a8 m8 c8, .slice d8 l8 k8] 65)) = .ok v9 W9) := hr9
              have O10 := Lib.hid ho9
              have B10 := Lib.hid (B9.trans hb9)
              clear hr9 ho9 hb9 O9 B9 O8 B8 kb8 q8 M8 BR8 ho hb
              go_wp2_with (at_builtin; refine wpList_append_told rfl (.tmp 56) (.tmp 58) 75 rfl _ _ rfl rfl _ W9 (H9.out _) ?_)
              go_roundw
              case rel => exact ⟨j + 1, hlt, by go_num, by rw [HTK.out, HSG.out]; exact O10.out, B10.out⟩
              case measure => simp [intOf]; omega
            | false =>
              have HSG : Hid (sgQ P brs qs (i : Int) = q) := HSG.out.trans (if_neg (by decide))
              have M8 := M6
              clear M6
              go_upto_region 16 with fail
              have BR8 : Hid (Below wr.heap.size wr w6) := BR6.out
              have O8 := ho.out.below BR8.out
              have B8 := hb.out.trans (BR8.out.mono hb.out.size)
              obtain ⟨g8, a8, m8, c8, d8, l8, k8, q8, kb8⟩ := M8.out.parts
              have z0 := kb8.cell 0 rfl
              have z1 := kb8.cell 1 rfl
              have z2 := kb8.cell 2 rfl
              have hl8 := kb8.lt
              have O9 := O8.below (belowA (Below.refl _ _) (.cells #[.bool g8, .slice a8 m8 c8, .slice d8 l8 k8] 65))
              have B9 := B8.alloc B8.size (.cells #[.bool g8, .slice a8 m8 c8, .slice d8 l8 k8] 65)
              obtain ⟨v9, W9, hr9, ho9, hb9⟩ := O9.app (c := ⟨g8, a8, m8, c8, d8, l8, k8⟩) B9.size (Blk.new w6 _ _) (q8.below (belowA (Below.refl _ _) _)) (by rw [HJL.out]; have := HLB.out; omega)
              have H9 : Hid (∀ ty, (Builtin.append_ #[75, 75] ty #[.slice oa j oc, .slice (some ⟨w6.heap.size, 0, none⟩) 1 1]).run Tryd.prog (w6.alloc (.cells #[.bool g8, .slice a8 m8 c8, .slice d8 l8 k8] 65)) = .ok v9 W9) := hr9
              have O10 := Lib.hid ho9
              have B10 := Lib.hid (B9.trans hb9)
              clear hr9 ho9 hb9 O9 B9 O8 B8 kb8 q8 M8 BR8 ho hb
              go_wp2_with (at_builtin; refine wpList_append_told rfl (.tmp 56) (.tmp 58) 75 rfl _ _ rfl rfl _ W9 (H9.out _) ?_)
              go_roundw
              case rel => exact ⟨j + 1, hlt, by go_num, by rw [HTK.out, HSG.out]; exact O10.out, B10.out⟩
              case measure => simp [intOf]; omega
          · obtain rfl : j = ll := by omega
            have hT : L.take j = L := List.take_of_length_le (by rw [HLL.out]; exact Nat.le_refl _)
            rw [hT] at ho
            have HO := Lib.hid (HOUT.out _ wr (ho.out.reads (by rw [List.length_map, HLL.out]; omega)))
            clear ho hjl hT HJL
            go_wp2_with fail
            refine HO.out.mono ?_; rintro e w7 ⟨⟨ra, rc, rfl, hsv⟩, hb7⟩
            have B7 := Lib.hid (belowT BW.out hb7)
            have HSV := Lib.hid hsv
            clear hb7 hsv
            go_wp2_with fail
            go_ret2
            refine ⟨fun h0 => absurd HX3.out h0, fun qs' _ h1 _ => ?_⟩
            rw [HFIN.out qs' h1]
            have hlen : (txts (L.map (sgQ P brs qs))).length = j := by simp [txts]; exact HLL.out
            refine ⟨ra, rc, ?_, ?_, B7.out⟩
            · show _ = Ending.returned (.tuple #[.slice ra (txts (L.map (sgQ P brs qs))).length rc, .int .i64 0])
              rw [hlen]; rfl
            · show SVal _ (.slice ra (txts (L.map (sgQ P brs qs))).length rc) (txts (L.map (sgQ P brs qs)))
              rw [hlen]; exact HSV.out
      · have HX3 : Hid (X = allE l) := HX2.out
        generalize allE l = A at *
        have g1 : (A != 0) = true := by simpa using ha
        have HA0 : Hid (A ≠ 0) := ha
        clear ha HX2
        go_enter Tryd.func10, Tryd.ntmps10
        go_upto_region 1 with fail
        generalize w.alloc (.cells #[.slice na nn nc, .slice sa sn sc, .slice ba bn bc, .slice ga gn gc, .slice la ln lc, .slice ta tn tc] 33) = w1 at *
        obtain ⟨nb, hnb⟩ : ∃ b, w.heap.size = b := ⟨_, rfl⟩
        have HNB := Lib.hid hnb
        rw [hnb] at K1 y0 y1 y2 y3 y4 y5 hl1 ⊢
        clear hnb
        go_wp2_with fail
        refine (HBND2.out w1 B1.out).mono ?_; rintro e w2 ⟨La, Lc, rfl, hLV, hb⟩
        have B2 := Lib.hid (belowT B1.out hb)
        have k2 := below_blk hb K1.out K1.out.lt
        have HC2 := Lib.hid (HCK.out w2 B2.out)
        clear hb hLV HBND2 HCK y0 y1 y2 y3 y4 y5 hl1 K1 B1
        have y2 := k2.cell 2 rfl
        have hl2 := k2.lt
        clear k2
        go_wp2_with fail
        refine HC2.out.mono ?_; rintro e w3 ⟨rfl, hb⟩
        have B3 := Lib.hid (belowT B2.out hb)
        clear hb
        go_wp2_with fail
        go_ret2
        exact ⟨fun _ => by rw [HX3.out]; exact EntP.fail B3.out, fun qs h0 => absurd (HX3.out.symm.trans h0) HA0.out⟩
    · have HX2 : Hid (X = 3) := HX1.out.trans (if_pos hlen)
      have g1 : ((fl : Int) != (bn : Int)) = true := by simp; omega
      clear HX1 hlen
      go_enter Tryd.func10, Tryd.ntmps10
      go_upto_region 1 with fail
      generalize w.alloc (.cells #[.slice na nn nc, .slice sa sn sc, .slice ba bn bc, .slice ga gn gc, .slice la ln lc, .slice ta tn tc] 33) = w1 at *
      obtain ⟨nb, hnb⟩ : ∃ b, w.heap.size = b := ⟨_, rfl⟩
      have HNB := Lib.hid hnb
      rw [hnb] at K1 y0 y1 y2 y3 y4 y5 hl1 ⊢
      clear hnb
      go_wp2_with fail
      refine (HBND2.out w1 B1.out).mono ?_; rintro e w2 ⟨La, Lc, rfl, hLV, hb⟩
      have B2 := Lib.hid (belowT B1.out hb)
      have k2 := below_blk hb K1.out K1.out.lt
      clear hb hLV HBND2 HCK y0 y1 y2 y3 y4 y5 hl1 K1 B1
      have y2 := k2.cell 2 rfl
      have hl2 := k2.lt
      clear k2
      go_wp2_with fail
      go_ret2
      exact ⟨fun _ => by rw [HX2.out]; exact EntP.fail B2.out, fun qs h0 => absurd (HX2.out.symm.trans h0) (by decide)⟩
  · have HX1 : Hid (X = er) := HX.out.trans (if_pos he)
    have g1 : (er != 0) = true := by simpa using he
    have HER : Hid (er ≠ 0) := he
    clear HX he HBN
    go_enter Tryd.func10, Tryd.ntmps10
    go_upto_region 1 with fail
    generalize w.alloc (.cells #[.slice na nn nc, .slice sa sn sc, .slice ba bn bc, .slice ga gn gc, .slice la ln lc, .slice ta tn tc] 33) = w1 at *
    obtain ⟨nb, hnb⟩ : ∃ b, w.heap.size = b := ⟨_, rfl⟩
    have HNB := Lib.hid hnb
    rw [hnb] at K1 y0 y1 y2 y3 y4 y5 hl1 ⊢
    clear hnb
    go_wp2_with fail
    refine (HBND2.out w1 B1.out).mono ?_; rintro e w2 ⟨La, Lc, rfl, hLV, hb⟩
    have B2 := Lib.hid (belowT B1.out hb)
    clear hb hLV HBND2
    go_wp2_with fail
    go_ret2
    exact ⟨fun _ => by rw [HX1.out]; exact EntP.fail B2.out, fun qs h0 => absurd (HX1.out.symm.trans h0) HER.out⟩
end Go.Proofs.YtkpalfgnfhphjaaDoor
