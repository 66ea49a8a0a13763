/- choose: follows, the walk. -/
import Derived.Test.YtplebibabcdipaaCho18
import Derived.Laws.CopyRow
import Derived.Laws.CopyOwn
namespace Go.Proofs.Ytplebibabcdipaa
open Go.RowKit

theorem wpList_copy_told {P : Program} {w : World} {ops : Array Oper} {rest : List Oper} {o : Oper} {a : Act} {Q : Exit → Act → World → Prop} (hgd : o.guard = none) (s x : Operand) (t : TypeId)
    (ho : o.op = .call { callee := .builtin .copy, args := #[s, x], argTypes := #[t, t] }) (v xv : Value) (hs : a.eval s = v) (hx : a.eval x = xv) (v' : Value) (w' : World)
    (hrun : ∀ ty, (Builtin.copy_ #[t, t] ty #[v, xv]).run P w = .ok v' w') (h : wpList P ops Q rest (a.put o.dst v') w') : wpList P ops Q (o :: rest) a w := by
  refine wpList_plain hgd fun K hK => ?_
  unfold Oper.wp
  simp [execOp, ho, resolve, invoke, builtin, hs, hx, hrun, Result.andThen]
  exact hK _ _ h
theorem sizeBoolL : (Try.prog.info? 4).map (·.size) = some 1 := by kernel_rfl
theorem bools_one (l : List Bool) : ∀ u ∈ bools l, u.oneCell' = true := by
  intro u hu; unfold bools at hu; obtain ⟨n, _, rfl⟩ := List.mem_map.1 hu; rfl
theorem Blk.boolPut {W : World} {g : Nat} {s : List Bool} {t : TypeId} (h : Blk W g (bools s).toArray t) (i : Nat) (q : Bool) : Blk (W.setCell ⟨g, i, none⟩ (.bool q)) g (bools (s.set i q)).toArray t := by
  have := h.set i (.bool q)
  rw [← bools_set]
  simpa using this
/-- A copy of a whole slice of Booleans. -/
theorem copy_bools (W : World) (g n sc : Nat) (sg soff : Nat) (d s : List Bool) (hd : d.length = n) (hs : s.length = n) (hg : Blk W g (bools d).toArray 4) (hc : ∀ j u, (bools s)[j]? = some u → W.cell? ⟨sg, soff + j, none⟩ = some u) :
    ∀ ty, (Builtin.copy_ #[120, 120] ty #[.slice (some ⟨g, 0, none⟩) n n, .slice (some ⟨sg, soff, none⟩) n sc]).run Try.prog W = .ok (goInt n) (W.setRow g (bools s).toArray) := fun ty => by
  have hbl : ∀ l : List Bool, (bools l).length = l.length := fun l => by unfold bools; simp
  have := run_copy_row (P := Try.prog) W 120 120 ty 4 g 0 n n ⟨sg, soff, none⟩ n sc (bools d).toArray 4 (bools s) Try.underlying120 sizeBoolL hg (by rw [hbl, hs]; exact (Nat.min_self n).symm) (cells_add hc) (by rw [hbl, hs]; simp [hbl, hd]) (bools_one s)
  have hdl : d.length ≤ 0 + (bools s).length := by rw [hbl, hd, hs]; omega
  rw [this]
  have e : (bools d).toArray.toList.drop (0 + (bools s).length) = [] := List.drop_eq_nil_of_le (by simpa [hbl] using hdl)
  rw [e, hbl, hs]
  simp
set_option maxHeartbeats 8000000 in
set_option maxRecDepth 100000 in
theorem follows_c (c : CNet) (hc : c.Ok) (X : Nat) (ea : Option Addr) (ec : Nat) (sa : Option Addr) (sc : Nat) (l : List ByteArray) (lv : Value) (w : World) (hn : NetC w X c ea ec sa sc) (hl : SVal w lv l) :
    Calls Try.prog 73 #[.pointer (some ⟨X, 0, none⟩), lv] w fun e w' => e = .returned (.bool (folC c l)) ∧ Below w.heap.size w w' := by
  obtain ⟨la, lc, rfl⟩ := hl.slice
  have HNE : Hid (∀ (j : Nat) (e : CEdge), c.edges[j]? = some e → e.a < c.nodes ∧ e.b < c.nodes) := fun j e he => hc.ne e (List.mem_of_getElem? he)
  have HFD : Hid (∀ (A : List Bool) (k : Nat) (s : ByteArray), l[k]? = some s → folW c (l.drop k) A = folW c (l.drop (k + 1)) (folP s A c.edges (List.replicate c.nodes false))) := fun A k s h => folW_drop h A
  have HFC : Hid (folC c l = (decide (0 < l.length) && (folW c l c.src).getD c.at_ false)) := rfl
  have HLV : Hid (Reads w (.slice la l.length lc) l.length (strs l)) := hl
  have hm := hc.m
  have hat := hc.at_
  have hn1 := hc.n
  have hsr := hc.src
  have HF0 : Hid (folW c (l.drop 0) c.src = folW c l c.src) := rfl
  obtain ⟨R, hR⟩ : ∃ r, folW c l c.src = r := ⟨_, rfl⟩
  have HRL : Hid (R.length = c.nodes) := by show _ = _; rw [← hR]; exact folW_len c l c.src hsr
  rw [hR] at HFC HF0
  obtain ⟨FC, hFC⟩ : ∃ r, folC c l = r := ⟨_, rfl⟩
  rw [hFC] at HFC ⊢
  obtain ⟨ln, hLN⟩ : ∃ k, l.length = k := ⟨_, rfl⟩
  have HLN := Lib.hid hLN
  have hln : ln ≤ 9223372036854775807 := by
    rcases hl with ⟨h, _⟩ | ⟨_, _, _, _, _, h, _⟩ <;> omega
  rw [hLN] at HLV HFC ⊢
  have HED := Lib.hid hn.edges
  have HSV := Lib.hid hn.src
  have HB0 := Lib.hid hn.blk
  obtain ⟨nd, hND⟩ : ∃ k, c.nodes = k := ⟨_, rfl⟩
  have HND := Lib.hid hND
  rw [hND] at hat hn1 hsr HRL HB0 HNE HFD
  rw [hsr] at HSV HB0
  obtain ⟨m, hM⟩ : ∃ k, c.edges.length = k := ⟨_, rfl⟩
  have HM := Lib.hid hM
  rw [hM] at hm HED HB0
  have HSL := Lib.hid hsr
  have hmk := make_bools' nd hn1
  have x0 := HB0.out.cell 0 rfl
  generalize c.at_ = at_ at *
  clear hl hn hR hFC hLN hND hM hsr
  have K1 := Blk.new w (bools (List.replicate nd false)).toArray 4
  have B1 := belowA (Below.refl w.heap.size w) (.cells (bools (List.replicate nd false)).toArray 4)
  have HSV1 := HSV.out.below B1
  have x2 := (below_blk B1 HB0.out HB0.out.lt).cell 2 rfl
  have hX := HB0.out.lt
  obtain ⟨ab, hab⟩ : ∃ b, w.heap.size = b := ⟨_, rfl⟩
  have HAB := Lib.hid hab
  rw [hab] at K1 B1 hX ⊢
  go_enter Try.func73, Try.ntmps73
  go_upto_region 2 with (rw [hmk])
  generalize w.alloc (.cells (bools (List.replicate nd false)).toArray 4) = w1 at *
  obtain ⟨sg, soff, scap, hvv, _, _, _, hcc⟩ := HSV1.addr (by omega)
  simp only [Value.slice.injEq] at hvv
  obtain ⟨rfl, _, rfl⟩ := hvv
  have hcp := copy_bools w1 ab nd sc sg soff (List.replicate nd false) c.src (by simp) HSL.out K1 hcc
  have K2 : Hid (Blk (w1.setRow ab (bools c.src).toArray) ab (bools c.src).toArray 4) := setRow_heap w1 ab _ _ 4 _ K1
  have B2 : Hid (Below ab w (w1.setRow ab (bools c.src).toArray)) := below_setRow B1 (Nat.le_refl _) _
  generalize w1.setRow ab (bools c.src).toArray = w2 at *
  clear hcc HSV1 K1 B1 x0 hab
  go_upto_region 3 with (with_reducible refine wpList_copy_told rfl (.tmp 16) (.tmp 20) 120 rfl _ _ rfl rfl (goInt nd) w2 hcp ?_)
  clear hcp x2
  go_wp2_with fail
  go_loopw [24, 5] (fun i av wr => ∃ (k : Nat) (A : List Bool) (xb : Nat), k ≤ ln ∧ i = .int .i64 k ∧ av = .slice (some ⟨xb, 0, none⟩) nd nd ∧ ab ≤ xb ∧ Hid (A.length = nd) ∧ Hid (folW c (l.drop k) A = R) ∧ Hid (Blk wr xb (bools A).toArray 4) ∧ Hid (Below ab w wr)) (fun i _ _ => ln - (intOf i).toNat)
  case atStart => exact ⟨0, c.src, ab, Nat.zero_le _, rfl, rfl, Nat.le_refl _, HSL, HF0, K2, B2⟩
  case round =>
    clear HF0 K2 B2
    obtain ⟨k, A, xb, hk, rfl, rfl, hxb, HAL, hfw, hka, hb⟩ := hrel
    by_cases hlt : k < ln
    ·
      obtain ⟨s, hs⟩ : ∃ x, l[k]? = some x := ⟨_, List.getElem?_eq_getElem (by rw [HLN.out]; exact hlt)⟩
      have hd := HFD.out A k s hs
      rw [hd] at hfw
      obtain ⟨NXT, hNX⟩ : ∃ r, folP s A c.edges (List.replicate nd false) = r := ⟨_, rfl⟩
      rw [hNX] at hfw
      have HN0 : Hid (folP s A (c.edges.drop 0) (List.replicate nd false) = NXT) := hNX
      obtain ⟨g', off, cap', hvv, _, _, _, hcc⟩ := (HLV.out.below (by rw [HAB.out]; exact hb.out)).addr (by omega)
      simp only [Value.slice.injEq] at hvv
      obtain ⟨rfl, _, rfl⟩ := hvv
      have c0 := hcc k (.string s) (by unfold strs; rw [List.getElem?_map, hs]; rfl)
      have x0 := (below_blk hb.out HB0.out hX).cell 0 rfl
      have K3 := Lib.hid (Blk.new wr (bools (List.replicate nd false)).toArray 4)
      have KA3 := Lib.hid (hka.out.alloc (.cells (bools (List.replicate nd false)).toArray 4))
      have hbz := hb.out.size
      have hwz : ab ≤ wr.heap.size := by have := HAB.out; omega
      have B3 := Lib.hid (hb.out.alloc hwz (.cells (bools (List.replicate nd false)).toArray 4))
      have hxl := hka.out.lt
      obtain ⟨nb, hnb⟩ : ∃ b, wr.heap.size = b := ⟨_, rfl⟩
      have HNB := Lib.hid hnb
      have hna : xb ≠ nb := by omega
      have hnb0 : ab ≤ nb := by omega
      rw [hnb] at K3
      clear hnb hcc hs hd hNX hbz hwz hxl
      go_upto_region 7 with (rw [hmk])
      rw [HNB.out]
      generalize wr.alloc (.cells (bools (List.replicate nd false)).toArray 4) = W3 at *
      clear c0 x0 hka hb HNB
      have x1 := (below_blk B3.out HB0.out hX).cell 1 rfl
      have HNL0 : Hid ((List.replicate nd false).length = nd) := List.length_replicate
      go_wp2_with fail
      go_loopw [38] (fun i wx => ∃ (j : Nat) (nx : List Bool), j ≤ m ∧ i = .int .i64 j ∧ Hid (nx.length = nd) ∧ Hid (folP s A (c.edges.drop j) nx = NXT) ∧ Hid (Blk wx nb (bools nx).toArray 4) ∧ Hid (Blk wx xb (bools A).toArray 4) ∧ Hid (Below ab w wx)) (fun i _ => m - (intOf i).toNat)
      case atStart => exact ⟨0, _, Nat.zero_le _, rfl, HNL0, HN0, K3, KA3, B3⟩
      case round =>
        clear HN0 K3 KA3 B3 x1 HNL0
        obtain ⟨j, nx, hj, rfl, hnl, hfp, hk3, hka, hb⟩ := hrel
        by_cases hlj : j < m
        ·
          obtain ⟨e, he⟩ : ∃ x, c.edges[j]? = some x := ⟨_, List.getElem?_eq_getElem (by rw [HM.out]; exact hlj)⟩
          have hd := folP_drop (s := s) (at_ := A) he nx
          rw [hd] at hfp
          obtain ⟨ia, ib⟩ := HNE.out j e he
          obtain ⟨eg, eoff, ecap, evv, _, _, _, ecc⟩ := (HED.out.below (by rw [HAB.out]; exact hb.out)).addr (by omega)
          simp only [Value.slice.injEq] at evv
          obtain ⟨rfl, _, rfl⟩ := evv
          obtain ⟨c0, c1, c2, c3⟩ := ce_cells ecc he
          obtain ⟨nm, a, b, bk⟩ := e
          simp only at c0 c1 c2 c3 ia ib
          have HSE : Hid (folE s A nx ⟨nm, a, b, bk⟩ = if (nm.toList == s.toList) = true then (nx.set a (nx.getD a false || A.getD b false)).set b ((nx.set a (nx.getD a false || A.getD b false)).getD b false || A.getD a false) else nx) := rfl
          have E4 := Lib.hid (Blk.new wr #[.string nm, .int .i64 a, .int .i64 b, .bool bk] 126)
          have K4 := Lib.hid (hk3.out.alloc (.cells #[.string nm, .int .i64 a, .int .i64 b, .bool bk] 126))
          have A4 := Lib.hid (hka.out.alloc (.cells #[.string nm, .int .i64 a, .int .i64 b, .bool bk] 126))
          have hbz := hb.out.size
          have B4 := Lib.hid (hb.out.alloc (by have := HAB.out; omega) (.cells #[.string nm, .int .i64 a, .int .i64 b, .bool bk] 126))
          have hkl := hk3.out.lt
          obtain ⟨vb, hvb⟩ : ∃ b, wr.heap.size = b := ⟨_, rfl⟩
          have HVB := Lib.hid hvb
          have hnv : vb ≠ nb := by omega
          rw [hvb] at E4
          clear hvb ecc he hd hbz hkl
          go_upto_region 10 with fail
          rw [HVB.out]
          generalize wr.alloc (.cells #[.string nm, .int .i64 a, .int .i64 b, .bool bk] 126) = W4 at *
          clear c0 c1 c2 c3 HVB hb hk3 hka
          have e0 := E4.out.cell 0 rfl
          have p1 : decide ((a : Int) < 0) = false := decide_eq_false (by omega)
          have p2 : decide ((nd : Int) ≤ (a : Int)) = false := decide_eq_false (by omega)
          have p3 : decide (nd ≤ a) = false := decide_eq_false (by omega)
          have p4 : decide ((b : Int) < 0) = false := decide_eq_false (by omega)
          have p5 : decide ((nd : Int) ≤ (b : Int)) = false := decide_eq_false (by omega)
          have p6 : decide (nd ≤ b) = false := decide_eq_false (by omega)
          cases hq : (nm.toList == s.toList)
          ·
            have HS2 := Lib.hid (HSE.out.trans (if_neg (by rw [hq]; decide)))
            rw [HS2.out] at hfp
            clear HSE
            go_wp2_with fail
            go_roundw
            case rel => exact ⟨j + 1, nx, hlj, by go_num, hnl, hfp, K4, A4, B4⟩
            case measure => simp [intOf]; omega
          ·
            have HS2 := Lib.hid (HSE.out.trans (if_pos hq))
            rw [HS2.out] at hfp
            clear HSE
            go_upto_region 11 with fail
            clear hq e0
            go_cut [46] from 47 to 61 (fun _ wx => Hid (Blk wx nb (bools (nx.set a (nx.getD a false || A.getD b false))).toArray 4) ∧ Hid (Blk wx xb (bools A).toArray 4) ∧ Hid (Blk wx vb #[.string nm, .int .i64 a, .int .i64 b, .bool bk] 126) ∧ Hid (Below ab w wx))
            case first =>
              clear HS2 hfp
              have hA := K4.out.boolAt (i := a) (by rw [hnl.out]; exact ia)
              have hF := K4.out.free a
              have hB := A4.out.boolAt (i := b) (by rw [HAL.out]; exact ib)
              have e1 := E4.out.cell 1 rfl
              have e2 := E4.out.cell 2 rfl
              have KS : Hid (∀ q : Bool, Blk ((W4.setCell ⟨nb, a, none⟩ (.bool q)).drew) nb (bools ((nx).set a q)).toArray 4 ∧ Blk ((W4.setCell ⟨nb, a, none⟩ (.bool q)).drew) xb (bools A).toArray 4 ∧ Blk ((W4.setCell ⟨nb, a, none⟩ (.bool q)).drew) vb #[.string nm, .int .i64 a, .int .i64 b, .bool bk] 126 ∧ Below ab w ((W4.setCell ⟨nb, a, none⟩ (.bool q)).drew)) := fun q =>
                ⟨(K4.out.boolPut a q).drew, (A4.out.setOther ⟨nb, a, none⟩ hna (.bool q)).drew, (E4.out.setOther ⟨nb, a, none⟩ hnv (.bool q)).drew, below_drewN (B4.out.setCell (by show ab ≤ nb; exact hnb0) _) 1⟩
              generalize (nx).getD a false = VA at *
              generalize A.getD b false = VB at *
              clear K4 A4 E4 B4
              cases VA
              ·
                cases VB
                ·
                  go_region
                  all_goals
                    go_wp2_with fail
                    go_meet
                    exact ⟨Lib.hid (KS.out false).1, Lib.hid (KS.out false).2.1, Lib.hid (KS.out false).2.2.1, Lib.hid (KS.out false).2.2.2⟩
                ·
                  go_region
                  all_goals
                    go_wp2_with fail
                    go_meet
                    exact ⟨Lib.hid (KS.out true).1, Lib.hid (KS.out true).2.1, Lib.hid (KS.out true).2.2.1, Lib.hid (KS.out true).2.2.2⟩
              ·
                go_region
                all_goals
                  go_wp2_with fail
                  go_meet
                  exact ⟨Lib.hid (KS.out true).1, Lib.hid (KS.out true).2.1, Lib.hid (KS.out true).2.2.1, Lib.hid (KS.out true).2.2.2⟩
            case rest =>
              obtain ⟨K5, A5, E5, B5⟩ := hcut
              obtain ⟨n1, hn1e⟩ : ∃ r, nx.set a (nx.getD a false || A.getD b false) = r := ⟨_, rfl⟩
              have hnl1 : Hid (n1.length = nd) := by show _ = _; rw [← hn1e, List.length_set]; exact hnl.out
              rw [hn1e] at K5 HS2 hfp
              clear hn1e K4 A4 E4 B4
              go_upto_region 12 with fail
              have hnl2 : Hid ((n1.set b (n1.getD b false || A.getD a false)).length = nd) := by show _ = _; rw [List.length_set]; exact hnl1.out
              clear HS2
              have hA := K5.out.boolAt (i := b) (by rw [hnl1.out]; exact ib)
              have hF := K5.out.free b
              have hB := A5.out.boolAt (i := a) (by rw [HAL.out]; exact ia)
              have e1 := E5.out.cell 1 rfl
              have e2 := E5.out.cell 2 rfl
              have KS : Hid (∀ q : Bool, Blk ((wc.setCell ⟨nb, b, none⟩ (.bool q)).drew) nb (bools ((n1).set b q)).toArray 4 ∧ Blk ((wc.setCell ⟨nb, b, none⟩ (.bool q)).drew) xb (bools A).toArray 4 ∧ Blk ((wc.setCell ⟨nb, b, none⟩ (.bool q)).drew) vb #[.string nm, .int .i64 a, .int .i64 b, .bool bk] 126 ∧ Below ab w ((wc.setCell ⟨nb, b, none⟩ (.bool q)).drew)) := fun q =>
                ⟨(K5.out.boolPut b q).drew, (A5.out.setOther ⟨nb, b, none⟩ hna (.bool q)).drew, (E5.out.setOther ⟨nb, b, none⟩ hnv (.bool q)).drew, below_drewN (B5.out.setCell (by show ab ≤ nb; exact hnb0) _) 1⟩
              generalize (n1).getD b false = VA at *
              generalize A.getD a false = VB at *
              clear K5 A5 E5 B5
              cases VA
              ·
                cases VB
                ·
                  go_region
                  all_goals
                    go_wp2_with fail
                    go_roundw
                    case rel => exact ⟨j + 1, _, hlj, by go_num, hnl2, hfp, Lib.hid (KS.out false).1, Lib.hid (KS.out false).2.1, Lib.hid (KS.out false).2.2.2⟩
                    case measure => simp [intOf]; omega
                ·
                  go_region
                  all_goals
                    go_wp2_with fail
                    go_roundw
                    case rel => exact ⟨j + 1, _, hlj, by go_num, hnl2, hfp, Lib.hid (KS.out true).1, Lib.hid (KS.out true).2.1, Lib.hid (KS.out true).2.2.2⟩
                    case measure => simp [intOf]; omega
              ·
                go_region
                all_goals
                  go_wp2_with fail
                  go_roundw
                  case rel => exact ⟨j + 1, _, hlj, by go_num, hnl2, hfp, Lib.hid (KS.out true).1, Lib.hid (KS.out true).2.1, Lib.hid (KS.out true).2.2.2⟩
                  case measure => simp [intOf]; omega
        ·
          have hn0 : c.edges.drop j = [] := List.drop_eq_nil_of_le (by rw [HM.out]; omega)
          have HNN : Hid (nx = NXT) := by show _ = _; rw [← hfp.out, hn0]; rfl
          rw [← HNN.out] at hfw
          clear hn0 hfp HNN
          go_wp2_with fail
          go_roundw
          case rel => exact ⟨k + 1, nx, nb, hlt, by go_num, rfl, hnb0, hnl, hfw, hk3, hb⟩
          case measure => simp [intOf]; omega
    ·
      have hkn : k = ln := by omega
      have hn0 : l.drop k = [] := List.drop_eq_nil_of_le (by rw [HLN.out]; omega)
      have HRR : Hid (A = R) := by show _ = _; rw [← hfw.out, hn0]; rfl
      have x3 := (below_blk hb.out HB0.out hX).cell 3 rfl
      have hA := hka.out.boolAt (i := at_) (by rw [HAL.out]; exact hat)
      have p1 : decide ((at_ : Int) < 0) = false := decide_eq_false (by omega)
      have p2 : decide ((nd : Int) ≤ (at_ : Int)) = false := decide_eq_false (by omega)
      have p3 : decide (nd ≤ at_) = false := decide_eq_false (by omega)
      rw [HRR.out] at hA
      clear hn0 hfw HRR
      by_cases hz : 0 < ln
      ·
        have HFT : Hid (FC = R.getD at_ false) := by show _ = _; rw [HFC.out, decide_eq_true hz]; rfl
        generalize R.getD at_ false = V at *
        have g1 : decide (0 < ln) = true := decide_eq_true hz
        clear HFC
        go_wp2_with fail
        go_ret
        exact ⟨by rw [HFT.out]; rfl, hb.out⟩
      ·
        have HFT : Hid (FC = false) := by show _ = _; rw [HFC.out, decide_eq_false hz]; rfl
        have g1 : decide (0 < ln) = false := decide_eq_false hz
        clear HFC
        go_wp2_with fail
        go_ret
        exact ⟨by rw [HFT.out]; rfl, hb.out⟩
end Go.Proofs.Ytplebibabcdipaa
