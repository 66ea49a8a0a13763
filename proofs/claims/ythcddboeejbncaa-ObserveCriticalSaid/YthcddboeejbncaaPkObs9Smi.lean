/- observe.Areas. SameInts. -/
import Derived.Test.YthcddboeejbncaaPzObs8
import Derived.Test.YthcddboeejbncaaPzNetR
namespace Go.Proofs.Ythcddboeejbncaa
open Go.RowKit

theorem make_is (n : Nat) (hn : n ≤ 1000) (W : World) : (Instr.makeSlice 39 (.int .i64 (n : Int)) (.int .i64 (n : Int))).run Try.prog W = .ok (.slice (some ⟨W.heap.size, 0, none⟩) n n) (W.alloc (.cells (ints (List.replicate n 0)).toArray 3)) := by
  rw [← made_ints]
  obtain ⟨i0, hi0, hz0, hz1, hz2⟩ := info_parts infoIntL
  have hr := run_make (P := Try.prog) W 39 3 i0 _ Try.underlying39 hi0 hz0 .i64 .i64 n n (by omega) (Int.le_refl _) (by rw [hz2]; omega) (by omega)
  simp only [Int.toNat_natCast, hz1, Nat.mul_one] at hr
  exact hr
/-- The areas of the buses. -/
def areaE (n : Net) (l : List MIt) : List Int := (Lin.areaF (sameE n l) (islandsE n).length).1
theorem areaF_len (s : Nat → Nat → Bool) : ∀ i, (Lin.areaF s i).1.length = i ∧ 0 ≤ (Lin.areaF s i).2 ∧ (Lin.areaF s i).2 ≤ i
  | 0 => ⟨rfl, Int.le_refl 0, Int.le_refl 0⟩
  | i + 1 => by
    obtain ⟨h1, h2, h3⟩ := areaF_len s i
    unfold Lin.areaF
    split
    · exact ⟨by simp [h1], h2, by omega⟩
    · exact ⟨by simp [h1], by show 0 ≤ (Lin.areaF s i).2 + 1; omega, by show (Lin.areaF s i).2 + 1 ≤ _; omega⟩
/-- The cells of the result while it is made. -/
def padI (l : List Int) (N : Nat) : List Int := l ++ List.replicate (N - l.length) 0
theorem padI_set {l : List Int} {N : Nat} (x : Int) (h : l.length < N) : (padI l N).set l.length x = padI (l ++ [x]) N := by
  unfold padI
  rw [List.set_append_right _ _ (Nat.le_refl _), Nat.sub_self, show N - l.length = (N - (l.length + 1)) + 1 by omega, List.replicate_succ]
  simp
theorem padI_get {l : List Int} {N i : Nat} (h : i < l.length) : (padI l N).getD i 0 = l.getD i 0 := by
  unfold padI
  rw [List.getD_eq_getElem?_getD, List.getElem?_append_left h, ← List.getD_eq_getElem?_getD]
theorem padI_len {l : List Int} {N : Nat} (h : l.length ≤ N) : (padI l N).length = N := by unfold padI; simp; omega
theorem padI_all {l : List Int} {N : Nat} (h : l.length = N) : padI l N = l := by unfold padI; rw [h]; simp
/-- What observe.Areas answers. -/
def AreaP (n : Net) (l : List MIt) (w : World) (e : Ending) (w' : World) : Prop := ∃ v, e = .returned (.tuple #[v, .int .i64 (metE n l)]) ∧ (if metE n l = 0 then IVal w' v (areaE n l) else v = .slice none 0 0) ∧ Below w.heap.size w w'
set_option maxRecDepth 100000 in
set_option maxHeartbeats 8000000 in
theorem areas_c (x0 : NAddr) (n : Net) (lv : Value) (l : List MIt) (w : World) (hin : MetIn w x0 n lv l) (hn : n.nodes.length ≤ 8) :
    Calls Try.prog 15 #[x0.val n, lv] w (AreaP n l w) := by
  have HOK := Lib.hid (fun (h : metE n l = 0) W (hW : Below w.heap.size w W) => obsRank_ok x0 n lv l W (hin.below hW) hn h)
  have HER := Lib.hid (fun (h : metE n l ≠ 0) W (hW : Below w.heap.size w W) => obsRank_err x0 n lv l W (hin.below hW) hn h)
  have HP1 : Hid (∀ w' (ne : Int), metE n l ≠ 0 → ne = metE n l → Below w.heap.size w w' → AreaP n l w (.returned (.tuple #[.slice none 0 0, .int .i64 ne])) w') := fun w' ne h e hb => ⟨.slice none 0 0, by rw [e], by rw [if_neg h], hb⟩
  have HP0 : Hid (∀ w' v, metE n l = 0 → Hid (IVal w' v (areaE n l)) → Below w.heap.size w w' → AreaP n l w (.returned (.tuple #[v, .int .i64 0])) w') := fun w' v h hv hb => ⟨v, by rw [h], by rw [if_pos h]; exact hv.out, hb⟩
  generalize AreaP n l w = CP at *
  by_cases h0 : metE n l = 0
  · obtain ⟨hok, hl64, hmi⟩ := metE_zero.1 h0
    have hil := il_le (netE_ok hok)
    have HFV := Lib.hid (fun W (hW : Below w.heap.size w W) => freshV_c x0 n W (hin.net.below hW) (netE_ok hok))
    have HRW := Lib.hid (fun tv W (hW : Below w.heap.size w W) (ht : TopV W tv n) => rows_c x0 n tv lv l W (hin.net.below hW) hok ht (hin.rd.below hW) hmi hin.len)
    have HFO := Lib.hid (fun W (ba ia : Option Addr) (bc ic : Nat) (hW : IVal W (.slice ia (islandsE n).length ic) (islandsE n)) => freeOf_c ba ia n.nodes.length bc ic (islandsE n) W hW (by omega))
    have HFE : Hid (freeL (islandsE n) = freeE n) := rfl
    rw [HFE.out] at HFO
    have HSM := Lib.hid (fun (i k tb gb fb wb hb gl : Nat) (bua ia ga fa : Option Addr) (bun bub ic gc fc : Nat) (W : World) (hi : i < (islandsE n).length) (hk : k < (islandsE n).length) (hv : IVal W (.slice ia (islandsE n).length ic) (islandsE n)) (hg : GV W (.slice ga gl gc) (freeE n).length (rowsE n l)) (hgn : ∀ k c, Value.slice ga gl gc = .slice none k c → c = 0) (hf : IVal W (.slice fa (freeE n).length fc) (freeE n)) hB => same_c n l i k tb gb fb wb hb (islandsE n).length gl bua ia ga fa bun bub ic gc fc W hok hmi hn hl64 rfl hi hk hv hg hgn hf hB)
    have HC0 := Lib.hid (HOK.out h0)
    have HP2 := Lib.hid (fun w' v => HP0.out w' v h0)
    have HGR := Lib.hid (fun b W v (h : GO b W v (freeE n).length (rowsE n l)) => h.reads (by rw [rowsE_len]; omega))
    have HRL := Lib.hid (rowsE_len n l)
    have HAE : Hid (areaE n l = (Lin.areaF (sameE n l) (islandsE n).length).1) := rfl
    have HAL := Lib.hid (areaF_len (sameE n l))
    have HAS : Hid (∀ i, Lin.areaF (sameE n l) (i + 1) = if Lin.firstS (sameE n l) i i 0 < i then ((Lin.areaF (sameE n l) i).1 ++ [(Lin.areaF (sameE n l) i).1.getD (Lin.firstS (sameE n l) i i 0) 0], (Lin.areaF (sameE n l) i).2) else ((Lin.areaF (sameE n l) i).1 ++ [(Lin.areaF (sameE n l) i).2], (Lin.areaF (sameE n l) i).2 + 1)) := fun _ => rfl
    generalize hse : sameE n l = SE at *
    generalize areaE n l = AE at *
    generalize rankE n l = RK at *
    generalize rowsE n l = G at *
    obtain ⟨la2, lcap, rfl⟩ := hin.rd.slice
    obtain ⟨na, nc, sa, sc, ba, bc, ga, gc, la, lc, ta, tc⟩ := x0
    simp only [NAddr.val] at HC0 HFV HRW ⊢
    have B1 := Lib.hid (belowA (Below.refl w.heap.size w) (.cells #[.slice na n.nodes.length nc, .slice sa n.sws.length sc, .slice ba n.brs.length bc, .slice ga n.gens.length gc, .slice la n.loads.length lc, .slice ta n.stores.length tc] 29))
    have K1 := Lib.hid (Blk.new w #[.slice na n.nodes.length nc, .slice sa n.sws.length sc, .slice ba n.brs.length bc, .slice ga n.gens.length gc, .slice la n.loads.length lc, .slice ta n.stores.length tc] 29)
    generalize n.sws.length = sn at *
    generalize n.brs.length = bn at *
    generalize n.gens.length = gn at *
    generalize n.loads.length = lon at *
    generalize n.stores.length = tn at *
    have HC := Lib.hid (HC0.out _ B1.out)
    clear hse hin HOK HER HP1 HP0 h0 hok hmi HC0
    go_enter Try.func15, Try.ntmps15
    go_wp2_with fail
    refine HC.out.mono ?_; rintro e w2 ⟨rfl, hb2⟩
    have B2 := Lib.hid (belowT B1.out hb2)
    have K2 := Lib.hid (below_blk hb2 K1.out K1.out.lt)
    clear hb2 B1 K1 HC
    have A3 := belowA (belowA (Below.refl w2.heap.size w2) (.cells #[.int .i64 (RK : Int)] 3)) (.cells #[.int .i64 ((freeE n).length : Int)] 3)
    have B3 := Lib.hid (belowT B2.out A3)
    have K3 := Lib.hid (below_blk A3 K2.out K2.out.lt)
    have H3 := Lib.hid ((Blk.new w2 #[.int .i64 (RK : Int)] 3).alloc (.cells #[.int .i64 ((freeE n).length : Int)] 3))
    have W3 := Lib.hid (Blk.new2 w2 (.cells #[.int .i64 (RK : Int)] 3) #[.int .i64 ((freeE n).length : Int)] 3)
    have HC := Lib.hid (HFV.out _ B3.out)
    clear A3 B2 K2 HFV
    go_upto_region 4 with fail
    generalize hw3 : (w2.alloc (.cells #[.int .i64 (RK : Int)] 3)).alloc (.cells #[.int .i64 ((freeE n).length : Int)] 3) = w3 at *
    generalize w2.heap.size = hb at *
    clear hw3
    have z0 := K3.out.cell 0 rfl
    have z1 := K3.out.cell 1 rfl
    have z2 := K3.out.cell 2 rfl
    have z3 := K3.out.cell 3 rfl
    have z4 := K3.out.cell 4 rfl
    have z5 := K3.out.cell 5 rfl
    have zl := K3.out.lt
    go_wp2_with fail
    refine HC.out.mono ?_; rintro e w4 ⟨⟨tv, rfl, ht⟩, hb4⟩
    have HT := ht
    obtain ⟨bua, bub, ia, ic, rfl, h1, h2⟩ := ht
    have A5 := belowT hb4 (belowA (Below.refl w4.heap.size w4) (.cells #[.slice bua n.nodes.length bub, .slice ia (islandsE n).length ic] 47))
    have B5 := Lib.hid (belowT B3.out A5)
    have K5 := Lib.hid (below_blk A5 K3.out K3.out.lt)
    have H5 := Lib.hid (below_blk A5 H3.out H3.out.lt)
    have W5 := Lib.hid (below_blk A5 W3.out W3.out.lt)
    have T5 := Lib.hid (Blk.new w4 #[.slice bua n.nodes.length bub, .slice ia (islandsE n).length ic] 47)
    have I5 := Lib.hid (h2.below (belowA (Below.refl w4.heap.size w4) (.cells #[.slice bua n.nodes.length bub, .slice ia (islandsE n).length ic] 47)))
    have HR := Lib.hid (HRW.out _ _ B5.out (HT.below (belowA (Below.refl w4.heap.size w4) (.cells #[.slice bua n.nodes.length bub, .slice ia (islandsE n).length ic] 47))))
    clear z0 z1 z2 z3 z4 z5 zl A5 B3 K3 H3 W3 h1 h2 hb4 HT HC HRW
    go_upto_region 5 with fail
    generalize hw5 : w4.alloc (.cells #[.slice bua n.nodes.length bub, .slice ia (islandsE n).length ic] 47) = w5 at *
    generalize w4.heap.size = tb at *
    clear hw5
    have z0 := K5.out.cell 0 rfl
    have z1 := K5.out.cell 1 rfl
    have z2 := K5.out.cell 2 rfl
    have z3 := K5.out.cell 3 rfl
    have z4 := K5.out.cell 4 rfl
    have z5 := K5.out.cell 5 rfl
    have zl := K5.out.lt
    have t0 := T5.out.cell 0 rfl
    have t1 := T5.out.cell 1 rfl
    have tl := T5.out.lt
    go_wp2_with fail
    refine HR.out.mono ?_; rintro e w6 ⟨⟨gv, rfl, ho⟩, hb6⟩
    have G6 := HGR.out _ _ _ ho
    have hgn : ∀ k c, gv = .slice none k c → c = 0 := ho.nil_cap
    obtain ⟨ga2, gc2, rfl⟩ := ho.slice
    rw [HRL.out] at G6 hgn ⊢
    have A7 := belowT hb6 (belowA (Below.refl w6.heap.size w6) (.cells #[.slice ga2 l.length gc2] 73))
    have B7 := Lib.hid (belowT B5.out A7)
    have H7 := Lib.hid (below_blk A7 H5.out H5.out.lt)
    have W7 := Lib.hid (below_blk A7 W5.out W5.out.lt)
    have T7 := Lib.hid (below_blk A7 T5.out T5.out.lt)
    have I7 := Lib.hid (I5.out.below A7)
    have GB7 := Lib.hid (Blk.new w6 #[.slice ga2 l.length gc2] 73)
    have G7 := Lib.hid (G6.below (belowA (Below.refl w6.heap.size w6) (.cells #[.slice ga2 l.length gc2] 73)))
    have HGN := Lib.hid hgn
    have HF := Lib.hid (HFO.out _ bua ia bub ic I7.out)
    clear z0 z1 z2 z3 z4 z5 zl t0 t1 tl A7 B5 K5 H5 W5 T5 I5 G6 hgn ho hb6 HR HGR HRL HFO
    go_upto_region 6 with fail
    generalize hw7 : w6.alloc (.cells #[.slice ga2 l.length gc2] 73) = w7 at *
    generalize w6.heap.size = gb at *
    clear hw7
    have t0 := T7.out.cell 0 rfl
    have t1 := T7.out.cell 1 rfl
    have tl := T7.out.lt
    go_wp2_with fail
    refine HF.out.mono ?_; rintro e w8 ⟨⟨fv, rfl, hfv⟩, hb8⟩
    obtain ⟨fa, fc, rfl⟩ := hfv.slice
    have A9 := belowT hb8 (belowA (Below.refl w8.heap.size w8) (.cells #[.slice fa (freeE n).length fc] 39))
    have B9 := Lib.hid (belowT B7.out A9)
    have H9 := below_blk A9 H7.out H7.out.lt
    have W9 := below_blk A9 W7.out W7.out.lt
    have T9 := below_blk A9 T7.out T7.out.lt
    have I9 := Lib.hid (I7.out.below A9)
    have GB9 := below_blk A9 GB7.out GB7.out.lt
    have G9 := Lib.hid (G7.out.below A9)
    have FB9 := Blk.new w8 #[.slice fa (freeE n).length fc] 39
    have F9 := Lib.hid (hfv.below (belowA (Below.refl w8.heap.size w8) (.cells #[.slice fa (freeE n).length fc] 39)))
    have T9' := Lib.hid T9
    have BK9 := Lib.hid (And.intro T9 (And.intro GB9 (And.intro FB9 (And.intro W9 H9))))
    clear t0 t1 tl A9 B7 H7 W7 T7 I7 GB7 G7 hfv hb8 HF H9 W9 GB9 FB9 T9
    go_upto_region 7 with fail
    generalize hw9 : w8.alloc (.cells #[.slice fa (freeE n).length fc] 39) = w9 at *
    generalize w8.heap.size = fb at *
    clear hw9
    have t1 := T9'.out.cell 1 rfl
    have tl := T9'.out.lt
    have HMK := make_is (islandsE n).length (by omega)
    have OB := Lib.hid (Blk.new w9 (ints (List.replicate (islandsE n).length 0)).toArray 3)
    have OA := Lib.hid (belowA (Below.refl w9.heap.size w9) (.cells (ints (List.replicate (islandsE n).length 0)).toArray 3))
    obtain ⟨N, hN⟩ : ∃ N, (islandsE n).length = N := ⟨_, rfl⟩
    rw [hN] at HMK OB OA HSM BK9 I9 t1 T9' HAE hil
    generalize islandsE n = IL at *
    have HIL := Lib.hid hN
    clear hN
    go_upto_region 9 with (rw [HMK])
    obtain ⟨wa, hwa⟩ : ∃ W, w9.alloc (.cells (ints (List.replicate N 0)).toArray 3) = W := ⟨_, rfl⟩
    rw [hwa] at OB OA ⊢
    obtain ⟨ob, hob⟩ : ∃ p, w9.heap.size = p := ⟨_, rfl⟩
    have HOB := Lib.hid hob
    rw [hob] at OB OA ⊢
    clear hwa hob t1 tl HMK T9'
    go_wp2_with fail
    go_loopw [42, 14] (fun i nx wr => ∃ k : Nat, k ≤ N ∧ i = .int .i64 k ∧ nx = .int .i64 (Lin.areaF SE k).2 ∧ Hid (Blk wr ob (ints (padI (Lin.areaF SE k).1 N)).toArray 3) ∧ Hid (Below ob w9 wr)) (fun i _ _ => N - (intOf i).toNat)
    case atStart => exact ⟨0, Nat.zero_le _, rfl, rfl, OB.out, OA.out⟩
    case round =>
      clear OB OA
      obtain ⟨k, hk, rfl, rfl, ho, hb'⟩ := hrel
      obtain ⟨wo, rfl⟩ : ∃ wo : World, wo = wr := ⟨_, rfl⟩
      obtain ⟨hal, hn0, hn1⟩ := HAL.out k
      have BW : Hid (Below w9.heap.size w9 wo) := by show Below _ _ _; rw [HOB.out]; exact hb'.out
      have HPL := Lib.hid (padI_len (l := (Lin.areaF SE k).1) (N := N) (by omega))
      by_cases hlt : k < N
      · have HSX := Lib.hid (fun j W (hj : j < N) (hW : Below wo.heap.size wo W) => HSM.out j k tb gb fb (hb + 1) hb l.length bua ia ga2 fa n.nodes.length bub ic gc2 fc W hj hlt (by have h := I9.out.below (belowT BW.out hW); show Reads _ _ IL.length _; rw [HIL.out]; exact h) (G9.out.below (belowT BW.out hW)) HGN.out (F9.out.below (belowT BW.out hW)) (by
          have h := belowT BW.out hW
          obtain ⟨k1, k2, k3, k4, k5⟩ := BK9.out
          exact ⟨below_blk h k1 k1.lt, below_blk h k2 k2.lt, below_blk h k3 k3.lt, below_blk h k4 k4.lt, below_blk h k5 k5.lt⟩))
        have HST := Lib.hid (HAS.out k)
        have HFS := Lib.hid (Lin.firstS_spec SE k k 0)
        generalize hA : Lin.areaF SE k = A at *
        obtain ⟨AL, AN⟩ := A
        simp only at hal hn0 hn1 HST ho HPL ⊢
        have HA := Lib.hid hA
        clear hA
        go_wp2_with fail
        go_loopw [16] (fun kk wi => ∃ j : Nat, j ≤ k ∧ kk = .int .i64 j ∧ Hid (Lin.firstS SE k (k - j) j = Lin.firstS SE k k 0) ∧ Hid (Below wo.heap.size wo wi)) (fun kk _ => k - (intOf kk).toNat)
        case atStart => exact ⟨0, Nat.zero_le _, rfl, rfl, Below.refl _ _⟩
        case round =>
          obtain ⟨j, hj, rfl, hfs, hbi⟩ := hrel
          by_cases hjk : j < k
          · obtain ⟨b, hbv⟩ : ∃ b, SE j k = b := ⟨_, rfl⟩
            have hcall := HSX.out j wr (by omega) hbi.out
            rw [hbv] at hcall
            have HCALL := Lib.hid hcall
            have HBV := Lib.hid hbv
            clear hcall hbv
            have HF1 : Hid (Lin.firstS SE k (k - j) j = if SE j k = true then j else Lin.firstS SE k (k - (j + 1)) (j + 1)) := by
              show _ = _
              rw [show k - j = (k - (j + 1)) + 1 by omega]; rfl
            have q3 : decide ((j : Int) < (k : Int)) = true := decide_eq_true (by omega)
            go_wp2_with fail
            refine HCALL.out.mono ?_; rintro e w10 ⟨rfl, hb10⟩
            have B10 := Lib.hid (belowT hbi.out hb10)
            clear hb10 HCALL hbi
            cases b with
            | true =>
              have hF : Lin.firstS SE k k 0 = j := by rw [← hfs.out, HF1.out, HBV.out]; rfl
              have HX : Hid (Lin.areaF SE (k + 1) = (AL ++ [AL.getD j 0], AN)) := by
                show _ = _; rw [HST.out, hF, if_pos hjk]
              have oc := below_blk B10.out ho.out ho.out.lt
              have y0 := oc.int (i := j) (by rw [HPL.out]; omega)
              rw [padI_get (by omega)] at y0
              have y1 := oc.int (i := k) (by rw [HPL.out]; omega)
              have g1 := oc.free k
              have ol := oc.lt
              have OC := Lib.hid oc
              have HAL2 := Lib.hid hal
              have HBB := Lib.hid (hb'.out.trans (B10.out.mono (by rw [← HOB.out]; exact BW.out.size)))
              clear hF hfs HF1 HBV oc hal B10
              go_wp2_with fail
              go_roundw
              case rel =>
                refine ⟨k + 1, by omega, by go_num, by rw [HX.out], ?_, HBB.out.setCell (p := ⟨ob, k, none⟩) (Nat.le_refl _) _⟩
                rw [HX.out]
                have h := OC.out.set k (.int .i64 (AL.getD j 0))
                rw [ints_set] at h
                have e := padI_set (l := AL) (N := N) (AL.getD j 0) (by rw [HAL2.out]; exact hlt)
                rw [HAL2.out] at e
                rw [e] at h
                exact h
              case measure => simp [intOf]; omega
            | false =>
              have hfs2 : Hid (Lin.firstS SE k (k - (j + 1)) (j + 1) = Lin.firstS SE k k 0) := by
                show _ = _; rw [← hfs.out, HF1.out, HBV.out]; rfl
              clear hfs HF1 HBV
              go_wp2_with fail
              go_roundw
              case rel => exact ⟨j + 1, by omega, by go_num, hfs2, B10.out⟩
              case measure => simp [intOf]; omega
          · obtain rfl : k = j := by omega
            have hF : Lin.firstS SE k k 0 = k := by rw [← hfs.out, Nat.sub_self]; rfl
            have HX : Hid (Lin.areaF SE (k + 1) = (AL ++ [AN], AN + 1)) := by
              show _ = _; rw [HST.out, hF, if_neg (Nat.lt_irrefl k)]
            have oc := below_blk hbi.out ho.out ho.out.lt
            have y1 := oc.int (i := k) (by rw [HPL.out]; omega)
            have g1 := oc.free k
            have ol := oc.lt
            have OC := Lib.hid oc
            have HAL2 := Lib.hid hal
            have HBB := Lib.hid (hb'.out.trans (hbi.out.mono (by rw [← HOB.out]; exact BW.out.size)))
            clear hF hfs oc hal hbi
            go_wp2_with fail
            go_roundw
            case rel =>
              refine ⟨k + 1, by omega, by go_num, by rw [HX.out], ?_, HBB.out.setCell (p := ⟨ob, k, none⟩) (Nat.le_refl _) _⟩
              rw [HX.out]
              have h := OC.out.set k (.int .i64 AN)
              rw [ints_set] at h
              have e := padI_set (l := AL) (N := N) AN (by rw [HAL2.out]; exact hlt)
              rw [HAL2.out] at e
              rw [e] at h
              exact h
            case measure => simp [intOf]; omega
      · obtain rfl : k = N := by omega
        have HR : Hid (IVal wo (.slice (some ⟨ob, 0, none⟩) k k) AE) := by
          have h := ho.out
          rw [padI_all hal, ← HAE.out] at h
          have hl : AE.length = k := by rw [HAE.out]; exact hal
          have h2 := ival_blk h (by omega)
          rw [hl] at h2; exact h2
        have HBB := Lib.hid (belowT B9.out BW.out)
        clear hal ho hb' BW HPL HAL HAS
        go_wp2_with fail
        exact HP2.out _ _ HR HBB.out
  · have q1 : (metE n l != 0) = true := by simp [h0]
    generalize metE n l = ME at *
    obtain ⟨la2, lcap, rfl⟩ := hin.rd.slice
    obtain ⟨na, nc, sa, sc, ba, bc, ga, gc, la, lc, ta, tc⟩ := x0
    simp only [NAddr.val] at HER ⊢
    have B1 := Lib.hid (belowA (Below.refl w.heap.size w) (.cells #[.slice na n.nodes.length nc, .slice sa n.sws.length sc, .slice ba n.brs.length bc, .slice ga n.gens.length gc, .slice la n.loads.length lc, .slice ta n.stores.length tc] 29))
    have K1 := Lib.hid (Blk.new w #[.slice na n.nodes.length nc, .slice sa n.sws.length sc, .slice ba n.brs.length bc, .slice ga n.gens.length gc, .slice la n.loads.length lc, .slice ta n.stores.length tc] 29)
    generalize n.sws.length = sn at *
    generalize n.brs.length = bn at *
    generalize n.gens.length = gn at *
    generalize n.loads.length = lon at *
    generalize n.stores.length = tn at *
    have HC := Lib.hid (HER.out h0 _ B1.out)
    have HP1 := Lib.hid (fun w' => HP1.out w' ME h0 rfl)
    clear h0 HOK HER HP0 hin
    go_enter Try.func15, Try.ntmps15
    go_wp2_with fail
    refine HC.out.mono ?_; rintro e w2 ⟨rfl, hb2⟩
    have B2 := Lib.hid (belowT (belowT B1.out hb2) (belowA (belowA (Below.refl w2.heap.size w2) (.cells #[.int .i64 0] 3)) (.cells #[.int .i64 0] 3)))
    clear hb2 B1 K1 HC
    go_wp2_with fail
    exact HP1.out _ B2.out
end Go.Proofs.Ythcddboeejbncaa
namespace Go.Proofs.Ythcddboeejbncaa
open Go.RowKit

set_option maxHeartbeats 1000000 in
theorem sameInts_c (va vb : Value) (la lb : List Int) (w : World) (ha : IVal w va la) (hb : IVal w vb lb) :
    Calls Try.prog 26 #[va, vb] w fun e w' => e = .returned (.bool (decide (la = lb))) ∧ Below w.heap.size w w' := by
  have bound : ∀ {v : Value} {l : List Int}, IVal w v l → l.length ≤ 9223372036854775807 := by
    intro v l h
    rcases h with ⟨h, _⟩ | ⟨_, _, _, _, _, h, _⟩
    · omega
    · exact h
  have ba := bound ha
  have bb := bound hb
  obtain ⟨aa, ca, rfl⟩ := ha.slice
  obtain ⟨ab, cb, rfl⟩ := hb.slice
  obtain ⟨n, hn⟩ : ∃ n, la.length = n := ⟨_, rfl⟩
  obtain ⟨m, hm⟩ : ∃ m, lb.length = m := ⟨_, rfl⟩
  have HA : Hid (Reads w (.slice aa n ca) n (ints la)) := by show Reads _ _ _ _; rw [← hn]; exact ha
  have HB : Hid (Reads w (.slice ab m cb) m (ints lb)) := by show Reads _ _ _ _; rw [← hm]; exact hb
  have HN := Lib.hid hn
  have HM := Lib.hid hm
  have HE : Hid (decide (la = lb) = decide (la = lb)) := rfl
  rw [hn] at ba ⊢
  rw [hm] at bb ⊢
  clear ha hb bound
  by_cases hnm : n = m
  · subst hnm
    have HI : Hid (∀ k, k ≤ n → la.take k = lb.take k → k = n → la = lb) := by
      intro k _ ht e
      rw [e] at ht
      rwa [List.take_of_length_le (by omega), List.take_of_length_le (by omega)] at ht
    have HF : Hid (∀ k, k < n → la.getD k 0 ≠ lb.getD k 0 → la ≠ lb) := by
      intro k _ hne e; exact hne (by rw [e])
    have HS : Hid (∀ k, k < n → la.take k = lb.take k → la.getD k 0 = lb.getD k 0 → la.take (k + 1) = lb.take (k + 1)) := by
      intro k hk ht he
      have q1 : k < la.length := by omega
      have q2 : k < lb.length := by omega
      rw [List.take_add_one, List.take_add_one, ht]
      congr 1
      simp [q1, q2] at he ⊢
      exact he
    generalize hE : decide (la = lb) = E at *
    have HEE := Lib.hid hE
    clear hE hn hm
    go_enter Try.func26, Try.ntmps26
    go_wp2_with fail
    go_loopw [13] (fun i wr => ∃ k : Nat, k ≤ n ∧ i = .int .i64 k ∧ la.take k = lb.take k ∧ Below w.heap.size w wr) (fun i _ => n - (intOf i).toNat)
    case atStart => exact ⟨0, Nat.zero_le _, rfl, rfl, Below.refl _ _⟩
    case round =>
      obtain ⟨k, hk, rfl, ht, hb⟩ := hrel
      by_cases hlt : k < n
      · obtain ⟨b1, o1, c1, hvv, _, _, hl1, hc1⟩ := HA.out.addr (by omega)
        simp only [Value.slice.injEq] at hvv
        obtain ⟨rfl, _, rfl⟩ := hvv
        obtain ⟨b2, o2, c2, hvv, _, _, hl2, hc2⟩ := HB.out.addr (by omega)
        simp only [Value.slice.injEq] at hvv
        obtain ⟨rfl, _, rfl⟩ := hvv
        have x1 := hc1 k _ (ints_get (by rw [HN.out]; exact hlt))
        have x2 := hc2 k _ (ints_get (by rw [HM.out]; exact hlt))
        rw [← hb.cell (by exact hl1)] at x1
        rw [← hb.cell (by exact hl2)] at x2
        have ws := hb.size
        have hf := HF.out k hlt
        have hs := HS.out k hlt ht
        generalize la.getD k 0 = p at *
        generalize lb.getD k 0 = q at *
        have HT := Lib.hid ht
        have HFk := Lib.hid hf
        have HSk := Lib.hid hs
        have HBw := Lib.hid hb
        clear ht hf hs hb hc1 hc2
        by_cases hpq : p = q
        · have g1 : (p != q) = false := by simp [hpq]
          have HP := Lib.hid hpq
          clear hpq
          go_wp2_with fail
          refine wp_region_quiet_lit (by kernel_rfl) (by kernel_rfl) ?_
          repeat (first | go_big_quiet_step (fail) | (go_big_quiet_want; go_simp; go_big_quiet_on))
          refine wpQuiet_nil ?_
          intro _ hw'
          obtain ⟨nq, hw''⟩ := hw'
          subst hw''
          go_wp2_with fail
          go_roundw
          case rel => exact ⟨k + 1, by omega, by go_num, HSk.out HP.out, below_drewN HBw.out _⟩
          case measure => simp [intOf]; omega
        · have g1 : (p != q) = true := by simp [hpq]
          have HP := Lib.hid hpq
          clear hpq
          go_wp2_with fail
          refine wp_region_quiet_lit (by kernel_rfl) (by kernel_rfl) ?_
          repeat (first | go_big_quiet_step (fail) | (go_big_quiet_want; go_simp; go_big_quiet_on))
          refine wpQuiet_nil ?_
          intro _ hw'
          obtain ⟨nq, hw''⟩ := hw'
          subst hw''
          go_wp2_with fail
          go_ret
          exact ⟨by rw [← HEE.out, decide_eq_false (HFk.out HP.out)]; rfl, below_drewN HBw.out _⟩
      · have HX := Lib.hid (HI.out k hk ht (by omega))
        have HBw := Lib.hid hb
        clear ht hb
        go_wp2_with fail
        go_ret
        exact ⟨by rw [← HEE.out, decide_eq_true HX.out]; rfl, HBw.out⟩
  · have HX : Hid (decide (la = lb) = false) := by show _ = _; apply decide_eq_false; intro e; rw [e, hm] at hn; exact hnm hn.symm
    generalize decide (la = lb) = E at *
    have g1 : ((n : Int) != m) = true := by simp; omega
    clear hnm hn hm
    go_enter Try.func26, Try.ntmps26
    go_wp2_with fail
    go_ret
    exact ⟨by rw [HX.out]; rfl, Below.refl _ _⟩
end Go.Proofs.Ythcddboeejbncaa
