/- choose: way, the walk. -/
import Derived.Test.YtplebibabcdipaaCho13
import Derived.Test.YtplebibabcdipaaChoH
import Derived.Deep.CutBlock
import Derived.Test.YtplebibabcdipaaIns
namespace Go.Proofs.Ytplebibabcdipaa
open Go.RowKit

theorem But.bel {b : Nat} {w w' : World} (k : But b w w') (hb : b ≤ w.heap.size) : Below b w w' := ⟨k.os, k.tape, k.output, k.size, fun j hj => k.block j (by omega) (fun e => by simp at e; omega)⟩
theorem But.andBelow {b : Nat} {w w1 w2 : World} (h : But b w w1) (k : Below w.heap.size w1 w2) : But b w w2 :=
  ⟨k.os.trans h.os, k.tape.trans h.tape, k.output.trans h.output, Nat.le_trans h.size k.size, fun j hj hne => (k.block j hj).trans (h.block j hj hne)⟩
def fwI : Option Nat → Int
  | none => -1
  | some k => k
theorem sumA_le : ∀ (f : List Int), (∀ k, -1000 ≤ f.getD k 0 ∧ f.getD k 0 ≤ 1000) → sumA f ≤ 1000 * f.length := by
  intro f
  induction f with
  | nil => intro _; exact Nat.le_refl _
  | cons x xs ih =>
    intro h
    have h0 := h 0
    have h1 := ih (fun k => by have := h (k + 1); simpa using this)
    simp only [List.getD_cons_zero] at h0
    simp only [sumA, List.length_cons]
    omega
set_option maxHeartbeats 8000000 in
set_option maxRecDepth 100000 in
theorem way_c (c : CNet) (hc : c.Ok) (hl : NoLoop c) (X : Nat) (ea : Option Addr) (ec : Nat) (sa : Option Addr) (sc : Nat) (f : List Int) (fb : Nat) (w : World) (hn : Hid (∀ W, Below fb w W → NetC W X c ea ec sa sc)) (hf : FlowB c f) (hv : Blk w fb (ints f).toArray 3) :
    Calls Try.prog 63 #[.pointer (some ⟨X, 0, none⟩), .slice (some ⟨fb, 0, none⟩) c.edges.length c.edges.length] w fun e w' => ∃ v, e = .returned v ∧ w'.ownsRow w.heap.size 9 1 v (wayC c f).1.length (strs (wayC c f).1) ∧ Blk w' fb (ints (wayC c f).2).toArray 3 ∧ But fb w w' := by
  have hfw0 := hv.lt
  have HNL : Hid (∀ e ∈ c.edges, e.a ≠ e.b) := hl
  have HNE : Hid (∀ (j : Nat) (e : CEdge), c.edges[j]? = some e → e.a < c.nodes ∧ e.b < c.nodes) := fun j e he => hc.ne e (List.mem_of_getElem? he)
  have hm := hc.m
  have hat := hc.at_
  obtain ⟨es, hES⟩ : ∃ r, c.edges = r := ⟨_, rfl⟩
  have HES := Lib.hid hES
  obtain ⟨nd, hND⟩ : ∃ r, c.nodes = r := ⟨_, rfl⟩
  have HND := Lib.hid hND
  have HSL : Hid (c.src.length = nd) := by show _ = _; rw [← hND]; exact hc.src
  rw [hES] at HNL HNE hm ⊢
  rw [hND] at HNE hat
  obtain ⟨m, hM⟩ : ∃ k, es.length = k := ⟨_, rfl⟩
  have HM0 := Lib.hid hM
  have HM : Hid (c.edges.length = m) := by show _ = _; rw [hES]; exact hM
  rw [hM] at hm ⊢
  have hfl0 : Hid (f.length = m) := by show _ = _; rw [hf.len]; exact HM.out
  have HBD0 : Hid (∀ k, -1000 ≤ f.getD k 0 ∧ f.getD k 0 ≤ 1000) := fun k => ⟨hf.lo k, hf.hi k⟩
  have HSA : Hid (([] : List ByteArray).length + sumA f ≤ 1000000) := by
    have h1 := sumA_le f HBD0.out
    have h2 := hfl0.out
    show _ ≤ _
    rw [h2] at h1
    have : 1000 * m ≤ 1000 * 1000 := Nat.mul_le_mul_left _ hm
    simp only [List.length_nil]; omega
  obtain ⟨RES, hRES⟩ : ∃ r, wayC c f = r := ⟨_, rfl⟩
  have HR0 : Hid (wayG c c.at_ [] f = RES) := hRES
  rw [hRES]
  have hN0 := hn.out w (Below.refl _ _)
  have x3 := hN0.blk.cell 3 rfl
  have O0 : Hid (w.ownsRow w.heap.size 9 1 (.slice none 0 0) ([] : List ByteArray).length (strs [])) := ⟨rfl, Or.inl ⟨rfl, rfl⟩⟩
  have K0 : Hid (Blk w fb (ints f).toArray 3) := hv
  clear hES hND hM hRES hN0 hv hf
  go_enter Try.func63, Try.ntmps63
  go_wp2_with fail
  go_loopg [6, 5] (sumA f) (fun gh av lv wr => ∃ (at_ : Nat) (l : List ByteArray) (f' : List Int), gh = sumA f' ∧ av = .int .i64 at_ ∧ at_ < nd ∧ Hid (wayG c at_ l f' = RES) ∧ Hid (f'.length = m) ∧ Hid (∀ k, -1000 ≤ f'.getD k 0 ∧ f'.getD k 0 ≤ 1000) ∧ Hid (Blk wr fb (ints f').toArray 3) ∧ Hid (wr.ownsRow w.heap.size 9 1 lv l.length (strs l)) ∧ Hid (l = [] → lv = .slice none 0 0) ∧ Hid (But fb w wr) ∧ Hid (l.length + sumA f' ≤ 1000000))
  case atStart => exact ⟨c.at_, [], f, rfl, rfl, hat, HR0, hfl0, HBD0, K0, O0, fun _ => rfl, But.refl _ _, HSA⟩
  case round =>
    clear HR0 hfl0 HBD0 K0 O0 HSA x3
    obtain ⟨at_, l, f', rfl, rfl, hatl, hrs, hfl, hbd, hk, ho, hln, hb, hlb⟩ := hrel
    have N1 := hn.out wr (hb.out.bel (Nat.le_of_lt hfw0))
    have x1 := N1.blk.cell 1 rfl
    rw [HM.out] at x1
    obtain ⟨KK, hKK⟩ : ∃ r, findW f' at_ es 0 = r := ⟨_, rfl⟩
    have HK0 : Hid (findW f' at_ (es.drop 0) 0 = KK) := hKK
    have HKK := Lib.hid hKK
    clear hKK N1
    go_upto_block 2 with fail
    go_cut [7, 8, 9] from 20 to 50 (fun s7 _ _ wx => s7 = .int .i64 (fwI KK) ∧ Hid (Blk wx fb (ints f').toArray 3) ∧ Hid (wx.ownsRow w.heap.size 9 1 u5 l.length (strs l)) ∧ Hid (But fb w wx))
    case first =>
      go_wp2_with fail
      go_loopw [20, 7] (fun i s7 wx => ∃ j : Nat, j ≤ m ∧ i = .int .i64 j ∧ s7 = .int .i64 (-1) ∧ Hid (findW f' at_ (es.drop j) j = KK) ∧ Hid (Blk wx fb (ints f').toArray 3) ∧ Hid (wx.ownsRow w.heap.size 9 1 u5 l.length (strs l)) ∧ Hid (But fb w wx)) (fun i _ _ => m - (intOf i).toNat)
      case atStart => exact ⟨0, Nat.zero_le _, rfl, rfl, HK0, hk, ho, hb⟩
      case round =>
        clear HK0 hk ho hb x1
        obtain ⟨j, hj, rfl, rfl, hfw, hk, ho, hb⟩ := hrel
        by_cases hlt : j < m
        ·
          obtain ⟨e, he⟩ : ∃ x, es[j]? = some x := ⟨_, List.getElem?_eq_getElem (by rw [HM0.out]; exact hlt)⟩
          have N5 := hn.out wr (hb.out.bel (Nat.le_of_lt hfw0))
          obtain ⟨eg, eoff, ecap, evv, _, _, _, ecc⟩ := N5.edges.addr (by rw [HM.out]; omega)
          simp only [Value.slice.injEq] at evv
          obtain ⟨rfl, _, rfl⟩ := evv
          have hd := findW_drop (f := f') (at_ := at_) he
          have hab := HNL.out e (List.mem_of_getElem? he)
          rw [← HES.out] at he
          obtain ⟨c0, c1, c2, c3⟩ := ce_cells ecc he
          obtain ⟨nm, a, b, bk⟩ := e
          simp only at c0 c1 c2 c3 hab
          rw [hd] at hfw
          have f0 := hk.out.int (i := j) (by rw [hfl.out]; exact hlt)
          have f0 := (hk.out.alloc (.cells #[.string nm, .int .i64 a, .int .i64 b, .bool bk] 126)).int (i := j) (by rw [hfl.out]; exact hlt)
          have E2 := Blk.new wr #[.string nm, .int .i64 a, .int .i64 b, .bool bk] 126
          have B2 := Lib.hid (hb.out.alloc (.cells #[.string nm, .int .i64 a, .int .i64 b, .bool bk] 126))
          have O2 := Lib.hid (row_alloc ho.out (.cells #[.string nm, .int .i64 a, .int .i64 b, .bool bk] 126))
          have K2 := Lib.hid (hk.out.alloc (.cells #[.string nm, .int .i64 a, .int .i64 b, .bool bk] 126))
          obtain ⟨vb, hvb⟩ : ∃ b, wr.heap.size = b := ⟨_, rfl⟩
          have HVB := Lib.hid hvb
          rw [hvb] at E2
          have HIW0 : Hid (inW f' at_ j ⟨nm, a, b, bk⟩ = ((((b : Int) == (at_ : Int)) && decide (0 < f'.getD j 0)) || (((a : Int) == (at_ : Int)) && decide (f'.getD j 0 < 0)))) := rfl
          clear hvb ecc he hd N5
          go_upto_region 7 with fail
          rw [HVB.out]
          generalize wr.alloc (.cells #[.string nm, .int .i64 a, .int .i64 b, .bool bk] 126) = W2 at *
          clear c0 c1 c2 c3 HVB hb ho hk
          have e1 := E2.cell 1 rfl
          have e2 := E2.cell 2 rfl
          have p1 : decide ((j : Int) < 0) = false := decide_eq_false (by omega)
          have p2 : decide ((m : Int) ≤ (j : Int)) = false := decide_eq_false (by omega)
          have p3 : decide (m ≤ j) = false := decide_eq_false (by omega)
          generalize f'.getD j 0 = F at *
          by_cases hbi : b = at_
          ·
            have g1 : ((b : Int) == (at_ : Int)) = true := by simp [hbi]
            have g3 : ((a : Int) == (at_ : Int)) = false := by rw [beq_eq_false_iff_ne]; omega
            by_cases h0 : 0 < F
            ·
              have g2 : decide (0 < F) = true := decide_eq_true h0
              have HIW : Hid (inW f' at_ j ⟨nm, a, b, bk⟩ = true) := by show _ = _; rw [HIW0.out, g1, g2]; rfl
              clear hbi h0 hab HIW0
              have HFK : Hid (KK = some j) := by show _ = _; rw [← hfw.out]; exact if_pos HIW.out
              clear hfw
              go_wp2_with fail
              go_meet
              exact ⟨by rw [HFK.out]; rfl, K2, O2, B2⟩
            ·
              have g2 : decide (0 < F) = false := decide_eq_false h0
              have HIW : Hid (inW f' at_ j ⟨nm, a, b, bk⟩ = false) := by show _ = _; rw [HIW0.out, g1, g2, g3]; rfl
              clear hbi h0 hab HIW0
              have HFN : Hid (findW f' at_ (es.drop (j + 1)) (j + 1) = KK) := by show _ = _; rw [← hfw.out]; exact (if_neg (by rw [HIW.out]; decide)).symm
              clear hfw
              go_wp2_with fail
              go_roundw
              case rel => exact ⟨j + 1, hlt, by go_num, rfl, HFN, K2, O2, B2⟩
              case measure => simp [intOf]; omega
          ·
            have g1 : ((b : Int) == (at_ : Int)) = false := by rw [beq_eq_false_iff_ne]; omega
            by_cases hai : a = at_
            ·
              have g3 : ((a : Int) == (at_ : Int)) = true := by simp [hai]
              by_cases h0 : F < 0
              ·
                have g2 : decide (F < 0) = true := decide_eq_true h0
                have HIW : Hid (inW f' at_ j ⟨nm, a, b, bk⟩ = true) := by show _ = _; rw [HIW0.out, g1, g2, g3]; rfl
                clear hbi hai h0 hab HIW0
                have HFK : Hid (KK = some j) := by show _ = _; rw [← hfw.out]; exact if_pos HIW.out
                clear hfw
                go_wp2_with fail
                go_meet
                exact ⟨by rw [HFK.out]; rfl, K2, O2, B2⟩
              ·
                have g2 : decide (F < 0) = false := decide_eq_false h0
                have HIW : Hid (inW f' at_ j ⟨nm, a, b, bk⟩ = false) := by show _ = _; rw [HIW0.out, g1, g2, g3]; rfl
                clear hbi hai h0 hab HIW0
                have HFN : Hid (findW f' at_ (es.drop (j + 1)) (j + 1) = KK) := by show _ = _; rw [← hfw.out]; exact (if_neg (by rw [HIW.out]; decide)).symm
                clear hfw
                go_wp2_with fail
                go_roundw
                case rel => exact ⟨j + 1, hlt, by go_num, rfl, HFN, K2, O2, B2⟩
                case measure => simp [intOf]; omega
            ·
              have g3 : ((a : Int) == (at_ : Int)) = false := by rw [beq_eq_false_iff_ne]; omega
              have HIW : Hid (inW f' at_ j ⟨nm, a, b, bk⟩ = false) := by show _ = _; rw [HIW0.out, g1, g3]; rfl
              clear hbi hai hab HIW0
              have HFN : Hid (findW f' at_ (es.drop (j + 1)) (j + 1) = KK) := by show _ = _; rw [← hfw.out]; exact (if_neg (by rw [HIW.out]; decide)).symm
              clear hfw
              go_wp2_with fail
              go_roundw
              case rel => exact ⟨j + 1, hlt, by go_num, rfl, HFN, K2, O2, B2⟩
              case measure => simp [intOf]; omega
        ·
          have hn0 : es.drop j = [] := List.drop_eq_nil_of_le (by rw [HM0.out]; omega)
          have HKN : Hid (KK = none) := by show _ = _; rw [← hfw.out, hn0]; rfl
          clear hn0 hfw
          go_wp2_with fail
          go_meet
          exact ⟨by rw [HKN.out]; rfl, hk, ho, hb⟩
    case rest =>
      clear HK0 hk ho hb x1
      obtain ⟨rfl, hk, ho, hb⟩ := hcut
      cases KK with
      | none =>
        have HRR : Hid (RES = (l, f')) := by show _ = _; rw [← hrs.out]; exact wayG_none (by rw [HES.out]; exact HKK.out)
        have e7 : fwI none = -1 := rfl
        clear HKK hrs
        go_wp2_with fail
        go_ret
        exact ⟨u5, rfl, by rw [HRR.out]; exact ho.out, by rw [HRR.out]; exact hk.out, hb.out⟩
      | some k =>
        have hkk : findW f' at_ c.edges 0 = some k := by rw [HES.out]; exact HKK.out
        have hfe : f'.length = c.edges.length := by rw [hfl.out, HM.out]
        obtain ⟨_, e, he, hi⟩ := findW_some _ _ _ hkk
        rw [Nat.sub_zero] at he
        obtain ⟨_, _, m3, m4, m5, _⟩ := mvF_ok hl hfe he hi
        have hsel := wayG_some hl (l := l) hfe hkk
        have hkm : k < m := by have := (List.getElem?_eq_some_iff.1 he).1; rw [HM.out] at this; exact this
        have hee : edgeAt c k = e := by unfold edgeAt; simp [he]
        have hmb : ∀ j, -1000 ≤ (mvF c k at_ f').getD j 0 ∧ (mvF c k at_ f').getD j 0 ≤ 1000 := fun j => by
          have := hbd.out j
          by_cases hj : j = k
          · subst hj; omega
          · rw [m3 j hj]; exact this
        have hbk := hbd.out k
        have N3 := hn.out wc (hb.out.bel (Nat.le_of_lt hfw0))
        obtain ⟨eg, eoff, ecap, evv, _, _, _, ecc⟩ := N3.edges.addr (by rw [HM.out]; omega)
        simp only [Value.slice.injEq] at evv
        obtain ⟨rfl, _, rfl⟩ := evv
        obtain ⟨c0, c1, c2, c3⟩ := ce_cells ecc he
        have x1 := N3.blk.cell 1 rfl
        rw [HM.out] at x1
        obtain ⟨ia, ib⟩ := HNE.out k e (by rw [← HES.out]; exact he)
        have hres := hrs.out
        have hfar : farEnd c k at_ = if e.b = at_ then e.a else e.b := by unfold farEnd; rw [hee]
        have hmv : mvF c k at_ f' = f'.set k (if e.b = at_ then f'.getD k 0 - 1 else f'.getD k 0 + 1) := by unfold mvF; rw [hee]
        rw [hfar, hmv, hee] at hsel
        rw [hmv] at hmb m5
        have he := Lib.hid he
        obtain ⟨nm, a, b, bk⟩ := e
        simp only at c0 c1 c2 c3 ia ib hsel hmb m5
        have f0 := (hk.out.alloc (.cells #[.string nm, .int .i64 a, .int .i64 b, .bool bk] 126)).int (i := k) (by rw [hfl.out]; exact hkm)
        have ff := (hk.out.alloc (.cells #[.string nm, .int .i64 a, .int .i64 b, .bool bk] 126)).free k
        have E3 := Blk.new wc #[.string nm, .int .i64 a, .int .i64 b, .bool bk] 126
        have B3 := hb.out.alloc (.cells #[.string nm, .int .i64 a, .int .i64 b, .bool bk] 126)
        have O3 := row_alloc ho.out (.cells #[.string nm, .int .i64 a, .int .i64 b, .bool bk] 126)
        have K3 := hk.out.alloc (.cells #[.string nm, .int .i64 a, .int .i64 b, .bool bk] 126)
        obtain ⟨vb, hvb⟩ : ∃ b, wc.heap.size = b := ⟨_, rfl⟩
        have HVB := Lib.hid hvb
        have hne : vb ≠ fb := by have := hb.out.size; omega
        rw [hvb] at E3
        have e7 : fwI (some k) = (k : Int) := rfl
        have p1 : decide ((k : Int) < 0) = false := decide_eq_false (by omega)
        have p2 : decide ((m : Int) ≤ (k : Int)) = false := decide_eq_false (by omega)
        have p3 : decide (m ≤ k) = false := decide_eq_false (by omega)
        clear hvb ecc N3 hfar hmv m3 m4 hrs hkk hi hee HKK hfe hk ho hb
        go_upto_region 13 with fail
        rw [HVB.out]
        generalize wc.alloc (.cells #[.string nm, .int .i64 a, .int .i64 b, .bool bk] 126) = W4 at *
        clear c0 c1 c2 c3 HVB x1
        have e1 := E3.cell 1 rfl
        have e2 := E3.cell 2 rfl
        generalize f'.getD k 0 = F at *
        by_cases hbi : b = at_
        ·
          have g1 : ((b : Int) == (at_ : Int)) = true := by simp [hbi]
          rw [if_pos hbi, if_pos hbi] at hsel
          rw [if_pos hbi] at hmb m5
          have HBD2 := Lib.hid hmb
          have HSM := Lib.hid m5
          have hw := IntWalk.i64_in (F - 1) (by omega)
          have e3 := (E3.setOther ⟨fb, k, none⟩ hne (.int .i64 (F - 1))).cell 1 rfl
          have K5 := K3.set k (.int .i64 (F - 1))
          rw [ints_set] at K5
          have K5 := Lib.hid K5
          have B5 := Lib.hid (B3.set k (.int .i64 (F - 1)))
          have O5 := Lib.hid (ownsRow_setCell_below O3 (show (⟨fb, k, none⟩ : Addr).block < w.heap.size from hfw0) (.int .i64 (F - 1)))
          clear hbi hmb m5 E3 K3 B3 O3
          rw [hsel] at hres
          clear hsel
          go_upto_region 18 with fail
          generalize W4.setCell ⟨fb, k, none⟩ (.int .i64 (F - 1)) = W5 at *
          have x1 := (hn.out W5 (B5.out.bel (Nat.le_of_lt hfw0))).blk.cell 1 rfl
          obtain ⟨eg1, eoff1, ecap1, evv1, _, _, _, ecc1⟩ := (hn.out W5 (B5.out.bel (Nat.le_of_lt hfw0))).edges.addr (by rw [HM.out]; omega)
          simp only [Value.slice.injEq] at evv1
          obtain ⟨eqa, _, _⟩ := evv1
          cases eqa
          obtain ⟨d0, _, _, _⟩ := ce_cells ecc1 he.out
          simp only at d0
          rw [HM.out] at x1
          have EN := Blk.new W5 #[.string nm] 9
          have BN := B5.out.alloc (.cells #[.string nm] 9)
          have ON := row_alloc O5.out (.cells #[.string nm] 9)
          have KN := K5.out.alloc (.cells #[.string nm] 9)
          have hbz := BN.size
          have HIN := Lib.hid (insert0_c w.heap.size _ u5 l nm W5.heap.size ON hln.out hbz EN (fun g hg => by have := row_lt O5.out g hg; omega) (by have := hlb.out; omega))
          clear EN ON ecc1 he
          go_wp2_with fail
          refine HIN.out.mono ?_; rintro ee w6 ⟨lv', rfl, hO6, hB6⟩
          have K6 := Lib.hid (below_blk hB6 KN hfw0)
          have B6 := Lib.hid (BN.andBelow hB6)
          have O6 := Lib.hid hO6
          clear HIN hO6 hB6 KN BN hbz x1 d0
          have N6 := hn.out w6 (B6.out.bel (Nat.le_of_lt hfw0))
          have x2 := N6.blk.cell 2 rfl
          obtain ⟨sg, soff, scap, hvv, _, _, _, hcc⟩ := N6.src.addr (by rw [HSL.out]; omega)
          simp only [Value.slice.injEq] at hvv
          obtain ⟨eqa, _, _⟩ := hvv
          cases eqa
          have s0 := hcc a _ (bools_get (by rw [HSL.out]; exact ia))
          rw [HSL.out] at x2
          have p7 : decide ((a : Int) < 0) = false := decide_eq_false (by omega)
          have p8 : decide ((nd : Int) ≤ (a : Int)) = false := decide_eq_false (by omega)
          have p9 : decide (nd ≤ a) = false := decide_eq_false (by omega)
          generalize c.src.getD a false = SR at *
          clear hcc N6
          cases SR
          ·
            rw [if_neg (by decide)] at hres
            have HRS := Lib.hid hres
            clear hres
            go_wp2_with fail
            go_roundg (sumA (f'.set k (F - 1)))
            case rel => exact ⟨a, nm :: l, f'.set k (F - 1), rfl, rfl, ia, HRS, by show _ = _; rw [List.length_set]; exact hfl.out, HBD2, K6, O6, by show _ → _; intro h; (cases h), B6, by show _ ≤ _; have h1 := hlb.out; have h2 := HSM.out; simp only [List.length_cons]; omega⟩
            case measure => have := HSM.out; omega
          ·
            rw [if_pos rfl] at hres
            have HRS := Lib.hid hres
            clear hres
            go_wp2_with fail
            go_ret
            exact ⟨lv', rfl, by rw [← HRS.out]; exact O6.out, by rw [← HRS.out]; exact K6.out, B6.out⟩
        ·
          have g1 : ((b : Int) == (at_ : Int)) = false := by rw [beq_eq_false_iff_ne]; omega
          rw [if_neg hbi, if_neg hbi] at hsel
          rw [if_neg hbi] at hmb m5
          have HBD2 := Lib.hid hmb
          have HSM := Lib.hid m5
          have hw := IntWalk.i64_in (F + 1) (by omega)
          have e3 := (E3.setOther ⟨fb, k, none⟩ hne (.int .i64 (F + 1))).cell 2 rfl
          have K5 := K3.set k (.int .i64 (F + 1))
          rw [ints_set] at K5
          have K5 := Lib.hid K5
          have B5 := Lib.hid (B3.set k (.int .i64 (F + 1)))
          have O5 := Lib.hid (ownsRow_setCell_below O3 (show (⟨fb, k, none⟩ : Addr).block < w.heap.size from hfw0) (.int .i64 (F + 1)))
          clear hbi hmb m5 E3 K3 B3 O3
          rw [hsel] at hres
          clear hsel
          go_upto_region 18 with fail
          generalize W4.setCell ⟨fb, k, none⟩ (.int .i64 (F + 1)) = W5 at *
          have x1 := (hn.out W5 (B5.out.bel (Nat.le_of_lt hfw0))).blk.cell 1 rfl
          obtain ⟨eg1, eoff1, ecap1, evv1, _, _, _, ecc1⟩ := (hn.out W5 (B5.out.bel (Nat.le_of_lt hfw0))).edges.addr (by rw [HM.out]; omega)
          simp only [Value.slice.injEq] at evv1
          obtain ⟨eqa, _, _⟩ := evv1
          cases eqa
          obtain ⟨d0, _, _, _⟩ := ce_cells ecc1 he.out
          simp only at d0
          rw [HM.out] at x1
          have EN := Blk.new W5 #[.string nm] 9
          have BN := B5.out.alloc (.cells #[.string nm] 9)
          have ON := row_alloc O5.out (.cells #[.string nm] 9)
          have KN := K5.out.alloc (.cells #[.string nm] 9)
          have hbz := BN.size
          have HIN := Lib.hid (insert0_c w.heap.size _ u5 l nm W5.heap.size ON hln.out hbz EN (fun g hg => by have := row_lt O5.out g hg; omega) (by have := hlb.out; omega))
          clear EN ON ecc1 he
          go_wp2_with fail
          refine HIN.out.mono ?_; rintro ee w6 ⟨lv', rfl, hO6, hB6⟩
          have K6 := Lib.hid (below_blk hB6 KN hfw0)
          have B6 := Lib.hid (BN.andBelow hB6)
          have O6 := Lib.hid hO6
          clear HIN hO6 hB6 KN BN hbz x1 d0
          have N6 := hn.out w6 (B6.out.bel (Nat.le_of_lt hfw0))
          have x2 := N6.blk.cell 2 rfl
          obtain ⟨sg, soff, scap, hvv, _, _, _, hcc⟩ := N6.src.addr (by rw [HSL.out]; omega)
          simp only [Value.slice.injEq] at hvv
          obtain ⟨eqa, _, _⟩ := hvv
          cases eqa
          have s0 := hcc b _ (bools_get (by rw [HSL.out]; exact ib))
          rw [HSL.out] at x2
          have p7 : decide ((b : Int) < 0) = false := decide_eq_false (by omega)
          have p8 : decide ((nd : Int) ≤ (b : Int)) = false := decide_eq_false (by omega)
          have p9 : decide (nd ≤ b) = false := decide_eq_false (by omega)
          generalize c.src.getD b false = SR at *
          clear hcc N6
          cases SR
          ·
            rw [if_neg (by decide)] at hres
            have HRS := Lib.hid hres
            clear hres
            go_wp2_with fail
            go_roundg (sumA (f'.set k (F + 1)))
            case rel => exact ⟨b, nm :: l, f'.set k (F + 1), rfl, rfl, ib, HRS, by show _ = _; rw [List.length_set]; exact hfl.out, HBD2, K6, O6, by show _ → _; intro h; (cases h), B6, by show _ ≤ _; have h1 := hlb.out; have h2 := HSM.out; simp only [List.length_cons]; omega⟩
            case measure => have := HSM.out; omega
          ·
            rw [if_pos rfl] at hres
            have HRS := Lib.hid hres
            clear hres
            go_wp2_with fail
            go_ret
            exact ⟨lv', rfl, by rw [← HRS.out]; exact O6.out, by rw [← HRS.out]; exact K6.out, B6.out⟩
end Go.Proofs.Ytplebibabcdipaa
