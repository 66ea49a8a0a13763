/- choose: isolated. -/
import Derived.Test.YtplebibabcdipaaCho4
namespace Go.Proofs.Ytplebibabcdipaa
open Go.RowKit

/-- What a closure tells of each edge, in every world above w. -/
def TellsB (w : World) (g : FuncId) (caps : Array Value) (l : List CEdge) (P : CEdge → Bool) : Prop :=
  ∀ (a : CEdge) (W : World), a ∈ l → Below w.heap.size w W → Calls Try.prog g (#[.agg a.cells.toArray] ++ caps) W fun e w' => e = .returned (.bool (P a)) ∧ Below W.heap.size W w'
theorem make_bools' (n : Nat) (hn : n ≤ 1000) (W : World) : (Instr.makeSlice 120 (.int .i64 (n : Int)) (.int .i64 (n : Int))).run Try.prog W = .ok (.slice (some ⟨W.heap.size, 0, none⟩) n n) (W.alloc (.cells (bools (List.replicate n false)).toArray 4)) := by
  have e : madeCells #[.bool false] n = (bools (List.replicate n false)).toArray := by
    apply Array.ext
    · simp [madeCells, bools]
    · intro i h1 h2
      simp [madeCells, bools, Nat.mod_one]
  rw [← e]
  exact run_make_row' 120 4 (.bool false) 1 Try.underlying120 (by kernel_rfl) rfl .i64 .i64 n (by omega) (by omega) W
theorem Blk.boolAt {W : World} {g : Nat} {s : List Bool} {t : TypeId} (h : Blk W g (bools s).toArray t) {i : Nat} (hi : i < s.length) : W.cell? ⟨g, i, none⟩ = some (.bool (s.getD i false)) :=
  h.cell i (by simpa using bools_get hi)
theorem Blk.boolSet {W : World} {g : Nat} {s : List Bool} {t : TypeId} (h : Blk W g (bools s).toArray t) (i : Nat) : Blk (W.setCell ⟨g, i, none⟩ (.bool true)) g (bools (s.set i true)).toArray t := by
  have := h.set i (.bool true)
  rw [← bools_set]
  simpa using this
theorem set2_comm (s : List Bool) (a b : Nat) : (s.set a true).set b true = (s.set b true).set a true := by
  by_cases h : a = b
  · subst h; rfl
  · exact List.set_comm _ _ h
set_option maxHeartbeats 8000000 in
set_option maxRecDepth 100000 in
theorem isolated_c (c : CNet) (hc : c.Ok) (X : Nat) (ea : Option Addr) (ec : Nat) (sa : Option Addr) (sc : Nat) (g : FuncId) (caps : Array Value) (out : CEdge → Bool) (w : World) (hn : NetC w X c ea ec sa sc)
    (eg : ∀ (args : Array Value) (w : World), (callFunc g args).run Try.prog w = .ok (.enter g args) w) (hf : Hid (TellsB w g caps c.edges out)) :
    Calls Try.prog 66 #[.pointer (some ⟨X, 0, none⟩), .func (.func g) #[] caps] w fun e w' => e = .returned (.bool (isoC c out)) ∧ Below w.heap.size w w' := by
  have HPG := Lib.hid (seen_prog out hc)
  have HST := Lib.hid (fun s hs => fixB_step HPG.out s hs)
  have HLE0 : Hid (∀ s, s.length = c.nodes → muB (seenP out c.edges (s, false)).1 ≤ muB s) := fun s hs => by
    rcases (seenP_good out c.edges (s, false) hc.ne hs).2 with h | h
    · rw [h]; exact Nat.le_refl _
    · exact Nat.le_of_lt h.2
  have HIN : Hid (∀ j : Nat, ∀ e, c.edges[j]? = some e → e.a < c.nodes ∧ e.b < c.nodes) := fun j e he => hc.ne e (List.mem_of_getElem? he)
  have HGD : Hid (∀ (j : Nat) (e : CEdge) (st : List Bool × Bool), c.edges[j]? = some e → st.1.length = c.nodes → (seenE out st e).1.length = c.nodes) := fun j e st he hs => (seenE_good out (HIN.out j e he).1 (HIN.out j e he).2 st hs).1
  obtain ⟨RES, hRES⟩ : ∃ r, isoC c out = r := ⟨_, rfl⟩
  obtain ⟨SC, hSC⟩ : ∃ s, fixB (fun s => seenP out c.edges (s, false)) (startB c) = s := ⟨_, rfl⟩
  have HRES : Hid (RES = !srcHit c.src SC) := by show _ = _; rw [← hRES, ← hSC]; rfl
  have HSCL : Hid (SC.length = c.nodes) := by
    show _ = _
    rw [← hSC]
    exact (fixB_ind HPG.out (fun _ => True) (fun _ _ _ => trivial) _ _ (Nat.le_refl _) (by unfold startB; simp) trivial).2.1
  have HSB : Hid (startB c = (List.replicate c.nodes false).set c.at_ true) := rfl
  obtain ⟨n, es, src, at_⟩ := c
  obtain ⟨_, h2, h3, h4, h5⟩ := hc
  have hb := hn.blk
  have hee := hn.edges
  have hss := hn.src
  simp only at hb hee hss h2 h3 h4 h5 HIN HST HGD HSCL HSB HRES hf hSC HLE0
  rw [hRES]
  obtain ⟨FB, hFB⟩ : ∃ f, fixB (fun s => seenP out es (s, false)) = f := ⟨_, rfl⟩
  rw [hFB] at HST hSC
  obtain ⟨m, hm⟩ : ∃ m, es.length = m := ⟨_, rfl⟩
  rw [hm] at hb hee h5
  rw [h2] at hb hss
  have HM := Lib.hid hm
  have HSL := Lib.hid h2
  have HE := Lib.hid hee
  have HS := Lib.hid hss
  have HB := Lib.hid hb
  have hX := hb.lt
  clear hn hb hee hss hm h2 hRES
  have HPGo : Hid (∀ s, s.length = n → (seenP out es (s, false)).1.length = n ∧ ((seenP out es (s, false)).2 = true → muB (seenP out es (s, false)).1 < muB s)) := fun s hs => HPG.out s hs
  clear HPG
  have x0 := HB.out.cell 0 rfl
  have hmk := make_bools' n h4
  go_enter Try.func66, Try.ntmps66
  go_upto_region 2 with (rw [hmk])
  have K0 := Blk.new w (bools (List.replicate n false)).toArray 4
  have B0 := belowA (Below.refl w.heap.size w) (.cells (bools (List.replicate n false)).toArray 4)
  obtain ⟨sb, hsb⟩ : ∃ b, w.heap.size = b := ⟨_, rfl⟩
  have HSBk := Lib.hid hsb
  rw [hsb] at K0 ⊢
  generalize w.alloc (.cells (bools (List.replicate n false)).toArray 4) = w1 at *
  have hsbX : X < sb := by omega
  have x3 := (below_blk B0 HB.out hX).cell 3 rfl
  have q1 : decide ((at_ : Int) < 0) = false := decide_eq_false (by omega)
  have q2 : decide ((n : Int) ≤ (at_ : Int)) = false := decide_eq_false (by omega)
  have q3 : decide (n ≤ at_) = false := decide_eq_false (by omega)
  have s0 := K0.boolAt (i := at_) (by simpa using h3)
  have sf := K0.free at_
  have K1 : Hid (Blk (w1.setCell ⟨sb, at_, none⟩ (.bool true)) sb (bools (startB ⟨n, es, src, at_⟩)).toArray 4) := by
    show Blk _ _ _ _
    rw [HSB.out]
    exact K0.boolSet at_
  have B1 : Hid (Below w.heap.size w (w1.setCell ⟨sb, at_, none⟩ (.bool true))) := B0.setCell (by show w.heap.size ≤ sb; omega) _
  have L1 : Hid ((startB ⟨n, es, src, at_⟩).length = n) := by show _ = _; rw [HSB.out]; simp
  have FB1 : Hid (FB (startB ⟨n, es, src, at_⟩) = SC) := hSC
  clear hSC HSB hmk x0 hFB
  generalize startB ⟨n, es, src, at_⟩ = s1 at *
  clear K0 B0
  go_wp2_with fail
  clear x3 q1 q2 q3 s0 sf
  generalize w1.setCell ⟨sb, at_, none⟩ (.bool true) = w2 at *
  go_loopg [6] (2 * muB s1 + 1) (fun gh ag wr => ∃ (q : Bool) (s : List Bool), ag = .bool q ∧ gh = 2 * muB s + (if q = true then 1 else 0) ∧ Hid (s.length = n) ∧ Hid (q = true → FB s = SC) ∧ Hid (q = false → s = SC) ∧ Hid (Blk wr sb (bools s).toArray 4) ∧ Hid (Below w.heap.size w wr))
  case atStart => exact ⟨true, s1, rfl, by simp, L1, fun _ => FB1.out, fun h => (by cases h), K1, B1⟩
  case round =>
    clear K1 B1 L1 FB1
    obtain ⟨q, s, rfl, rfl, hsl, hq1, hq2, hk, hb⟩ := hrel
    cases q
    ·
      have hSC := hq2.out rfl
      have x2 := (below_blk hb.out HB.out hX).cell 2 rfl
      have HR0 : Hid (RES = !srcHit (src.drop 0) (s.drop 0)) := by show _ = _; rw [HRES.out, hSC]; rfl
      have B2 := hb
      have K2 := hk
      clear hq1 hq2 hSC hb hk
      go_wp2_with fail
      go_loopw [63] (fun i wr => ∃ k : Nat, k ≤ n ∧ i = .int .i64 k ∧ Hid (RES = !srcHit (src.drop k) (s.drop k)) ∧ Hid (Blk wr sb (bools s).toArray 4) ∧ Hid (Below w.heap.size w wr)) (fun i _ => n - (intOf i).toNat)
      case atStart => exact ⟨0, Nat.zero_le _, rfl, HR0, K2, B2⟩
      case round =>
        clear HR0 K2 B2 x2
        obtain ⟨k, hkn, rfl, hr, hk, hb⟩ := hrel
        by_cases hlt : k < n
        ·
          obtain ⟨g, off, cap', hvv, _, _, _, hcc⟩ := (HS.out.below hb.out).addr (by omega)
          simp only [Value.slice.injEq] at hvv
          obtain ⟨rfl, _, rfl⟩ := hvv
          have c0 := hcc k _ (bools_get (by rw [HSL.out]; exact hlt))
          have s0 := hk.out.boolAt (i := k) (by rw [hsl.out]; exact hlt)
          have hd := srcHit_drop (l := src) (s := s) (k := k) (by rw [HSL.out]; exact hlt)
          rw [hd] at hr
          generalize src.getD k false = b1 at *
          generalize s.getD k false = b2 at *
          clear hcc hd
          cases b1
          ·
            go_wp2_with fail
            go_roundw
            case rel => exact ⟨k + 1, hlt, by go_num, hr, hk, hb⟩
            case measure => simp [intOf]; omega
          ·
            cases b2
            ·
              go_wp2_with fail
              go_roundw
              case rel => exact ⟨k + 1, hlt, by go_num, hr, hk, hb⟩
              case measure => simp [intOf]; omega
            ·
              have HF : Hid (RES = false) := by show _ = _; rw [hr.out]; rfl
              clear hr
              go_wp2_with fail
              go_ret
              exact ⟨by rw [HF.out]; rfl, hb.out⟩
        ·
          have hn0 : src.drop k = [] := List.drop_eq_nil_of_le (by rw [HSL.out]; omega)
          have HF : Hid (RES = true) := by show _ = _; rw [hr.out, hn0]; rfl
          clear hr hn0
          go_wp2_with fail
          go_ret
          exact ⟨by rw [HF.out]; rfl, hb.out⟩
    ·
      have hst := HST.out s hsl.out
      rw [hq1.out rfl] at hst
      obtain ⟨PR, hPR⟩ : ∃ p, seenP out es (s, false) = p := ⟨_, rfl⟩
      rw [hPR] at hst
      have HP0 : Hid (seenP out (es.drop 0) (s, false) = PR) := hPR
      have HST2 := Lib.hid hst
      have x1 := (below_blk hb.out HB.out hX).cell 1 rfl
      have K2 := hk
      have B2 := hb
      have HMU : Hid (PR.2 = true → muB PR.1 < muB s) := fun h => by
        have := (HPGo.out s hsl.out).2
        rw [hPR] at this
        exact this h
      have HLE : Hid (muB PR.1 ≤ muB s) := by
        have := HLE0.out s hsl.out
        rw [hPR] at this
        exact this
      clear hst hPR hq1 hq2 hk hb
      go_wp2_with fail
      go_loopw [28, 6] (fun i ag wr => ∃ (j : Nat) (s' : List Bool) (q : Bool), j ≤ m ∧ i = .int .i64 j ∧ ag = .bool q ∧ Hid (seenP out (es.drop j) (s', q) = PR) ∧ Hid (s'.length = n) ∧ Hid (Blk wr sb (bools s').toArray 4) ∧ Hid (Below w.heap.size w wr)) (fun i _ _ => m - (intOf i).toNat)
      case atStart => exact ⟨0, s, false, Nat.zero_le _, rfl, rfl, HP0, hsl, K2, B2⟩
      case round =>
        clear HP0 K2 B2 x1
        obtain ⟨j, s', q, hj, rfl, rfl, hp, hsl', hk, hb⟩ := hrel
        by_cases hlt : j < m
        ·
          obtain ⟨e, he⟩ : ∃ x, es[j]? = some x := ⟨_, List.getElem?_eq_getElem (by rw [HM.out]; exact hlt)⟩
          obtain ⟨g', off, cap', hvv, _, _, _, hcc⟩ := (HE.out.below hb.out).addr (by omega)
          simp only [Value.slice.injEq] at hvv
          obtain ⟨rfl, _, rfl⟩ := hvv
          obtain ⟨c0, c1, c2, c3⟩ := ce_cells hcc he
          obtain ⟨ia, ib⟩ := HIN.out j e he
          have hd := seenP_drop (out := out) he (s', q)
          rw [hd] at hp
          have HG := Lib.hid (HGD.out j e (s', q) he hsl'.out)
          have hme := List.mem_of_getElem? he
          have HDE : Hid (seenE out (s', q) e = if ((s'.getD e.a false != s'.getD e.b false) && !out e) = true then ((s'.set e.a true).set e.b true, true) else (s', q)) := rfl
          have E2 := Lib.hid (Blk.new wr e.cells.toArray 126)
          have B2 := Lib.hid (belowA hb.out (.cells e.cells.toArray 126))
          have K2 := Lib.hid (hk.out.alloc (.cells e.cells.toArray 126))
          have HCL := Lib.hid (hf.out e (wr.alloc (.cells e.cells.toArray 126)).drew hme (below_drewN B2.out 1))
          obtain ⟨OE, hOE⟩ : ∃ b, out e = b := ⟨_, rfl⟩
          rw [hOE] at HDE HCL
          generalize seenE out (s', q) e = SE at *
          have hA := K2.out.boolAt (i := e.a) (by rw [hsl'.out]; exact ia)
          have hB := K2.out.boolAt (i := e.b) (by rw [hsl'.out]; exact ib)
          obtain ⟨A, hAe⟩ : ∃ x, s'.getD e.a false = x := ⟨_, rfl⟩
          obtain ⟨B, hBe⟩ : ∃ x, s'.getD e.b false = x := ⟨_, rfl⟩
          have hab : (A != B) = true → e.a ≠ e.b := fun h q => by rw [q, hBe] at hAe; rw [hAe] at h; simp at h
          rw [hAe] at hA HDE
          rw [hBe] at hB HDE
          obtain ⟨nm, a, b, bk⟩ := e
          simp only at c0 c1 c2 c3 ia ib hA hB hab HDE
          have HEC : Hid ((CEdge.cells ⟨nm, a, b, bk⟩).toArray = #[.string nm, .int .i64 a, .int .i64 b, .bool bk]) := rfl
          rw [HEC.out] at E2 B2 K2 HCL hA hB
          obtain ⟨vb, hvb⟩ : ∃ b, wr.heap.size = b := ⟨_, rfl⟩
          have HVB := Lib.hid hvb
          have hne : vb ≠ sb := by have := hk.out.lt; omega
          rw [hvb] at E2
          clear hvb hcc he hme hd hOE hAe hBe HEC
          go_upto_region 9 with fail
          rw [HVB.out]
          generalize wr.alloc (.cells #[.string nm, .int .i64 a, .int .i64 b, .bool bk] 126) = W2 at *
          clear c0 c1 c2 c3 HVB hk hb
          have p1 : decide ((a : Int) < 0) = false := decide_eq_false (by omega)
          have p2 : decide ((n : Int) ≤ (a : Int)) = false := decide_eq_false (by omega)
          have p3 : decide (n ≤ a) = false := decide_eq_false (by omega)
          have p4 : decide ((b : Int) < 0) = false := decide_eq_false (by omega)
          have p5 : decide ((n : Int) ≤ (b : Int)) = false := decide_eq_false (by omega)
          have p6 : decide (n ≤ b) = false := decide_eq_false (by omega)
          have D0 : Hid (Below W2.heap.size W2 W2.drew) := ⟨rfl, rfl, rfl, Nat.le_refl _, fun _ _ => rfl⟩
          have HSS : Hid (∀ W, Below W2.heap.size W2 W → W.cell? ⟨vb, 0, none⟩ = some (.string nm) ∧ W.cell? ⟨vb, 1, none⟩ = some (.int .i64 a) ∧ W.cell? ⟨vb, 2, none⟩ = some (.int .i64 b) ∧ W.cell? ⟨vb, 3, none⟩ = some (.bool bk) ∧ W.cell? ⟨sb, a, none⟩ = some (.bool A) ∧ W.cell? ⟨sb, b, none⟩ = some (.bool B)) := fun W hW => by
            have h1 := below_blk hW E2.out E2.out.lt
            exact ⟨h1.cell 0 rfl, h1.cell 1 rfl, h1.cell 2 rfl, h1.cell 3 rfl, (hW.cell (p := ⟨sb, a, none⟩) K2.out.lt).trans hA, (hW.cell (p := ⟨sb, b, none⟩) K2.out.lt).trans hB⟩
          go_cut [48] from 32 to 48 (fun s48 wx => s48 = .bool ((A != B) && !OE) ∧ Hid (Below W2.heap.size W2 wx))
          case first =>
            cases A
            ·
              cases B
              ·
                have e1 := E2.out.cell 1 rfl
                have e2 := E2.out.cell 2 rfl
                clear HSS HCL
                cases OE
                all_goals
                  refine wp_region_quiet_lit (by kernel_rfl) (by kernel_rfl) ?_
                  repeat (first | go_big_quiet_step (fail) | (go_big_quiet_want; go_simp; go_big_quiet_on))
                  refine wpQuiet_nil ?_
                  intro _ hw'
                  obtain ⟨nq, hw''⟩ := hw'
                  subst hw''
                  go_wp2_with fail
                  go_meet
                  exact ⟨rfl, below_drewN (Below.refl _ _) nq⟩
              ·
                clear hA hB
                cases OE
                all_goals
                  go_region_held3 (fun W => W.cell? ⟨vb, 0, none⟩ = some (.string nm) ∧ W.cell? ⟨vb, 1, none⟩ = some (.int .i64 a) ∧ W.cell? ⟨vb, 2, none⟩ = some (.int .i64 b) ∧ W.cell? ⟨vb, 3, none⟩ = some (.bool bk) ∧ W.cell? ⟨sb, a, none⟩ = some (.bool false) ∧ W.cell? ⟨sb, b, none⟩ = some (.bool true))
                    (first
                      | with_reducible exact HSS.out _ D0.out
                      | with_reducible exact HSS.out _ D1.out)
                    ((refine HCL.out.mono ?_; rintro e w7 ⟨rfl, hb7⟩; have D1 := Lib.hid (belowT D0.out hb7); clear hb7))
                  all_goals
                    go_simp
                    go_wp2_with fail
                    go_meet
                    first
                      | exact ⟨rfl, D1⟩
                      | exact ⟨rfl, D0⟩
            ·
              cases B
              ·
                clear hA hB
                cases OE
                all_goals
                  go_region_held3 (fun W => W.cell? ⟨vb, 0, none⟩ = some (.string nm) ∧ W.cell? ⟨vb, 1, none⟩ = some (.int .i64 a) ∧ W.cell? ⟨vb, 2, none⟩ = some (.int .i64 b) ∧ W.cell? ⟨vb, 3, none⟩ = some (.bool bk) ∧ W.cell? ⟨sb, a, none⟩ = some (.bool true) ∧ W.cell? ⟨sb, b, none⟩ = some (.bool false))
                    (first
                      | with_reducible exact HSS.out _ D0.out
                      | with_reducible exact HSS.out _ D1.out)
                    ((refine HCL.out.mono ?_; rintro e w7 ⟨rfl, hb7⟩; have D1 := Lib.hid (belowT D0.out hb7); clear hb7))
                  all_goals
                    go_simp
                    go_wp2_with fail
                    go_meet
                    first
                      | exact ⟨rfl, D1⟩
                      | exact ⟨rfl, D0⟩
              ·
                have e1 := E2.out.cell 1 rfl
                have e2 := E2.out.cell 2 rfl
                clear HSS HCL
                cases OE
                all_goals
                  refine wp_region_quiet_lit (by kernel_rfl) (by kernel_rfl) ?_
                  repeat (first | go_big_quiet_step (fail) | (go_big_quiet_want; go_simp; go_big_quiet_on))
                  refine wpQuiet_nil ?_
                  intro _ hw'
                  obtain ⟨nq, hw''⟩ := hw'
                  subst hw''
                  go_wp2_with fail
                  go_meet
                  exact ⟨rfl, below_drewN (Below.refl _ _) nq⟩
          case rest =>
            obtain ⟨rfl, hbc⟩ := hcut
            have K3 := Lib.hid (below_blk hbc.out K2.out K2.out.lt)
            have E3 := Lib.hid (below_blk hbc.out E2.out E2.out.lt)
            have B3 := Lib.hid (belowT B2.out hbc.out)
            clear hA hB HSS D0 HCL E2 B2 K2 hbc
            cases hh : ((A != B) && !OE)
            ·
              have HSE := Lib.hid (HDE.out.trans (if_neg (by rw [hh]; decide)))
              rw [HSE.out] at hp
              clear HDE HSE HG
              go_wp2_with fail
              go_roundw
              case rel => exact ⟨j + 1, s', q, hlt, by go_num, rfl, hp, hsl', K3, B3⟩
              case measure => simp [intOf]; omega
            ·
              have HSE := Lib.hid (HDE.out.trans (if_pos hh))
              rw [HSE.out] at hp HG
              have hne2 := hab (by simp only [Bool.and_eq_true] at hh; exact hh.1)
              have y1 := E3.out.cell 1 rfl
              have y2 := E3.out.cell 2 rfl
              have s1 := K3.out.boolAt (i := a) (by rw [hsl'.out]; exact ia)
              have s2 := K3.out.boolAt (i := b) (by rw [hsl'.out]; exact ib)
              have f1 := K3.out.free a
              have f2 := K3.out.free b
              have HK4 : Hid (∀ u v : Nat, (u = a ∧ v = b ∨ u = b ∧ v = a) → Blk ((wc.drew.setCell ⟨sb, u, none⟩ (.bool true)).setCell ⟨sb, v, none⟩ (.bool true)) sb (bools ((s'.set a true).set b true)).toArray 4 ∧ Below w.heap.size w ((wc.drew.setCell ⟨sb, u, none⟩ (.bool true)).setCell ⟨sb, v, none⟩ (.bool true))) := fun u v huv => by
                refine ⟨?_, ((below_drewN B3.out 1).setCell (by show w.heap.size ≤ sb; omega) _).setCell (by show w.heap.size ≤ sb; omega) _⟩
                have h := (K3.out.drew.boolSet u).boolSet v
                rcases huv with ⟨rfl, rfl⟩ | ⟨rfl, rfl⟩
                · exact h
                · rw [set2_comm]; exact h
              clear HDE HSE hab hh
              go_wp2_with fail
              go_region
              all_goals
                go_simp
                go_wp2_with fail
                go_roundw
                case rel =>
                  first
                    | exact ⟨j + 1, (s'.set a true).set b true, true, hlt, by go_num, rfl, hp, HG, Lib.hid (HK4.out a b (Or.inl ⟨rfl, rfl⟩)).1, Lib.hid (HK4.out a b (Or.inl ⟨rfl, rfl⟩)).2⟩
                    | exact ⟨j + 1, (s'.set a true).set b true, true, hlt, by go_num, rfl, hp, HG, Lib.hid (HK4.out b a (Or.inr ⟨rfl, rfl⟩)).1, Lib.hid (HK4.out b a (Or.inr ⟨rfl, rfl⟩)).2⟩
                case measure => simp [intOf]; omega
        ·
          have hn0 : es.drop j = [] := List.drop_eq_nil_of_le (by rw [HM.out]; omega)
          have hpr : PR = (s', q) := by rw [← hp.out, hn0]; rfl
          rw [hpr] at HST2 HMU HLE
          simp only at HST2 HMU HLE
          clear hn0 hp hpr
          cases q
          ·
            have HF : Hid (s' = SC) := HST2.out.symm
            clear HST2
            go_wp2_with fail
            go_roundg (2 * muB s')
            case rel => exact ⟨false, s', rfl, by simp, hsl', fun h => (by cases h), fun _ => HF.out, hk, hb⟩
            case measure => have := HLE.out; simp; omega
          ·
            have HF : Hid (FB s' = SC) := HST2.out.symm
            have hmu := HMU.out rfl
            clear HST2
            go_wp2_with fail
            go_roundg (2 * muB s' + 1)
            case rel => exact ⟨true, s', rfl, by simp, hsl', fun _ => HF.out, fun h => (by cases h), hk, hb⟩
            case measure => simp; omega
end Go.Proofs.Ytplebibabcdipaa
