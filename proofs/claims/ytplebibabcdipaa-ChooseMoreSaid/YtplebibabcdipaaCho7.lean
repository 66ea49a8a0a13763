/- choose: side. -/
import Derived.Test.YtplebibabcdipaaCho6
namespace Go.Proofs.Ytplebibabcdipaa
open Go.RowKit

theorem bset {B : Nat} {a w : World} (h : Below B a w) {g : Nat} (hg : B ≤ g) (j : Nat) (v : Value) : Below B a (w.setCell ⟨g, j, none⟩ v) := h.setCell hg v
/-- side: one round over the edges. -/
def sideA (c : CNet) (f : List Int) (k : Nat) (st : List Bool × Bool) (e : CEdge) : List Bool × Bool :=
  if ((st.1.getD e.b false && !st.1.getD e.a false) && decide (0 < roomC c f k e.a)) = true then (st.1.set e.a true, true) else st
def sideD (c : CNet) (f : List Int) (k : Nat) (st : List Bool × Bool) (e : CEdge) : List Bool × Bool :=
  if ((st.1.getD e.a false && !st.1.getD e.b false) && decide (0 < roomC c f k e.b)) = true then (st.1.set e.b true, true) else st
def sideP (c : CNet) (f : List Int) : List CEdge → Nat → List Bool × Bool → List Bool × Bool
  | [], _, st => st
  | e :: es, k, st => sideP c f es (k + 1) (sideD c f k (sideA c f k st e) e)
theorem sideP_drop {c : CNet} {f : List Int} {l : List CEdge} {k : Nat} {x : CEdge} (h : l[k]? = some x) (st : List Bool × Bool) : sideP c f (l.drop k) k st = sideP c f (l.drop (k + 1)) (k + 1) (sideD c f k (sideA c f k st x) x) := by
  obtain ⟨hk, hx⟩ := List.getElem?_eq_some_iff.1 h
  rw [List.drop_eq_getElem_cons hk, hx]; rfl
theorem side1_good {n a : Nat} {b : Bool} (ha : a < n) (st : List Bool × Bool) (hs : st.1.length = n) (hb : b = true → st.1.getD a false = false) :
    (if b = true then (st.1.set a true, true) else st).1.length = n ∧ ((if b = true then (st.1.set a true, true) else st) = st ∨ ((if b = true then (st.1.set a true, true) else st).2 = true ∧ muB (if b = true then (st.1.set a true, true) else st).1 < muB st.1)) := by
  cases b
  · exact ⟨hs, Or.inl rfl⟩
  · refine ⟨by simp [hs], Or.inr ⟨rfl, ?_⟩⟩
    exact (muB_set st.1 a).2 (by rw [getD_dflt (by omega) true false]; exact hb rfl)
theorem sideA_good (c : CNet) (f : List Int) (k : Nat) {n : Nat} {e : CEdge} (ha : e.a < n) (st : List Bool × Bool) (hs : st.1.length = n) :
    (sideA c f k st e).1.length = n ∧ (sideA c f k st e = st ∨ ((sideA c f k st e).2 = true ∧ muB (sideA c f k st e).1 < muB st.1)) :=
  side1_good ha st hs (fun h => by simp only [Bool.and_eq_true, Bool.not_eq_true'] at h; exact h.1.2)
theorem sideD_good (c : CNet) (f : List Int) (k : Nat) {n : Nat} {e : CEdge} (hb : e.b < n) (st : List Bool × Bool) (hs : st.1.length = n) :
    (sideD c f k st e).1.length = n ∧ (sideD c f k st e = st ∨ ((sideD c f k st e).2 = true ∧ muB (sideD c f k st e).1 < muB st.1)) :=
  side1_good hb st hs (fun h => by simp only [Bool.and_eq_true, Bool.not_eq_true'] at h; exact h.1.2)
theorem sideP_good (c : CNet) (f : List Int) {n : Nat} : ∀ (l : List CEdge) (k : Nat) (st : List Bool × Bool), (∀ e ∈ l, e.a < n ∧ e.b < n) → st.1.length = n →
    (sideP c f l k st).1.length = n ∧ ((sideP c f l k st) = st ∨ ((sideP c f l k st).2 = true ∧ muB (sideP c f l k st).1 < muB st.1)) := by
  intro l
  induction l with
  | nil => intro k st _ hs; exact ⟨hs, Or.inl rfl⟩
  | cons e es ih =>
    intro k st hl hs
    obtain ⟨ha, hb⟩ := hl e List.mem_cons_self
    obtain ⟨g1, g2⟩ := sideA_good c f k ha st hs
    obtain ⟨d1, d2⟩ := sideD_good c f k hb (sideA c f k st e) g1
    obtain ⟨i1, i2⟩ := ih (k + 1) (sideD c f k (sideA c f k st e) e) (fun x hx => hl x (List.mem_cons_of_mem _ hx)) d1
    refine ⟨i1, ?_⟩
    show sideP c f es (k + 1) (sideD c f k (sideA c f k st e) e) = st ∨ ((sideP c f es (k + 1) (sideD c f k (sideA c f k st e) e)).2 = true ∧ muB (sideP c f es (k + 1) (sideD c f k (sideA c f k st e) e)).1 < muB st.1)
    have key : sideD c f k (sideA c f k st e) e = st ∨ ((sideD c f k (sideA c f k st e) e).2 = true ∧ muB (sideD c f k (sideA c f k st e) e).1 < muB st.1) := by
      rcases g2 with g2 | ⟨g2, g3⟩
      · rw [g2] at d2 ⊢; exact d2
      · rcases d2 with d2 | ⟨d2, d3⟩
        · rw [d2]; exact Or.inr ⟨g2, g3⟩
        · exact Or.inr ⟨d2, by omega⟩
    rcases key with g2 | ⟨g2, g3⟩
    · rw [g2] at i2 ⊢; exact i2
    · rcases i2 with i2 | ⟨i2, i3⟩
      · rw [i2]; exact Or.inr ⟨g2, g3⟩
      · exact Or.inr ⟨i2, by omega⟩
theorem side_prog (c : CNet) (f : List Int) (hc : c.Ok) : ProgB c.nodes (fun s => sideP c f c.edges 0 (s, false)) := fun s hs => by
  obtain ⟨h1, h2⟩ := sideP_good c f c.edges 0 (s, false) hc.ne hs
  refine ⟨h1, fun h => ?_⟩
  rcases h2 with h2 | h2
  · simp only [h2] at h; cases h
  · exact h2.2
def sideC (c : CNet) (f : List Int) : List Bool := fixB (fun s => sideP c f c.edges 0 (s, false)) (startB c)
set_option maxHeartbeats 8000000 in
set_option maxRecDepth 100000 in
theorem side_c (c : CNet) (hc : c.Ok) (X : Nat) (ea : Option Addr) (ec : Nat) (sa : Option Addr) (sc : Nat) (f : List Int) (fv : Value) (w : World) (hn : NetC w X c ea ec sa sc) (hf : FlowB c f) (hv : IVal w fv f) :
    Calls Try.prog 62 #[.pointer (some ⟨X, 0, none⟩), fv] w fun e w' => ∃ sv, e = .returned sv ∧ Reads w' sv (sideC c f).length (bools (sideC c f)) ∧ (sideC c f).length = c.nodes ∧ Below w.heap.size w w' := by
  have HRM : Hid (∀ W, Below w.heap.size w W → ∀ k fr : Nat, k < c.edges.length → Calls Try.prog 105 #[.pointer (some ⟨X, 0, none⟩), fv, .int .i64 k, .int .i64 fr] W fun e w' => e = .returned (.int .i64 (roomC c f k fr)) ∧ w' = W) := fun W hW k fr hk =>
    room_c c X ea ec sa sc f fv k fr W (hn.below hW) hc.m hf (hv.below hW) hk
  have HRB : Hid (∀ k fr : Nat, roomC c f k fr ≤ 2000) := fun k fr => by
    have h1 := hf.lo k
    have h2 := hf.hi k
    have h3 : (edgeAt c k).cap ≤ 1000 := by unfold CEdge.cap; split <;> omega
    unfold roomC
    split <;> omega
  have HPG := Lib.hid (side_prog c f hc)
  have HST := Lib.hid (fun s hs => fixB_step HPG.out s hs)
  have HLE0 : Hid (∀ s, s.length = c.nodes → muB (sideP c f c.edges 0 (s, false)).1 ≤ muB s) := fun s hs => by
    rcases (sideP_good c f c.edges 0 (s, false) hc.ne hs).2 with h | h
    · rw [h]; exact Nat.le_refl _
    · exact Nat.le_of_lt h.2
  have HIN : Hid (∀ j : Nat, ∀ e, c.edges[j]? = some e → e.a < c.nodes ∧ e.b < c.nodes) := fun j e he => hc.ne e (List.mem_of_getElem? he)
  have HGA : Hid (∀ (j : Nat) (e : CEdge) (st : List Bool × Bool), c.edges[j]? = some e → st.1.length = c.nodes → (sideA c f j st e).1.length = c.nodes) := fun j e st he hs => (sideA_good c f j (HIN.out j e he).1 st hs).1
  have HGD : Hid (∀ (j : Nat) (e : CEdge) (st : List Bool × Bool), c.edges[j]? = some e → st.1.length = c.nodes → (sideD c f j st e).1.length = c.nodes) := fun j e st he hs => (sideD_good c f j (HIN.out j e he).2 st hs).1
  have HDA : Hid (∀ (j : Nat) st e, sideA c f j st e = if ((st.1.getD e.b false && !st.1.getD e.a false) && decide (0 < roomC c f j e.a)) = true then (st.1.set e.a true, true) else st) := fun j st e => rfl
  have HDD : Hid (∀ (j : Nat) st e, sideD c f j st e = if ((st.1.getD e.a false && !st.1.getD e.b false) && decide (0 < roomC c f j e.b)) = true then (st.1.set e.b true, true) else st) := fun j st e => rfl
  have HPD : Hid (∀ (j : Nat) (e : CEdge) st, c.edges[j]? = some e → sideP c f (c.edges.drop j) j st = sideP c f (c.edges.drop (j + 1)) (j + 1) (sideD c f j (sideA c f j st e) e)) := fun j e st he => sideP_drop he st
  have HPN : Hid (∀ j st, sideP c f [] j st = st) := fun j st => rfl
  obtain ⟨SC, hSC⟩ : ∃ s, sideC c f = s := ⟨_, rfl⟩
  have HSCL : Hid (SC.length = c.nodes) := by
    show _ = _
    rw [← hSC]
    exact (fixB_ind HPG.out (fun _ => True) (fun _ _ _ => trivial) _ _ (Nat.le_refl _) (by unfold startB; simp) trivial).2.1
  have HSB : Hid (startB c = (List.replicate c.nodes false).set c.at_ true) := rfl
  have HPGo : Hid (∀ s, s.length = c.nodes → (sideP c f c.edges 0 (s, false)).2 = true → muB (sideP c f c.edges 0 (s, false)).1 < muB s) := fun s hs => (HPG.out s hs).2
  have FB0 : fixB (fun s => sideP c f c.edges 0 (s, false)) (startB c) = SC := hSC
  rw [hSC]
  clear hSC HPG
  obtain ⟨SP, hSP⟩ : ∃ g, sideP c f = g := ⟨_, rfl⟩
  obtain ⟨SA, hSA⟩ : ∃ g, sideA c f = g := ⟨_, rfl⟩
  obtain ⟨SD, hSD⟩ : ∃ g, sideD c f = g := ⟨_, rfl⟩
  obtain ⟨RM, hRM⟩ : ∃ g, roomC c f = g := ⟨_, rfl⟩
  rw [hSP] at HLE0 HST HPGo FB0 HPD HPN
  rw [hSA] at HPD HGA HDA
  rw [hSD] at HPD HGD HDD
  rw [hRM] at HDA HDD HRM HRB
  obtain ⟨FB, hFB⟩ : ∃ g, fixB (fun s => SP c.edges 0 (s, false)) = g := ⟨_, rfl⟩
  rw [hFB] at HST FB0
  clear hSP hSA hSD hRM hFB
  obtain ⟨n, es, src, at_⟩ := c
  obtain ⟨_, h2, h3, h4, h5⟩ := hc
  have hb := hn.blk
  have hee := hn.edges
  simp only at hb hee h2 h3 h4 h5 HIN HST HGA HGD HPD HSCL HSB HLE0 HPGo HRM
  obtain ⟨fa, fc, rfl⟩ := hv.slice
  obtain ⟨fl, hfl⟩ : ∃ k, f.length = k := ⟨_, rfl⟩
  rw [hfl] at HRM ⊢
  rw [HSCL.out]
  obtain ⟨m, hm⟩ : ∃ m, es.length = m := ⟨_, rfl⟩
  rw [hm] at hb hee h5 HRM
  rw [h2] at hb
  have HM := Lib.hid hm
  have HE := Lib.hid hee
  have HB := Lib.hid hb
  have hX := hb.lt
  clear hn hb hee hm h2 hf hv hfl
  have x0 := HB.out.cell 0 rfl
  have hmk := make_bools' n h4
  go_enter Try.func62, Try.ntmps62
  go_upto_region 2 with (rw [hmk])
  have K0 := Blk.new w (bools (List.replicate n false)).toArray 4
  have B0 := belowA (Below.refl w.heap.size w) (.cells (bools (List.replicate n false)).toArray 4)
  obtain ⟨sb, hsb⟩ : ∃ b, w.heap.size = b := ⟨_, rfl⟩
  have HSBk := Lib.hid hsb
  rw [hsb] at K0 ⊢
  generalize w.alloc (.cells (bools (List.replicate n false)).toArray 4) = w1 at *
  have hsbX : X < sb := by omega
  have x3 := (below_blk B0 HB.out hX).cell 3 rfl
  have q1 : decide ((at_ : Int) < 0) = false := decide_eq_false (by omega)
  have q2 : decide ((n : Int) ≤ (at_ : Int)) = false := decide_eq_false (by omega)
  have q3 : decide (n ≤ at_) = false := decide_eq_false (by omega)
  have s0 := K0.boolAt (i := at_) (by simpa using h3)
  have sf := K0.free at_
  have K1 : Hid (Blk (w1.setCell ⟨sb, at_, none⟩ (.bool true)) sb (bools (startB ⟨n, es, src, at_⟩)).toArray 4) := by
    show Blk _ _ _ _
    rw [HSB.out]
    exact K0.boolSet at_
  have B1 : Hid (Below w.heap.size w (w1.setCell ⟨sb, at_, none⟩ (.bool true))) := B0.setCell (by show w.heap.size ≤ sb; omega) _
  have L1 : Hid ((startB ⟨n, es, src, at_⟩).length = n) := by show _ = _; rw [HSB.out]; simp
  have FB1 : Hid (FB (startB ⟨n, es, src, at_⟩) = SC) := FB0
  clear FB0 HSB hmk x0
  generalize startB ⟨n, es, src, at_⟩ = s1 at *
  clear K0 B0
  go_wp2_with fail
  clear x3 q1 q2 q3 s0 sf
  generalize w1.setCell ⟨sb, at_, none⟩ (.bool true) = w2 at *
  go_loopg [6] (2 * muB s1 + 1) (fun gh ag wr => ∃ (q : Bool) (s : List Bool), ag = .bool q ∧ gh = 2 * muB s + (if q = true then 1 else 0) ∧ Hid (s.length = n) ∧ Hid (q = true → FB s = SC) ∧ Hid (q = false → s = SC) ∧ Hid (Blk wr sb (bools s).toArray 4) ∧ Hid (Below w.heap.size w wr))
  case atStart => exact ⟨true, s1, rfl, by simp, L1, fun _ => FB1.out, fun h => (by cases h), K1, B1⟩
  case round =>
    clear K1 B1 L1 FB1
    obtain ⟨q, s, rfl, rfl, hsl, hq1, hq2, hk, hb⟩ := hrel
    cases q
    ·
      have hSC := Lib.hid (hq2.out rfl)
      clear hq1 hq2
      go_wp2_with fail
      go_ret
      refine ⟨_, rfl, ?_, trivial, hb.out⟩
      rw [← hSC.out]
      refine Or.inr ⟨sb, 0, n, rfl, Nat.le_refl _, by omega, hk.out.lt, fun j u hj => ?_⟩
      rw [Nat.zero_add]
      exact hk.out.cell j (by simpa using hj)
    ·
      have hst := HST.out s hsl.out
      rw [hq1.out rfl] at hst
      obtain ⟨PR, hPR⟩ : ∃ p, SP es 0 (s, false) = p := ⟨_, rfl⟩
      rw [hPR] at hst
      have HP0 : Hid (SP (es.drop 0) 0 (s, false) = PR) := hPR
      have HST2 := Lib.hid hst
      have x1 := (below_blk hb.out HB.out hX).cell 1 rfl
      have K2 := hk
      have B2 := hb
      have HMU : Hid (PR.2 = true → muB PR.1 < muB s) := fun h => by
        have := HPGo.out s hsl.out
        rw [hPR] at this
        exact this h
      have HLE : Hid (muB PR.1 ≤ muB s) := by
        have := HLE0.out s hsl.out
        rw [hPR] at this
        exact this
      clear hst hPR hq1 hq2 hk hb
      go_wp2_with fail
      go_loopw [26, 6] (fun i ag wr => ∃ (j : Nat) (s' : List Bool) (q : Bool), j ≤ m ∧ i = .int .i64 j ∧ ag = .bool q ∧ Hid (SP (es.drop j) j (s', q) = PR) ∧ Hid (s'.length = n) ∧ Hid (Blk wr sb (bools s').toArray 4) ∧ Hid (Below w.heap.size w wr)) (fun i _ _ => m - (intOf i).toNat)
      case atStart => exact ⟨0, s, false, Nat.zero_le _, rfl, rfl, HP0, hsl, K2, B2⟩
      case round =>
        clear HP0 K2 B2 x1
        obtain ⟨j, s', q, hj, rfl, rfl, hp, hsl', hk, hb⟩ := hrel
        by_cases hlt : j < m
        ·
          obtain ⟨e, he⟩ : ∃ x, es[j]? = some x := ⟨_, List.getElem?_eq_getElem (by rw [HM.out]; exact hlt)⟩
          obtain ⟨g', off, cap', hvv, _, _, _, hcc⟩ := (HE.out.below hb.out).addr (by omega)
          simp only [Value.slice.injEq] at hvv
          obtain ⟨rfl, _, rfl⟩ := hvv
          obtain ⟨c0, c1, c2, c3⟩ := ce_cells hcc he
          obtain ⟨ia, ib⟩ := HIN.out j e he
          have hd := HPD.out j e (s', q) he
          rw [hd] at hp
          have HG1 := Lib.hid (HGA.out j e (s', q) he hsl'.out)
          have HG2 := Lib.hid (fun st hs => HGD.out j e st he hs)
          have HD1 := Lib.hid (HDA.out j (s', q) e)
          have HD2 := Lib.hid (fun st => HDD.out j st e)
          have E2 := Lib.hid (Blk.new wr e.cells.toArray 126)
          have B2 := Lib.hid (belowA hb.out (.cells e.cells.toArray 126))
          have K2 := Lib.hid (hk.out.alloc (.cells e.cells.toArray 126))
          have HRA := Lib.hid (fun W hW => HRM.out W hW j e.a hlt)
          have HRC := Lib.hid (fun W hW => HRM.out W hW j e.b hlt)
          obtain ⟨nm, a, b, bk⟩ := e
          simp only at c0 c1 c2 c3 ia ib HD1 HD2 HRA HRC
          have HEC : Hid ((CEdge.cells ⟨nm, a, b, bk⟩).toArray = #[.string nm, .int .i64 a, .int .i64 b, .bool bk]) := rfl
          rw [HEC.out] at E2 B2 K2
          clear hcc he hd HEC
          obtain ⟨vb, hvb⟩ : ∃ b, wr.heap.size = b := ⟨_, rfl⟩
          have HVB := Lib.hid hvb
          have hne : vb ≠ sb := by have := hk.out.lt; omega
          have hvw : w.heap.size ≤ vb := by have := hb.out.size; omega
          rw [hvb] at E2
          clear hvb
          go_upto_region 9 with fail
          rw [HVB.out]
          generalize wr.alloc (.cells #[.string nm, .int .i64 a, .int .i64 b, .bool bk] 126) = W2 at *
          clear c0 c1 c2 c3 HVB hk hb
          have p1 : decide ((a : Int) < 0) = false := decide_eq_false (by omega)
          have p2 : decide ((n : Int) ≤ (a : Int)) = false := decide_eq_false (by omega)
          have p3 : decide (n ≤ a) = false := decide_eq_false (by omega)
          have p4 : decide ((b : Int) < 0) = false := decide_eq_false (by omega)
          have p5 : decide ((n : Int) ≤ (b : Int)) = false := decide_eq_false (by omega)
          have p6 : decide (n ≤ b) = false := decide_eq_false (by omega)
          go_cut [52] from 31 to 52 (fun s52 wx => s52 = .bool ((s'.getD b false && !s'.getD a false) && decide (0 < RM j a)) ∧ W2 = wx)
          case first =>
            clear HD1 HD2 HG1 hp
            have e1 := E2.out.cell 1 rfl
            have e2 := E2.out.cell 2 rfl
            have hA := K2.out.boolAt (i := a) (by rw [hsl'.out]; exact ia)
            have hB := K2.out.boolAt (i := b) (by rw [hsl'.out]; exact ib)
            have HRW := Lib.hid (HRA.out _ B2.out)
            generalize (s').getD a false = VA at *
            generalize (s').getD b false = VB at *
            generalize RM j a = R at *
            cases VB
            ·
              go_wp2_with fail
              go_meet
              exact ⟨rfl, rfl⟩
            ·
              cases VA
              ·
                by_cases hr0 : 0 < R
                ·
                  have gr : decide (0 < R) = true := decide_eq_true hr0
                  clear hr0
                  go_wp2_with fail
                  refine HRW.out.mono ?_; rintro ee w' ⟨rfl, rfl⟩
                  go_wp2_with fail
                  go_meet
                  exact ⟨by rw [gr]; rfl, rfl⟩
                ·
                  have gr : decide (0 < R) = false := decide_eq_false hr0
                  clear hr0
                  go_wp2_with fail
                  refine HRW.out.mono ?_; rintro ee w' ⟨rfl, rfl⟩
                  go_wp2_with fail
                  go_meet
                  exact ⟨by rw [gr]; rfl, rfl⟩
              ·
                go_wp2_with fail
                go_meet
                exact ⟨rfl, rfl⟩
          case rest =>
            obtain ⟨rfl, rfl⟩ := hcut
            obtain ⟨H1, hH1⟩ : ∃ x, ((s'.getD b false && !s'.getD a false) && decide (0 < RM j a)) = x := ⟨_, rfl⟩
            rw [hH1] at HD1 ⊢
            clear hH1
            go_upto_if 52 with fail
            go_cut [6] from 53 to 56 (fun s6 wx => ∃ (s2 : List Bool) (q2 : Bool), s6 = .bool q2 ∧ Hid (SA j (s', q) ⟨nm, a, b, bk⟩ = (s2, q2)) ∧ Hid (Blk wx sb (bools s2).toArray 4) ∧ Hid (Blk wx vb #[.string nm, .int .i64 a, .int .i64 b, .bool bk] 126) ∧ Hid (Below w.heap.size w wx))
            case first =>
              cases H1
              ·
                have HSE : Hid (SA j (s', q) ⟨nm, a, b, bk⟩ = (s', q)) := HD1.out.trans (if_neg (by decide))
                go_wp2_with fail
                go_meet
                exact ⟨s', q, rfl, HSE, K2, E2, B2⟩
              ·
                have HSE : Hid (SA j (s', q) ⟨nm, a, b, bk⟩ = (s'.set a true, true)) := HD1.out.trans (if_pos rfl)
                have e1 := E2.out.cell 1 rfl
                have hA := K2.out.boolAt (i := a) (by rw [hsl'.out]; exact ia)
                have hF := K2.out.free a
                have K5 := Lib.hid (K2.out.boolSet a)
                have E5 := Lib.hid (E2.out.setOther ⟨sb, a, none⟩ hne (.bool true))
                have B5 := Lib.hid (bset B2.out (show w.heap.size ≤ sb by omega) a (.bool true))
                go_wp2_with fail
                go_meet
                exact ⟨s'.set a true, true, rfl, HSE, K5, E5, B5⟩
            case rest =>
              obtain ⟨s2, q2, rfl, hsa, K4, E4, B4⟩ := hcut
              rw [hsa.out] at hp HG1
              have HL2 : Hid (s2.length = n) := HG1.out
              have HL3 : Hid ((s2.set b true).length = n) := by show _ = _; rw [List.length_set]; exact HG1.out
              have HD3 := Lib.hid (HD2.out (s2, q2))
              simp only at HD3
              clear hsa HD1 HD2 HG1 HG2 K2 E2 B2 HRA
              go_upto_region 11 with fail
              go_cut [78] from 57 to 78 (fun s78 wx => s78 = .bool ((s2.getD a false && !s2.getD b false) && decide (0 < RM j b)) ∧ wc = wx)
              case first =>
                clear HD3 hp
                have e1 := E4.out.cell 1 rfl
                have e2 := E4.out.cell 2 rfl
                have hA := K4.out.boolAt (i := b) (by rw [HL2.out]; exact ib)
                have hB := K4.out.boolAt (i := a) (by rw [HL2.out]; exact ia)
                have HRW := Lib.hid (HRC.out _ B4.out)
                generalize (s2).getD b false = VA at *
                generalize (s2).getD a false = VB at *
                generalize RM j b = R at *
                cases VB
                ·
                  go_wp2_with fail
                  go_meet
                  exact ⟨rfl, rfl⟩
                ·
                  cases VA
                  ·
                    by_cases hr0 : 0 < R
                    ·
                      have gr : decide (0 < R) = true := decide_eq_true hr0
                      clear hr0
                      go_wp2_with fail
                      refine HRW.out.mono ?_; rintro ee w' ⟨rfl, rfl⟩
                      go_wp2_with fail
                      go_meet
                      exact ⟨by rw [gr]; rfl, rfl⟩
                    ·
                      have gr : decide (0 < R) = false := decide_eq_false hr0
                      clear hr0
                      go_wp2_with fail
                      refine HRW.out.mono ?_; rintro ee w' ⟨rfl, rfl⟩
                      go_wp2_with fail
                      go_meet
                      exact ⟨by rw [gr]; rfl, rfl⟩
                  ·
                    go_wp2_with fail
                    go_meet
                    exact ⟨rfl, rfl⟩
              case rest =>
                obtain ⟨rfl, rfl⟩ := hcut
                obtain ⟨H2, hH2⟩ : ∃ x, ((s2.getD a false && !s2.getD b false) && decide (0 < RM j b)) = x := ⟨_, rfl⟩
                rw [hH2] at HD3 ⊢
                clear hH2
                cases H2
                ·
                  have HSE : Hid (SD j (s2, q2) ⟨nm, a, b, bk⟩ = (s2, q2)) := HD3.out.trans (if_neg (by decide))
                  rw [HSE.out] at hp
                  go_wp2_with fail
                  go_roundw
                  case rel => exact ⟨j + 1, s2, q2, hlt, by go_num, rfl, hp, HL2, K4, B4⟩
                  case measure => simp [intOf]; omega
                ·
                  have HSE : Hid (SD j (s2, q2) ⟨nm, a, b, bk⟩ = (s2.set b true, true)) := HD3.out.trans (if_pos rfl)
                  rw [HSE.out] at hp
                  have e2 := E4.out.cell 2 rfl
                  have hB := K4.out.boolAt (i := b) (by rw [HL2.out]; exact ib)
                  have hF := K4.out.free b
                  have K5 := Lib.hid (K4.out.boolSet b)
                  have B5 := Lib.hid (bset B4.out (show w.heap.size ≤ sb by omega) b (.bool true))
                  go_wp2_with fail
                  go_roundw
                  case rel => exact ⟨j + 1, s2.set b true, true, hlt, by go_num, rfl, hp, HL3, K5, B5⟩
                  case measure => simp [intOf]; omega
        ·
          have hn0 : es.drop j = [] := List.drop_eq_nil_of_le (by rw [HM.out]; omega)
          have hpr : PR = (s', q) := by rw [← hp.out, hn0]; exact HPN.out _ _
          rw [hpr] at HST2 HMU HLE
          simp only at HST2 HMU HLE
          clear hn0 hp hpr
          cases q
          ·
            have HF : Hid (s' = SC) := HST2.out.symm
            clear HST2
            go_wp2_with fail
            go_roundg (2 * muB s')
            case rel => exact ⟨false, s', rfl, by simp, hsl', fun h => (by cases h), fun _ => HF.out, hk, hb⟩
            case measure => have := HLE.out; simp; omega
          ·
            have HF : Hid (FB s' = SC) := HST2.out.symm
            have hmu := HMU.out rfl
            clear HST2
            go_wp2_with fail
            go_roundg (2 * muB s' + 1)
            case rel => exact ⟨true, s', rfl, by simp, hsl', fun _ => HF.out, fun h => (by cases h), hk, hb⟩
            case measure => simp; omega
end Go.Proofs.Ytplebibabcdipaa
