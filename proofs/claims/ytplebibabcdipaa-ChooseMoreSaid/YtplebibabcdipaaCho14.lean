/- choose: Least, the walk. -/
import Derived.Test.YtplebibabcdipaaCho13
import Derived.Test.YtplebibabcdipaaChoN
import Derived.Test.YtplebibabcdipaaCho3
namespace Go.Proofs.Ytplebibabcdipaa
open Go.RowKit

theorem infoStrL : (Try.prog.info? 9).map (fun i => (i.zero, i.size, i.bytes)) = some (some (.string ByteArray.empty), 1, 16) := by kernel_rfl
/-- 'append(l, s)' where l lies in a row of the call's own. -/
theorem row_app {base : Nat} {W : World} {v : Value} {l : List ByteArray} (h : W.ownsRow base 9 1 v l.length (strs l)) (hb : base ≤ W.heap.size) (s : ByteArray) (lb : Nat) (hx : W.cell? ⟨lb, 0, none⟩ = some (.string s)) (hl : l.length ≤ 2000) :
    ∃ v' W', (Builtin.append_ #[22, 22] 22 #[v, .slice (some ⟨lb, 0, none⟩) 1 1]).run Try.prog W = .ok v' W' ∧ W'.ownsRow base 9 1 v' (l ++ [s]).length (strs (l ++ [s])) ∧ Below base W W' := by
  obtain ⟨i0, hi0, hz0, hz1, hz2⟩ := info_parts infoStrL
  obtain ⟨v', w', h1, h2, h3, _⟩ := run_append_own (P := Try.prog) W base 22 22 9 i0 (.string ByteArray.empty) 1 16 Try.underlying22 hi0 hz0 hz1 hz2 rfl (by decide) v l.length (strs l) h ⟨lb, 0, none⟩ 1 1 [.string s] rfl
    (fun j u hj => by
      cases j with
      | zero => simp at hj; subst hj; simpa [Addr.add] using hx
      | succ j => simp at hj) (fun u hu => by rw [List.mem_singleton] at hu; subst hu; rfl) (by unfold maxLen; omega) (by omega) hb
  refine ⟨v', w', h1, ?_, ?_⟩
  · rw [List.length_append, show strs (l ++ [s]) = strs l ++ [.string s] by unfold strs; simp]; exact h2
  · exact Below.grown ⟨rfl, rfl, rfl, Nat.le_refl _, fun _ _ => rfl⟩ h3 hb (fun k e => row_own h k e)
/-- A list of names, and a number. -/
def StrsP (w : World) (l : List ByteArray) (er : Int) (e : Ending) (w' : World) : Prop :=
  ∃ v, e = .returned (.tuple #[v, .int .i64 er]) ∧ Reads w' v l.length (strs l) ∧ Below w.heap.size w w'
theorem strs_nil_reads (w : World) : Reads w (.slice none 0 0) 0 (strs []) := Or.inl ⟨rfl, rfl, none, 0, rfl⟩
theorem filt_drop {P : CEdge → Bool} {l : List CEdge} {k : Nat} {x : CEdge} (h : l[k]? = some x) : ((l.drop k).filter P).map CEdge.name = if P x = true then x.name :: ((l.drop (k + 1)).filter P).map CEdge.name else ((l.drop (k + 1)).filter P).map CEdge.name := by
  obtain ⟨hk, hx⟩ := List.getElem?_eq_some_iff.1 h
  rw [List.drop_eq_getElem_cons hk, hx, List.filter_cons]
  split <;> rfl
set_option maxHeartbeats 8000000 in
set_option maxRecDepth 100000 in
theorem least_c (x0 : NAddr) (n : Net) (br : ByteArray) (pt : Int) (w : World) (hr : NetR w x0 n) (hwf : n.Wf) :
    Calls Try.prog 30 #[x0.val n, .agg #[.string br, .int .i64 pt]] w (StrsP w (leastE n ⟨br, pt⟩).1 (leastE n ⟨br, pt⟩).2) := by
  have HP := Lib.hid (fun W (hb : Below w.heap.size w W) => place_c x0 n br pt W (hr.below hb) hwf)
  have HBU := Lib.hid (fun W (hb : Below w.heap.size w W) (h2 : n.Ok2) => build_c x0 n br pt W (hr.below hb) h2)
  have HE : Hid (leastE n ⟨br, pt⟩ = if placeE n ⟨br, pt⟩ ≠ 0 then ([], placeE n ⟨br, pt⟩) else if (largC (buildC n ⟨br, pt⟩)).2 = 1000 then ([], 8) else ((crossC (buildC n ⟨br, pt⟩) (largC (buildC n ⟨br, pt⟩)).1).map CEdge.name, 0)) := rfl
  have HOK : Hid (placeE n ⟨br, pt⟩ = 0 → n.Ok2 ∧ (buildC n ⟨br, pt⟩).Ok) := fun h => ⟨netE_ok2 (placeE_net h), (build_ok (placeE_net h)).1⟩
  generalize leastE n ⟨br, pt⟩ = LE at *
  generalize placeE n ⟨br, pt⟩ = PE at *
  generalize buildC n ⟨br, pt⟩ = c at *
  clear hr hwf
  obtain ⟨na, nc, sa, sc, ba, bc, ga, gc, la, lc, ta, tc⟩ := x0
  obtain ⟨nl, sws, brs, gens, loads, stores⟩ := n
  simp only [NAddr.val] at HP HBU ⊢
  generalize nl.length = nn at *
  generalize sws.length = sn at *
  generalize brs.length = bn at *
  generalize gens.length = gn at *
  generalize loads.length = ln at *
  generalize stores.length = tn at *
  have B2 := Lib.hid (belowA (belowA (Below.refl w.heap.size w) (.cells #[.slice na nn nc, .slice sa sn sc, .slice ba bn bc, .slice ga gn gc, .slice la ln lc, .slice ta tn tc] 29)) (.cells #[.string br, .int .i64 pt] 31))
  have K2 := (Blk.new w #[.slice na nn nc, .slice sa sn sc, .slice ba bn bc, .slice ga gn gc, .slice la ln lc, .slice ta tn tc] 29).alloc (.cells #[.string br, .int .i64 pt] 31)
  have K3 := Blk.new2 w (.cells #[.slice na nn nc, .slice sa sn sc, .slice ba bn bc, .slice ga gn gc, .slice la ln lc, .slice ta tn tc] 29) #[.string br, .int .i64 pt] 31
  have hs2 : w.heap.size + 1 < ((w.alloc (.cells #[.slice na nn nc, .slice sa sn sc, .slice ba bn bc, .slice ga gn gc, .slice la ln lc, .slice ta tn tc] 29)).alloc (.cells #[.string br, .int .i64 pt] 31)).heap.size := by rw [World.size_alloc, World.size_alloc]; omega
  generalize hW2 : (w.alloc (.cells #[.slice na nn nc, .slice sa sn sc, .slice ba bn bc, .slice ga gn gc, .slice la ln lc, .slice ta tn tc] 29)).alloc (.cells #[.string br, .int .i64 pt] 31) = W2 at *
  have HW2 := Lib.hid hW2
  clear hW2
  have x0 := K2.cell 0 rfl
  have x1 := K2.cell 1 rfl
  have x2 := K2.cell 2 rfl
  have x3 := K2.cell 3 rfl
  have x4 := K2.cell 4 rfl
  have x5 := K2.cell 5 rfl
  have y0 := K3.cell 0 rfl
  have y1 := K3.cell 1 rfl
  go_enter Try.func30, Try.ntmps30
  go_upto_region 1 with fail
  rw [HW2.out]
  go_wp2_with fail
  refine (HP.out _ B2.out).mono ?_; rintro e w3 ⟨rfl, hb3⟩
  have HB3 := Lib.hid (belowT B2.out hb3)
  have K2' := below_blk hb3 K2 K2.lt
  have K3' := below_blk hb3 K3 K3.lt
  clear x0 x1 x2 x3 x4 x5 y0 y1 K2 K3 hb3 HP
  by_cases hp : PE = 0
  ·
    obtain ⟨ho2, hcok⟩ := HOK.out hp
    have HE2 := Lib.hid (HE.out.trans (if_neg (fun h => h hp)))
    have x0 := K2'.cell 0 rfl
    have x1 := K2'.cell 1 rfl
    have x2 := K2'.cell 2 rfl
    have x3 := K2'.cell 3 rfl
    have x4 := K2'.cell 4 rfl
    have x5 := K2'.cell 5 rfl
    have y0 := K3'.cell 0 rfl
    have y1 := K3'.cell 1 rfl
    subst hp
    go_wp2_with fail
    refine (HBU.out _ HB3.out ho2).mono ?_; rintro e w4 ⟨X, ea, ec, xa, xc, rfl, hn, hb4⟩
    have HB4 := Lib.hid (belowT HB3.out hb4)
    clear x0 x1 x2 x3 x4 x5 y0 y1 K2' K3' hb4 HBU
    go_wp2_with fail
    refine (largest_c c hcok X ea ec xa xc w4 hn).mono ?_; rintro e w5 ⟨rfl, hkf, hb5⟩
    have HB5 := Lib.hid (belowT HB4.out hb5)
    have HN5 := Lib.hid (hn.below hb5)
    have HKF := Lib.hid hkf
    have hlk := largC_ok hcok
    obtain ⟨LG, hLG⟩ : ∃ r, largC c = r := ⟨_, rfl⟩
    rw [hLG] at HE2 HKF hlk
    rw [hLG]
    have HLK := Lib.hid hlk
    obtain ⟨FL, SZ⟩ := LG
    simp only at HE2 HKF HLK
    clear hkf hb5 hn hlk hLG HE HOK
    by_cases hs : SZ = 1000
    ·
      have HL := Lib.hid (HE2.out.trans (if_pos hs))
      subst hs
      clear HE2 HLK
      go_wp2_with fail
      go_ret2
      show StrsP w LE.1 LE.2 _ _
      rw [HL.out]
      exact ⟨_, rfl, strs_nil_reads _, HB5.out⟩
    ·
      have HL := Lib.hid (HE2.out.trans (if_neg hs))
      have g1 : ((SZ : Int) == 1000) = false := by rw [beq_eq_false_iff_ne]; omega
      clear HE2
      have hfn : FlowN c FL SZ := by
        rcases HLK.out with ⟨_, h⟩ | ⟨_, ⟨_, h⟩ | ⟨_, h, _⟩⟩
        · exact absurd h hs
        · exact absurd h hs
        · exact h
      have hfl := hfn.fl.len
      have hiv := Blk.ival HKF.out (by rw [hfl]; exact hcok.m)
      rw [hfl] at hiv
      have HSI := Lib.hid (side_c c hcok X ea ec xa xc FL _ w5 HN5.out hfn.fl.B hiv)
      clear hs hfn hfl hiv HKF HLK
      go_wp2_with fail
      refine HSI.out.mono ?_; rintro e w6 ⟨sv, rfl, hsv, hsl, hb6⟩
      obtain ⟨ya, yc, rfl⟩ := hsv.slice
      have HB6 := Lib.hid (belowT HB5.out hb6)
      have HN6 := Lib.hid (HN5.out.below hb6)
      have HED := Lib.hid HN6.out.edges
      have HSV := Lib.hid hsv
      have HSR : Hid ((crossC c FL).map CEdge.name = ((c.edges.filter fun e => (sideC c FL).getD e.a false != (sideC c FL).getD e.b false).map CEdge.name)) := rfl
      have HNE : Hid (∀ (j : Nat) (e : CEdge), c.edges[j]? = some e → e.a < c.nodes ∧ e.b < c.nodes) := fun j e he => hcok.ne e (List.mem_of_getElem? he)
      have hm := hcok.m
      have hn1 : c.nodes ≤ 1000 := hcok.n
      have hnp : 0 < c.nodes := by have := hcok.at_; omega
      have x1 := HN6.out.blk.cell 1 rfl
      clear HSI HN5 hb6 hsv HB5
      rw [hsl] at HSV ⊢
      generalize sideC c FL = S at *
      generalize c.nodes = nd at *
      generalize c.edges = es at *
      obtain ⟨R, hR⟩ : ∃ r, (crossC c FL).map CEdge.name = r := ⟨_, rfl⟩
      rw [hR] at HL HSR
      have HR0 : Hid ([] ++ ((es.drop 0).filter fun e => S.getD e.a false != S.getD e.b false).map CEdge.name = R) := HSR.out.symm
      obtain ⟨m, hM⟩ : ∃ k, es.length = k := ⟨_, rfl⟩
      have HM := Lib.hid hM
      have HSL := Lib.hid hsl
      rw [hM] at x1 hm HED ⊢
      have O0 : Hid (w6.ownsRow w6.heap.size 9 1 (.slice none 0 0) ([] : List ByteArray).length (strs [])) := ⟨rfl, Or.inl ⟨rfl, rfl⟩⟩
      clear HSR hR hM hsl
      go_wp2_with fail
      go_loopw [38, 11] (fun i ov wr => ∃ (k : Nat) (out : List ByteArray), k ≤ m ∧ i = .int .i64 k ∧ Hid (out ++ ((es.drop k).filter fun e => S.getD e.a false != S.getD e.b false).map CEdge.name = R) ∧ Hid (out.length ≤ k) ∧ Hid (wr.ownsRow w6.heap.size 9 1 ov out.length (strs out)) ∧ Hid (Below w6.heap.size w6 wr)) (fun i _ _ => m - (intOf i).toNat)
      case atStart => exact ⟨0, [], Nat.zero_le _, rfl, HR0, Nat.zero_le _, O0, Below.refl _ _⟩
      case round =>
        clear HR0 O0 x1
        obtain ⟨k, out, hk, rfl, hrr, hol, ho, hb⟩ := hrel
        by_cases hlt : k < m
        ·
          obtain ⟨e, he⟩ : ∃ x, es[k]? = some x := ⟨_, List.getElem?_eq_getElem (by rw [HM.out]; exact hlt)⟩
          have hd := filt_drop (P := fun e => S.getD e.a false != S.getD e.b false) he
          obtain ⟨ia, ib⟩ := HNE.out k e he
          obtain ⟨g', off, cap', hvv, _, _, _, hcc⟩ := (HED.out.below hb.out).addr (by omega)
          simp only [Value.slice.injEq] at hvv
          obtain ⟨rfl, _, rfl⟩ := hvv
          obtain ⟨c0, c1, c2, c3⟩ := ce_cells hcc he
          obtain ⟨nm, a, b, bk⟩ := e
          simp only at c0 c1 c2 c3 ia ib hd
          rw [hd] at hrr
          have E2 := Blk.new wr #[.string nm, .int .i64 a, .int .i64 b, .bool bk] 126
          have B2 := belowA hb.out (.cells #[.string nm, .int .i64 a, .int .i64 b, .bool bk] 126)
          have O2 := row_alloc ho.out (.cells #[.string nm, .int .i64 a, .int .i64 b, .bool bk] 126)
          obtain ⟨vb, hvb⟩ : ∃ b, wr.heap.size = b := ⟨_, rfl⟩
          have HVB := Lib.hid hvb
          rw [hvb] at E2
          clear hvb hcc he hd
          go_upto_region 13 with fail
          rw [HVB.out]
          generalize wr.alloc (.cells #[.string nm, .int .i64 a, .int .i64 b, .bool bk] 126) = W2 at *
          clear c0 c1 c2 c3 HVB hb ho
          have p1 : decide ((a : Int) < 0) = false := decide_eq_false (by omega)
          have p2 : decide ((nd : Int) ≤ (a : Int)) = false := decide_eq_false (by omega)
          have p3 : decide (nd ≤ a) = false := decide_eq_false (by omega)
          have p4 : decide ((b : Int) < 0) = false := decide_eq_false (by omega)
          have p5 : decide ((nd : Int) ≤ (b : Int)) = false := decide_eq_false (by omega)
          have p6 : decide (nd ≤ b) = false := decide_eq_false (by omega)
          obtain ⟨sg, soff, scap, hvv, _, _, _, hcc⟩ := (HSV.out.below B2).addr (by omega)
          simp only [Value.slice.injEq] at hvv
          obtain ⟨rfl, _, rfl⟩ := hvv
          have s1 := hcc a _ (bools_get (by rw [HSL.out]; exact ia))
          have s2 := hcc b _ (bools_get (by rw [HSL.out]; exact ib))
          have e1 := E2.cell 1 rfl
          have e2 := E2.cell 2 rfl
          clear hcc
          generalize S.getD a false = VA at *
          generalize S.getD b false = VB at *
          refine wp_region_quiet_lit (by kernel_rfl) (by kernel_rfl) ?_
          repeat (first | go_big_quiet_step (fail) | (go_big_quiet_want; go_simp; go_big_quiet_on))
          refine wpQuiet_nil ?_
          intro _ hw'
          obtain ⟨nq, hw''⟩ := hw'
          subst hw''
          have B3 : Hid (Below w6.heap.size w6 (W2.drewN nq)) := below_drewN B2 _
          have O3 : Hid ((W2.drewN nq).ownsRow w6.heap.size 9 1 u11 out.length (strs out)) := O2
          have E3 : Hid (Blk (W2.drewN nq) vb #[.string nm, .int .i64 a, .int .i64 b, .bool bk] 126) := E2
          clear B2 O2 E2 s1 s2 e1 e2
          generalize W2.drewN nq = W3 at *
          have h3 : Hid (w6.heap.size ≤ W3.heap.size) := B3.out.size
          cases VA
          ·
            cases VB
            ·
              have HR1 : Hid (out ++ ((es.drop (k + 1)).filter fun e => S.getD e.a false != S.getD e.b false).map CEdge.name = R) := hrr.out
              clear hrr E3
              go_wp2_with fail
              go_roundw
              case rel => exact ⟨k + 1, out, hlt, by go_num, HR1, by show _ ≤ _; have := hol.out; omega, O3, B3⟩
              case measure => simp [intOf]; omega
            ·
              have HR1 : Hid ((out ++ [nm]) ++ ((es.drop (k + 1)).filter fun e => S.getD e.a false != S.getD e.b false).map CEdge.name = R) := by show _ = _; rw [← hrr.out]; simp
              have e0 := E3.out.cell 0 rfl
              have EN := Blk.new W3 #[.string nm] 9
              have BN := B3.out.alloc (by have := h3.out; omega) (.cells #[.string nm] 9)
              obtain ⟨v4, w7, hap, O4, b4⟩ := row_app (row_alloc O3.out (.cells #[.string nm] 9)) (by rw [World.size_alloc]; have := h3.out; omega) nm W3.heap.size (EN.cell 0 rfl) (by have := hol.out; omega)
              have O5 := Lib.hid O4
              have B5 := Lib.hid (BN.trans b4)
              clear hrr E3 EN BN O4 b4 O3
              go_wp2_with (at_builtin; refine wpList_append_told rfl (.tmp 53) (.tmp 56) 22 rfl _ _ rfl rfl v4 w7 hap ?_)
              go_roundw
              case rel => exact ⟨k + 1, out ++ [nm], hlt, by go_num, HR1, by show _ ≤ _; have := hol.out; simp; omega, O5, B5⟩
              case measure => simp [intOf]; omega
          ·
            cases VB
            ·
              have HR1 : Hid ((out ++ [nm]) ++ ((es.drop (k + 1)).filter fun e => S.getD e.a false != S.getD e.b false).map CEdge.name = R) := by show _ = _; rw [← hrr.out]; simp
              have e0 := E3.out.cell 0 rfl
              have EN := Blk.new W3 #[.string nm] 9
              have BN := B3.out.alloc (by have := h3.out; omega) (.cells #[.string nm] 9)
              obtain ⟨v4, w7, hap, O4, b4⟩ := row_app (row_alloc O3.out (.cells #[.string nm] 9)) (by rw [World.size_alloc]; have := h3.out; omega) nm W3.heap.size (EN.cell 0 rfl) (by have := hol.out; omega)
              have O5 := Lib.hid O4
              have B5 := Lib.hid (BN.trans b4)
              clear hrr E3 EN BN O4 b4 O3
              go_wp2_with (at_builtin; refine wpList_append_told rfl (.tmp 53) (.tmp 56) 22 rfl _ _ rfl rfl v4 w7 hap ?_)
              go_roundw
              case rel => exact ⟨k + 1, out ++ [nm], hlt, by go_num, HR1, by show _ ≤ _; have := hol.out; simp; omega, O5, B5⟩
              case measure => simp [intOf]; omega
            ·
              have HR1 : Hid (out ++ ((es.drop (k + 1)).filter fun e => S.getD e.a false != S.getD e.b false).map CEdge.name = R) := hrr.out
              clear hrr E3
              go_wp2_with fail
              go_roundw
              case rel => exact ⟨k + 1, out, hlt, by go_num, HR1, by show _ ≤ _; have := hol.out; omega, O3, B3⟩
              case measure => simp [intOf]; omega
        ·
          have hn0 : es.drop k = [] := List.drop_eq_nil_of_le (by rw [HM.out]; omega)
          have HRR : Hid (out = R) := by show _ = _; rw [← hrr.out, hn0]; simp
          have hl2 : out.length ≤ 9223372036854775807 := by have := hol.out; omega
          have HRD := Lib.hid (Reads.of_owns ho.out hl2)
          clear hn0 hrr ho
          go_wp2_with fail
          go_ret2
          show StrsP w LE.1 LE.2 _ _
          rw [HL.out, ← HRR.out]
          exact ⟨_, rfl, HRD.out, belowT HB6.out hb.out⟩
  ·
    have HL := Lib.hid (HE.out.trans (if_pos hp))
    have g1 : (PE != 0) = true := by simpa using hp
    clear HE HOK HBU hp
    go_wp2_with fail
    go_ret2
    show StrsP w LE.1 LE.2 _ _
    rw [HL.out]
    exact ⟨_, rfl, strs_nil_reads _, HB3.out⟩
end Go.Proofs.Ytplebibabcdipaa
