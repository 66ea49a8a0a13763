/- choose: augment, the walk. -/
import Derived.Test.YtplebibabcdipaaCho11
namespace Go.Proofs.Ytplebibabcdipaa
open Go.RowKit

theorem make_ints' (n : Nat) (hn : n ≤ 1000) (W : World) : (Instr.makeSlice 49 (.int .i64 (n : Int)) (.int .i64 (n : Int))).run Try.prog W = .ok (.slice (some ⟨W.heap.size, 0, none⟩) n n) (W.alloc (.cells (ints (List.replicate n 0)).toArray 3)) := by
  rw [← made_ints]
  exact run_make_row' 49 3 (.int .i64 0) 8 Try.underlying49 infoIntL rfl .i64 .i64 n (by omega) (by omega) W
theorem wpList_append_told {P : Program} {w : World} {ops : Array Oper} {rest : List Oper} {o : Oper} {a : Act} {Q : Exit → Act → World → Prop} (hgd : o.guard = none) (s x : Operand) (t : TypeId)
    (ho : o.op = .call { callee := .builtin .append, args := #[s, x], argTypes := #[t, t] }) (v xv : Value) (hs : a.eval s = v) (hx : a.eval x = xv) (v' : Value) (w' : World)
    (hrun : (Builtin.append_ #[t, t] o.type #[v, xv]).run P w = .ok v' w') (h : wpList P ops Q rest (a.put o.dst v') w') : wpList P ops Q (o :: rest) a w := by
  refine wpList_plain hgd fun K hK => ?_
  unfold Oper.wp
  simp [execOp, ho, resolve, invoke, builtin, hs, hx, hrun, Result.andThen]
  exact hK _ _ h
theorem Blk.ival {W : World} {g : Nat} {f : List Int} {t : TypeId} (h : Blk W g (ints f).toArray t) (hl : f.length ≤ 1000) : IVal W (.slice (some ⟨g, 0, none⟩) f.length f.length) f := by
  refine Or.inr ⟨g, 0, f.length, rfl, Nat.le_refl _, by omega, h.lt, fun j u hj => ?_⟩
  rw [Nat.zero_add]
  exact h.cell j (by simpa using hj)
set_option maxHeartbeats 8000000 in
set_option maxRecDepth 100000 in
theorem augment_c (c : CNet) (hc : c.Ok) (X : Nat) (ea : Option Addr) (ec : Nat) (sa : Option Addr) (sc : Nat) (f : List Int) (fb : Nat) (w : World) (hn : Hid (∀ W, Below fb w W → NetC W X c ea ec sa sc)) (hf : FlowB c f) (hv : Blk w fb (ints f).toArray 3) :
    Calls Try.prog 104 #[.pointer (some ⟨X, 0, none⟩), .slice (some ⟨fb, 0, none⟩) f.length f.length] w fun e w' => e = .returned (.bool (augC c f).isSome) ∧ Blk w' fb (ints ((augC c f).getD f)).toArray 3 ∧ Below fb w w' := by
  obtain ⟨n, hN⟩ : ∃ k, c.nodes = k := ⟨_, rfl⟩
  have h4 := hc.n
  have h3 := hc.at_
  have h2 := hc.src
  rw [hN] at h2 h3 h4
  have hw := (hn.out w (Below.refl _ _)).blk
  rw [hN] at hw
  have x0 := hw.cell 0 rfl
  have hmk := make_ints' n h4
  go_enter Try.func104, Try.ntmps104
  go_upto_region 3 with (rw [hmk])
  have K0 := Blk.new w (ints (List.replicate n 0)).toArray 3
  have B0 := belowA (Below.refl w.heap.size w) (.cells (ints (List.replicate n 0)).toArray 3)
  obtain ⟨bb, hbb⟩ : ∃ b, w.heap.size = b := ⟨_, rfl⟩
  rw [hbb] at K0 B0 ⊢
  have hfb : fb < bb := by have := hv.lt; omega
  generalize w.alloc (.cells (ints (List.replicate n 0)).toArray 3) = w1 at *
  have HN := Lib.hid hN
  have HSL := Lib.hid h2
  have K1 : Hid (Blk w1 bb (ints (byOf c.src n 0)).toArray 3) := K0
  have B1 : Hid (Below bb w w1) := B0
  have Q1 : Hid (QRow (bb + 1) w1 (.slice none 0 0) (qOf c.src 0)) := QRow.nil _ _
  have S1 : Hid (bb + 1 ≤ w1.heap.size) := by have := K0.lt; show _ ≤ _; omega
  have HQL : Hid (∀ k, k ≤ 1000 → (qOf c.src k).length ≤ 1000) := fun k hk => by
    have : ∀ k, (qOf c.src k).length ≤ k := by
      intro k
      induction k with
      | zero => exact Nat.le_refl _
      | succ k ih =>
        unfold qOf
        split
        · simp; omega
        · omega
    have := this k
    omega
  clear K0 B0 x0 hmk hw hN
  go_wp2_with fail
  go_loopw [21, 6] (fun i qv wr => ∃ k : Nat, k ≤ n ∧ i = .int .i64 k ∧ Hid (Blk wr bb (ints (byOf c.src n k)).toArray 3) ∧ Hid (QRow (bb + 1) wr qv (qOf c.src k)) ∧ Hid (Below bb w wr) ∧ Hid (bb + 1 ≤ wr.heap.size)) (fun i _ _ => n - (intOf i).toNat)
  case atStart => exact ⟨0, Nat.zero_le _, rfl, K1, Q1, B1, S1⟩
  case round =>
    clear K1 Q1 B1 S1
    obtain ⟨k, hk, rfl, hby, hq, hb, hsz⟩ := hrel
    by_cases hlt : k < n
    ·
      have hnet := hn.out wr (hb.out.mono (Nat.le_of_lt hfb))
      have b0 := hby.out.int (i := k) (by rw [byOf_len]; exact hlt)
      have bf := hby.out.free k
      have p1 : decide ((k : Int) < 0) = false := decide_eq_false (by omega)
      have p2 : decide ((n : Int) ≤ (k : Int)) = false := decide_eq_false (by omega)
      have p3 : decide (n ≤ k) = false := decide_eq_false (by omega)
      have K2 := hby.out.set k (.int .i64 (-1))
      rw [ints_set] at K2
      have B2 : Below bb w (wr.setCell ⟨bb, k, none⟩ (.int .i64 (-1))) := bset hb.out (Nat.le_refl _) _ _
      have Q2 := hq.out.set (a := ⟨bb, k, none⟩) (by show bb < bb + 1; omega) (.int .i64 (-1))
      have S2 : Hid (bb + 1 ≤ (wr.setCell ⟨bb, k, none⟩ (.int .i64 (-1))).heap.size) := by show _ ≤ _; rw [World.size_setCell]; exact hsz.out
      have N2 := hn.out _ (B2.mono (Nat.le_of_lt hfb))
      obtain ⟨sg, soff, scap, hvv, _, _, _, hcc⟩ := N2.src.addr (by rw [HSL.out]; omega)
      simp only [Value.slice.injEq] at hvv
      obtain ⟨rfl, _, rfl⟩ := hvv
      have s0 := hcc k _ (bools_get (by rw [HSL.out]; exact hlt))
      have x2 := N2.blk.cell 2 rfl
      rw [HSL.out] at x2
      have HBY : Hid (byOf c.src n (k + 1) = (byOf c.src n k).set k (if c.src.getD k false = true then -2 else -1)) := rfl
      have HQO : Hid (qOf c.src (k + 1) = if c.src.getD k false = true then qOf c.src k ++ [(k : Int)] else qOf c.src k) := rfl
      have hql : Hid ((qOf c.src k).length ≤ 2000) := by show _ ≤ _; have := HQL.out k (by omega); omega
      have hbl : Hid ((byOf c.src n k).length = n) := byOf_len _ _ _
      clear hby hq hb hsz hnet hcc N2
      go_upto_region 7 with fail
      generalize wr.setCell ⟨bb, k, none⟩ (.int .i64 (-1)) = w2 at *
      clear b0 bf
      generalize c.src.getD k false = bk at *
      cases bk
      ·
        go_wp2_with fail
        go_roundw
        case rel => exact ⟨k + 1, hlt, by go_num, by show Blk _ _ _ _; rw [HBY.out]; exact K2, by show QRow _ _ _ _; rw [HQO.out]; exact Q2, B2, S2⟩
        case measure => simp [intOf]; omega
      ·
        have E3 := Blk.new w2 #[.int .i64 k] 3
        have K3 := K2.alloc (.cells #[.int .i64 k] 3)
        have B3 := B2.alloc (by have := S2.out; omega) (.cells #[.int .i64 k] 3)
        obtain ⟨v4, w4, hap, Q4, b4, z4⟩ := (Q2.alloc (.cells #[.int .i64 k] 3)).push (by rw [World.size_alloc]; have := S2.out; omega) k w2.heap.size (E3.cell 0 rfl) hql.out
        have K4 : Blk w4 bb (ints ((byOf c.src n k).set k (-1))).toArray 3 := by
          have := b4.block bb (by omega)
          unfold Blk at K3 ⊢
          rw [this]; exact K3
        have B4 := B3.trans (b4.mono (by omega))
        have S4 : Hid (bb + 1 ≤ w4.heap.size) := by show _ ≤ _; have := S2.out; rw [World.size_alloc] at z4; omega
        have y0 := K4.int (i := k) (by rw [List.length_set, hbl.out]; exact hlt)
        have yf := K4.free k
        have K5 := K4.set k (.int .i64 (-2))
        rw [ints_set, List.set_set] at K5
        have B5 := bset B4 (Nat.le_refl bb) k (.int .i64 (-2))
        have Q5 := Q4.set (a := ⟨bb, k, none⟩) (by show bb < bb + 1; omega) (.int .i64 (-2))
        clear K3 E3 B3 K2 Q2 B2 K4
        go_wp2_with (at_builtin; refine wpList_append_told rfl (.tmp 36) (.tmp 38) 49 rfl _ _ rfl rfl v4 w4 hap ?_)
        go_roundw
        case rel => exact ⟨k + 1, hlt, by go_num, by show Blk _ _ _ _; rw [HBY.out]; exact K5, by show QRow _ _ _ _; rw [HQO.out]; exact Q5, B5, by show _ ≤ _; rw [World.size_setCell]; exact S4.out⟩
        case measure => simp [intOf]; omega
    ·
      have hkn : k = n := by omega
      subst hkn
      obtain ⟨RC, hRC⟩ : ∃ r, reachC c f = r := ⟨_, rfl⟩
      have RC0 : Hid (bfsG c f (byOf c.src k k, qOf c.src k) = RC) := by show _ = _; rw [← hRC]; unfold reachC; rw [HN.out]
      have BI0 : Hid (BfsI c f (byOf c.src k k, qOf c.src k)) := by have := BfsI.start (c := c) f; rw [HN.out] at this; exact this
      have HT0 : Hid ((qOf c.src k).length + muM (byOf c.src k k) ≤ 2000) := by
        have h1 := HQL.out k (by omega)
        have h2 := muM_le (byOf c.src k k)
        rw [byOf_len] at h2
        show _ ≤ _; omega
      generalize byOf c.src k k = by0 at *
      generalize qOf c.src k = q0 at *
      have hby0 := hby
      have hq0 := hq
      have hb0 := hb
      have hsz0 := hsz
      clear hby hq hb hsz HQL
      go_wp2_with fail
      go_loopg [6] (q0.length + muM by0) (fun gh qv wr => ∃ (by_ q : List Int), gh = q.length + muM by_ ∧ Hid (BfsI c f (by_, q)) ∧ Hid (bfsG c f (by_, q) = RC) ∧ Hid (q.length + muM by_ ≤ 2000) ∧ Hid (Blk wr bb (ints by_).toArray 3) ∧ Hid (QRow (bb + 1) wr qv q) ∧ Hid (Below bb w wr) ∧ Hid (bb + 1 ≤ wr.heap.size))
      case atStart => exact ⟨by0, q0, rfl, BI0, RC0, HT0, hby0, hq0, hb0, hsz0⟩
      case round =>
        clear BI0 RC0 HT0 hby0 hq0 hb0 hsz0
        obtain ⟨by_, q, rfl, hbi, hrc, hT, hby, hq, hb, hsz⟩ := hrel
        have N1 := hn.out wr (hb.out.mono (Nat.le_of_lt hfb))
        have x3 := N1.blk.cell 3 rfl
        have y0 := hby.out.int (i := c.at_) (by have := hbi.out.b.len; simp only at this; rw [this, HN.out]; exact h3)
        have HBL : Hid (by_.length = k) := by have := hbi.out.b.len; rw [HN.out] at this; exact this
        have p1 : decide ((c.at_ : Int) < 0) = false := decide_eq_false (by omega)
        have p2 : decide ((k : Int) ≤ (c.at_ : Int)) = false := decide_eq_false (by omega)
        have p3 : decide (k ≤ c.at_) = false := decide_eq_false (by omega)
        obtain ⟨y, hye⟩ : ∃ y, by_.getD c.at_ 0 = y := ⟨_, rfl⟩
        have HYE := Lib.hid hye
        rw [hye] at y0
        clear hye
        cases q with
        | nil =>
          have HRC : Hid (RC = by_) := hrc.out.symm
          obtain ⟨qa, qc, rfl, _⟩ := hq.out
          clear hrc hbi
          go_upto_region 24 with fail
          have HFB := Lib.hid (below_blk (hb.out.mono (show fb + 1 ≤ bb by omega)) hv (Nat.lt_succ_self fb))
          have HBW := Lib.hid (hb.out.mono (Nat.le_of_lt hfb))
          by_cases hy2 : y = -1
          ·
            have g2 : (y == -1) = true := by simp [hy2]
            have HAN : Hid (augC c f = none) := by
              show _ = _
              unfold augC
              rw [hRC, HRC.out, HYE.out, if_pos hy2]
            first
              | exact absurd hy2 HNY.out
              | (clear hy2
                 go_wp2_with fail
                 go_ret
                 exact ⟨by rw [HAN.out]; rfl, by rw [HAN.out]; exact HFB.out, HBW.out⟩)
          ·
            have g2 : (y == -1) = false := by simpa using hy2
            have HTR := (reach_ok f hc).1
            rw [hRC, HRC.out] at HTR
            obtain ⟨m, hch, hmn⟩ := HTR.ok c.at_ (by rw [HN.out]; exact h3) (by rw [HYE.out]; exact hy2)
            have HAS : Hid (augC c f = some (pathF c by_ m c.at_ f)) := by
              show _ = _
              unfold augC
              rw [hRC, HRC.out, HYE.out, if_neg hy2, pathF_eq m c.nodes c.at_ f hch (by omega)]
            have HED := Lib.hid HTR.edge
            have hm1 : m ≤ 1000 := by have := HN.out; omega
            obtain ⟨F, hF⟩ : ∃ r, pathF c by_ m c.at_ f = r := ⟨_, rfl⟩
            rw [hF] at HAS
            have HP0 : Hid (pathF c by_ m c.at_ f = F) := hF
            have HC0 := Lib.hid hch
            have HF0 : Hid (∀ j, -1000 - ((1000 : Int) - m) ≤ f.getD j 0 ∧ f.getD j 0 ≤ 1000 + ((1000 : Int) - m)) := fun j => by
              have h1 := hf.lo j
              have h2 := hf.hi j
              omega
            have HBY0 := hby
            clear hch hF hy2 HTR hby hb hq N1
            go_wp2_with fail
            go_loopg [12] m (fun gh iv wr => ∃ (d i : Nat) (f' : List Int), d = gh ∧ iv = .int .i64 i ∧ i < k ∧ d ≤ 1000 ∧ Hid (Chain c by_ d i) ∧ Hid (pathF c by_ d i f' = F) ∧ Hid (f'.length = f.length) ∧ Hid (∀ j, -1000 - ((1000 : Int) - d) ≤ f'.getD j 0 ∧ f'.getD j 0 ≤ 1000 + ((1000 : Int) - d)) ∧ Hid (Blk wr fb (ints f').toArray 3) ∧ Hid (Blk wr bb (ints by_).toArray 3) ∧ Hid (Below fb w wr))
            case atStart => exact ⟨m, c.at_, f, rfl, rfl, h3, by omega, HC0, HP0, Lib.hid rfl, HF0, HFB, HBY0, HBW⟩
            case round =>
              clear HC0 HP0 HF0 HFB HBY0 HBW x3 y0
              obtain ⟨d, i, f', hd, rfl, hik, hgm, hch, hpf, hfl, hfb2, hkf, hkb, hbw⟩ := hrel
              subst hd
              have yb := hkb.out.int (i := i) (by rw [HBL.out]; exact hik)
              have p4 : decide ((i : Int) < 0) = false := decide_eq_false (by omega)
              have p5 : decide ((k : Int) ≤ (i : Int)) = false := decide_eq_false (by omega)
              have p6 : decide (k ≤ i) = false := decide_eq_false (by omega)
              cases d with
              | zero =>
                have hlt0 := hch.out.2
                have HFF : Hid (f' = F) := hpf.out
                have g3 : decide (0 ≤ by_.getD i 0) = false := decide_eq_false (by omega)
                generalize by_.getD i 0 = bi at *
                clear hlt0 hch hpf
                go_wp2_with fail
                go_ret
                exact ⟨by rw [HAS.out]; rfl, by rw [HAS.out]; show Blk _ _ _ _; rw [← HFF.out]; exact hkf.out, hbw.out⟩
              | succ d =>
                obtain ⟨_, hge, hkl, hch2⟩ := hch.out
                have hp2 : pathF c by_ d (farEnd c (by_.getD i 0).toNat i) (pushE c (by_.getD i 0).toNat i f') = F := by
                  rw [← hpf.out]
                  show _ = (if 0 ≤ by_.getD i 0 then pathF c by_ d (farEnd c (by_.getD i 0).toNat i) (pushE c (by_.getD i 0).toNat i f') else f')
                  rw [if_pos hge]
                obtain ⟨kk, hkk⟩ := Int.eq_ofNat_of_zero_le hge
                rw [hkk, Int.toNat_natCast] at hkl hch2 hp2
                rw [hkk] at yb
                obtain ⟨e, he⟩ : ∃ x, c.edges[kk]? = some x := ⟨_, List.getElem?_eq_getElem hkl⟩
                have hee : edgeAt c kk = e := by unfold edgeAt; simp [he]
                have N5 := hn.out wr hbw.out
                have x1 := N5.blk.cell 1 rfl
                obtain ⟨eg, eoff, ecap, evv, _, _, _, ecc⟩ := N5.edges.addr (by omega)
                simp only [Value.slice.injEq] at evv
                obtain ⟨rfl, _, rfl⟩ := evv
                obtain ⟨_, c1, c2, _⟩ := ce_cells ecc he
                obtain ⟨nea, neb⟩ := hc.ne e (List.mem_of_getElem? he)
                have hfe := hf.len
                have f0 := hkf.out.int (i := kk) (by rw [hfl.out]; omega)
                have ff := hkf.out.free kk
                have hbd := hfb2.out kk
                have hfar : farEnd c kk i = if e.b = i then e.a else e.b := by unfold farEnd; rw [hee]
                have hpu : pushE c kk i f' = f'.set kk (if e.b = i then f'.getD kk 0 + 1 else f'.getD kk 0 - 1) := by unfold pushE; rw [hee]
                rw [hfar] at hch2 hp2
                rw [hpu] at hp2
                rw [HN.out] at nea neb
                have m1 : c.edges.length ≤ 1000 := hc.m
                have q1 : decide ((kk : Int) < 0) = false := decide_eq_false (by omega)
                have q2 : decide ((c.edges.length : Int) ≤ (kk : Int)) = false := decide_eq_false (by omega)
                have q3 : decide (c.edges.length ≤ kk) = false := decide_eq_false (by omega)
                have q4 : decide ((f.length : Int) ≤ (kk : Int)) = false := decide_eq_false (by omega)
                have q5 : decide (f.length ≤ kk) = false := decide_eq_false (by omega)
                have g3 : decide (0 ≤ (kk : Int)) = true := decide_eq_true (by omega)
                have hnew : ∀ v : Int, -1000 - ((1000 : Int) - d) ≤ v → v ≤ 1000 + ((1000 : Int) - d) → ∀ j, -1000 - ((1000 : Int) - d) ≤ (f'.set kk v).getD j 0 ∧ (f'.set kk v).getD j 0 ≤ 1000 + ((1000 : Int) - d) := fun v h1 h2 j => by
                  by_cases hjk : j = kk
                  · subst hjk; rw [getD_set_eq' (by rw [hfl.out]; omega)]; exact ⟨h1, h2⟩
                  · rw [getD_set_ne' hjk]; have := hfb2.out j; omega
                have KF : ∀ v : Int, Blk (wr.setCell ⟨fb, kk, none⟩ (.int .i64 v)) fb (ints (f'.set kk v)).toArray 3 := fun v => by
                  have := hkf.out.set kk (.int .i64 v)
                  rw [ints_set] at this; exact this
                have KB : ∀ v : Int, Blk (wr.setCell ⟨fb, kk, none⟩ (.int .i64 v)) bb (ints by_).toArray 3 := fun v => hkb.out.setOther _ (by show bb ≠ fb; omega) _
                have BW := fun v : Int => bset hbw.out (Nat.le_refl fb) kk (.int .i64 v)
                have HLN : ∀ v : Int, (f'.set kk v).length = f.length := fun v => by rw [List.length_set]; exact hfl.out
                have HE6 : Hid (∀ v : Int, (wr.setCell ⟨fb, kk, none⟩ (.int .i64 v)).cell? ⟨X, 1, none⟩ = some (.slice (some ⟨eg, eoff, none⟩) c.edges.length ec) ∧ (wr.setCell ⟨fb, kk, none⟩ (.int .i64 v)).cell? ⟨eg, eoff + kk * 4 + 1, none⟩ = some (.int .i64 e.a) ∧ (wr.setCell ⟨fb, kk, none⟩ (.int .i64 v)).cell? ⟨eg, eoff + kk * 4 + 2, none⟩ = some (.int .i64 e.b)) := fun v => by
                  have N6 := hn.out _ (BW v)
                  obtain ⟨eg', eoff', ecap', evv', _, _, _, ecc'⟩ := N6.edges.addr (by omega)
                  simp only [Value.slice.injEq] at evv'
                  obtain ⟨e1, _, _⟩ := evv'
                  cases e1
                  obtain ⟨_, z1, z2, _⟩ := ce_cells ecc' he
                  exact ⟨N6.blk.cell 1 rfl, z1, z2⟩
                generalize f'.getD kk 0 = fk at *
                clear hch hpf hfar hpu hee he ecc N5 hge hkk hkf hkb
                by_cases hei : e.b = i
                ·
                  rw [if_pos hei] at hch2
                  rw [if_pos hei, if_pos hei] at hp2
                  have g5 : ((e.b : Int) == (i : Int)) = true := by simp [hei]
                  have hw := IntWalk.i64_in (fk + 1) (by push_cast at hbd; omega)
                  have HNW := Lib.hid (hnew (fk + 1) (by push_cast at hbd ⊢; omega) (by push_cast at hbd ⊢; omega))
                  have HC2 := Lib.hid hch2
                  have HP2 := Lib.hid hp2
                  obtain ⟨z0, z1, z2⟩ := HE6.out (fk + 1)
                  clear hei hnew hch2 hp2 hbd
                  go_wp2_with fail
                  go_roundg d
                  case rel => exact ⟨d, e.a, f'.set kk (fk + 1), rfl, rfl, nea, by omega, HC2, HP2, Lib.hid (HLN _), HNW, Lib.hid (KF _), Lib.hid (KB _), Lib.hid (BW _)⟩
                  case measure => omega
                ·
                  rw [if_neg hei] at hch2
                  rw [if_neg hei, if_neg hei] at hp2
                  have g5 : ((e.b : Int) == (i : Int)) = false := by rw [beq_eq_false_iff_ne]; omega
                  have hw := IntWalk.i64_in (fk - 1) (by push_cast at hbd; omega)
                  have HNW := Lib.hid (hnew (fk - 1) (by push_cast at hbd ⊢; omega) (by push_cast at hbd ⊢; omega))
                  have HC2 := Lib.hid hch2
                  have HP2 := Lib.hid hp2
                  obtain ⟨z0, z1, z2⟩ := HE6.out (fk - 1)
                  clear hei hnew hch2 hp2 hbd
                  go_wp2_with fail
                  go_roundg d
                  case rel => exact ⟨d, e.b, f'.set kk (fk - 1), rfl, rfl, neb, by omega, HC2, HP2, Lib.hid (HLN _), HNW, Lib.hid (KF _), Lib.hid (KB _), Lib.hid (BW _)⟩
                  case measure => omega
        | cons i q =>
          obtain ⟨g, off, qc, rfl, hq1, hq2, hq3, hq4, hq5⟩ := hq.out.head
          have hst := bfsG_step (f := f) hc hbi.out.b
          rw [HYE.out] at hst
          by_cases hy : y = -1
          ·
            rw [if_pos hy] at hst
            have gy : (y == -1) = true := by simp [hy]
            have hic := hbi.out.b.q i List.mem_cons_self
            obtain ⟨ii, hii⟩ := Int.eq_ofNat_of_zero_le hic.1
            subst hii
            go_upto_region 12 with fail
            go_cut [6] from 58 to 59 (fun s6 wx => ∃ qv, s6 = qv ∧ Hid (QRow (bb + 1) wr qv q) ∧ wr = wx)
            case first =>
              by_cases hqc : qc = 1
              ·
                have HQ := Lib.hid (hq4 hqc)
                subst hqc
                have hqn : q = [] := List.eq_nil_of_length_eq_zero (by omega)
                subst hqn
                go_wp2_with fail
                go_meet
                exact ⟨_, rfl, HQ, rfl⟩
              ·
                have HQ := Lib.hid (hq5 hqc)
                have hqc2 : ¬ 1 = qc := fun h => hqc h.symm
                go_wp2_with fail
                go_meet
                exact ⟨_, rfl, HQ, rfl⟩
            case rest =>
              obtain ⟨qv, rfl, hqn, rfl⟩ := hcut
              have hbr := hbi.out.round hc
              rw [hrc.out] at hst
              simp only [Int.toNat_natCast] at hst hbr
              obtain ⟨PR, hPR⟩ : ∃ r, bfsP c f ii c.edges 0 (by_, q) = r := ⟨_, rfl⟩
              have hgd := (bfsP_good (c := c) (f := f) (i := ii) c.edges 0 (by_, q) hc.ne ⟨hbi.out.b.len, fun x hx => hbi.out.b.q x (List.mem_cons_of_mem _ hx)⟩).2
              rw [hPR] at hst hbr hgd
              simp only at hgd
              have HST := Lib.hid hst
              have HBR := Lib.hid hbr
              have HGD := Lib.hid hgd
              have HP0 : Hid (bfsP c f ii (c.edges.drop 0) 0 (by_, q) = PR) := hPR
              have HB0 : Hid (BOk c.nodes (by_, q)) := ⟨hbi.out.b.len, fun x hx => hbi.out.b.q x (List.mem_cons_of_mem _ hx)⟩
              have x1 := N1.blk.cell 1 rfl
              have hby0 := hby
              have hb0 := hb
              have hsz0 := hsz
              have hii : ii < k := by have := HN.out; omega
              clear hst hbr hgd hPR hbi hrc hq hq3 hq4 hq5 y0 x3 p1 p2 p3 HYE hy gy hic
              go_wp2_with fail
              go_loopw [65, 6] (fun iv qw wr => ∃ (j : Nat) (by2 q2 : List Int), j ≤ c.edges.length ∧ iv = .int .i64 j ∧ Hid (bfsP c f ii (c.edges.drop j) j (by2, q2) = PR) ∧ Hid (BOk c.nodes (by2, q2)) ∧ Hid (q2.length + muM by2 ≤ 2000) ∧ Hid (Blk wr bb (ints by2).toArray 3) ∧ Hid (QRow (bb + 1) wr qw q2) ∧ Hid (Below bb w wr) ∧ Hid (bb + 1 ≤ wr.heap.size)) (fun iv _ _ => c.edges.length - (intOf iv).toNat)
              case atStart => exact ⟨0, by_, q, Nat.zero_le _, rfl, HP0, HB0, by show _ ≤ _; have := hT.out; simp only [List.length_cons] at this; omega, hby0, hqn, hb0, hsz0⟩
              case round =>
                clear HP0 HB0 x1 hby0 hb0 hsz0 hby hqn hb hsz HBL
                obtain ⟨j, by2, q2, hj, rfl, hp, hbo, hT2, hby, hq, hb, hsz⟩ := hrel
                by_cases hlt : j < c.edges.length
                ·
                  obtain ⟨e, he⟩ : ∃ x, c.edges[j]? = some x := ⟨_, List.getElem?_eq_getElem hlt⟩
                  have N5 := hn.out wr (hb.out.mono (Nat.le_of_lt hfb))
                  obtain ⟨eg, eoff, ecap, evv, _, _, _, ecc⟩ := N5.edges.addr (by omega)
                  simp only [Value.slice.injEq] at evv
                  obtain ⟨rfl, _, rfl⟩ := evv
                  obtain ⟨c0, c1, c2, c3⟩ := ce_cells ecc he
                  obtain ⟨nea, neb⟩ := hc.ne e (List.mem_of_getElem? he)
                  rw [HN.out] at nea neb
                  have hd := bfsP_drop (c := c) (f := f) (i := ii) he (by2, q2)
                  rw [hd] at hp
                  have HBE : Hid (bfsE c f ii j (by2, q2) e = if ii = e.b then addN c f j ii e.a (by2, q2) else if ii = e.a then addN c f j ii e.b (by2, q2) else (by2, q2)) := rfl
                  have HRM0 := Lib.hid (fun W (hW : Below bb w W) => room_c c X (some ⟨eg, eoff, none⟩) ec sa sc f (.slice (some ⟨fb, 0, none⟩) f.length f.length) j ii W (hn.out W (hW.mono (Nat.le_of_lt hfb))) hc.m hf (Blk.ival (below_blk (hW.mono (show fb + 1 ≤ bb by omega)) hv (Nat.lt_succ_self fb)) (by rw [hf.len]; exact hc.m)) hlt)
                  have E2 := Lib.hid (Blk.new wr e.cells.toArray 126)
                  have K2 := Lib.hid (hby.out.alloc (.cells e.cells.toArray 126))
                  have Q2 := Lib.hid (hq.out.alloc (.cells e.cells.toArray 126))
                  have B2 := Lib.hid (hb.out.alloc (by have := hsz.out; omega) (.cells e.cells.toArray 126))
                  have S2 : Hid (bb + 1 ≤ (wr.alloc (.cells e.cells.toArray 126)).heap.size) := by show _ ≤ _; rw [World.size_alloc]; have := hsz.out; omega
                  have HRM := Lib.hid (HRM0.out _ B2.out)
                  obtain ⟨nm, a, b, bk⟩ := e
                  simp only at c0 c1 c2 c3 nea neb HBE
                  have HEC : Hid ((CEdge.cells ⟨nm, a, b, bk⟩).toArray = #[.string nm, .int .i64 a, .int .i64 b, .bool bk]) := rfl
                  rw [HEC.out] at E2 K2 Q2 B2 S2 HRM
                  obtain ⟨vb, hvb⟩ : ∃ b, wr.heap.size = b := ⟨_, rfl⟩
                  have HVB := Lib.hid hvb
                  have hne : vb ≠ bb := by have := hsz.out; omega
                  rw [hvb] at E2
                  clear hvb ecc he hd HEC N5 HRM0
                  go_upto_region 16 with fail
                  rw [HVB.out]
                  generalize wr.alloc (.cells #[.string nm, .int .i64 a, .int .i64 b, .bool bk] 126) = W2 at *
                  clear c0 c1 c2 c3 HVB hby hq hb hsz
                  have e1 := E2.out.cell 1 rfl
                  have e2 := E2.out.cell 2 rfl
                  by_cases hib : ii = b
                  ·
                    have g1 : ((ii : Int) == (b : Int)) = true := by simp [hib]
                    have HB1 := Lib.hid (HBE.out.trans (if_pos hib))
                    rw [HB1.out] at hp
                    clear HBE hib
                    have yt := K2.out.int (i := a) (by rw [hbo.out.len, HN.out]; exact nea)
                    have tf := K2.out.free a
                    have t4 : decide ((a : Int) < 0) = false := decide_eq_false (by omega)
                    have t5 : decide ((k : Int) ≤ (a : Int)) = false := decide_eq_false (by omega)
                    have t6 : decide (k ≤ a) = false := decide_eq_false (by omega)
                    have HGN := Lib.hid (addN_good (c := c) (f := f) (k := j) (i := ii) (t := a) (by rw [HN.out]; exact nea) (by2, q2) hbo.out)
                    have HAD : Hid (addN c f j ii a (by2, q2) = if ((by2.getD a 0 == -1) && decide (0 < roomC c f j ii)) = true then (by2.set a j, q2 ++ [(a : Int)]) else (by2, q2)) := rfl
                    obtain ⟨R, hR⟩ : ∃ r, roomC c f j ii = r := ⟨_, rfl⟩
                    rw [hR] at HAD HRM
                    obtain ⟨yv, hyv⟩ : ∃ r, by2.getD a 0 = r := ⟨_, rfl⟩
                    rw [hyv] at yt HAD
                    clear hR hyv
                    by_cases hm1 : yv = -1
                    ·
                      have g4 : (yv == -1) = true := by simp [hm1]
                      by_cases hr0 : 0 < R
                      ·
                        have g5 : decide (0 < R) = true := decide_eq_true hr0
                        have HAE := Lib.hid (HAD.out.trans (if_pos (by rw [g4, g5]; rfl)))
                        have HG2 := HGN.out
                        rw [HAE.out] at HG2 hp
                        have K3 := K2.out.set a (.int .i64 j)
                        rw [ints_set] at K3
                        have Q3 := Q2.out.set (a := ⟨bb, a, none⟩) (by show bb < bb + 1; omega) (.int .i64 j)
                        have B3 := bset B2.out (Nat.le_refl bb) a (.int .i64 j)
                        have S3 : Hid (bb + 1 ≤ (W2.setCell ⟨bb, a, none⟩ (.int .i64 j)).heap.size) := by show _ ≤ _; rw [World.size_setCell]; exact S2.out
                        have HBO := Lib.hid HG2.1
                        have HT3 : Hid ((q2 ++ [(a : Int)]).length + muM (by2.set a j) ≤ 2000) := by show _ ≤ _; have h1 := HG2.2; have h2 := hT2.out; simp only at h1; omega
                        have HQ2 : Hid (q2.length ≤ 2000) := by show _ ≤ _; have h2 := hT2.out; omega
                        clear HAD hr0 hm1 HGN HG2 K2 Q2 B2 S2 hT2 hbo
                        go_wp2_with fail
                        refine HRM.out.mono ?_; rintro ee w' ⟨rfl, rfl⟩
                        clear HRM
                        go_upto_region 22 with fail
                        generalize w'.setCell ⟨bb, a, none⟩ (.int .i64 j) = W3 at *
                        clear yt tf
                        have E4 := Blk.new W3 #[.int .i64 a] 3
                        have K4 := K3.alloc (.cells #[.int .i64 a] 3)
                        have B4 := B3.alloc (by have := S3.out; omega) (.cells #[.int .i64 a] 3)
                        obtain ⟨v4, w4, hap, Q5, b5, z5⟩ := (Q3.alloc (.cells #[.int .i64 a] 3)).push (by rw [World.size_alloc]; have := S3.out; omega) a W3.heap.size (E4.cell 0 rfl) HQ2.out
                        have K5 : Blk w4 bb (ints (by2.set a j)).toArray 3 := by
                          have := b5.block bb (by omega)
                          unfold Blk at K4 ⊢
                          rw [this]; exact K4
                        have B5 := B4.trans (b5.mono (by omega))
                        have S5 : Hid (bb + 1 ≤ w4.heap.size) := by show _ ≤ _; have := S3.out; rw [World.size_alloc] at z5; omega
                        clear K4 E4 B4 K3 Q3 B3 S3
                        go_wp2_with (at_builtin; refine wpList_append_told rfl (.tmp 99) (.tmp 101) 49 rfl _ _ rfl rfl v4 w4 hap ?_)
                        go_roundw
                        case rel => exact ⟨j + 1, _, _, hlt, by go_num, hp, HBO, HT3, K5, Q5, B5, S5⟩
                        case measure => simp [intOf]; omega
                      ·
                        have g5 : decide (0 < R) = false := decide_eq_false hr0
                        have HAE := Lib.hid (HAD.out.trans (if_neg (by rw [g4, g5]; decide)))
                        rw [HAE.out] at hp
                        clear HAD hr0 hm1 HGN
                        go_wp2_with fail
                        refine HRM.out.mono ?_; rintro ee w' ⟨rfl, rfl⟩
                        go_wp2_with fail
                        go_roundw
                        case rel => exact ⟨j + 1, by2, q2, hlt, by go_num, hp, hbo, hT2, K2, Q2, B2, S2⟩
                        case measure => simp [intOf]; omega
                    ·
                      have g4 : (yv == -1) = false := by simpa using hm1
                      have HAE := Lib.hid (HAD.out.trans (if_neg (by rw [g4]; simp)))
                      rw [HAE.out] at hp
                      clear HAD hm1 HGN HRM
                      go_wp2_with fail
                      go_roundw
                      case rel => exact ⟨j + 1, by2, q2, hlt, by go_num, hp, hbo, hT2, K2, Q2, B2, S2⟩
                      case measure => simp [intOf]; omega
                  ·
                    have g1 : ((ii : Int) == (b : Int)) = false := by rw [beq_eq_false_iff_ne]; omega
                    by_cases hia : ii = a
                    ·
                      have g2 : ((ii : Int) == (a : Int)) = true := by simp [hia]
                      have g3 : ((ii : Int) != (a : Int)) = false := by simp [hia]
                      have HB1 := Lib.hid (HBE.out.trans ((if_neg hib).trans (if_pos hia)))
                      rw [HB1.out] at hp
                      clear HBE hib hia
                      have yt := K2.out.int (i := b) (by rw [hbo.out.len, HN.out]; exact neb)
                      have tf := K2.out.free b
                      have t4 : decide ((b : Int) < 0) = false := decide_eq_false (by omega)
                      have t5 : decide ((k : Int) ≤ (b : Int)) = false := decide_eq_false (by omega)
                      have t6 : decide (k ≤ b) = false := decide_eq_false (by omega)
                      have HGN := Lib.hid (addN_good (c := c) (f := f) (k := j) (i := ii) (t := b) (by rw [HN.out]; exact neb) (by2, q2) hbo.out)
                      have HAD : Hid (addN c f j ii b (by2, q2) = if ((by2.getD b 0 == -1) && decide (0 < roomC c f j ii)) = true then (by2.set b j, q2 ++ [(b : Int)]) else (by2, q2)) := rfl
                      obtain ⟨R, hR⟩ : ∃ r, roomC c f j ii = r := ⟨_, rfl⟩
                      rw [hR] at HAD HRM
                      obtain ⟨yv, hyv⟩ : ∃ r, by2.getD b 0 = r := ⟨_, rfl⟩
                      rw [hyv] at yt HAD
                      clear hR hyv
                      by_cases hm1 : yv = -1
                      ·
                        have g4 : (yv == -1) = true := by simp [hm1]
                        by_cases hr0 : 0 < R
                        ·
                          have g5 : decide (0 < R) = true := decide_eq_true hr0
                          have HAE := Lib.hid (HAD.out.trans (if_pos (by rw [g4, g5]; rfl)))
                          have HG2 := HGN.out
                          rw [HAE.out] at HG2 hp
                          have K3 := K2.out.set b (.int .i64 j)
                          rw [ints_set] at K3
                          have Q3 := Q2.out.set (a := ⟨bb, b, none⟩) (by show bb < bb + 1; omega) (.int .i64 j)
                          have B3 := bset B2.out (Nat.le_refl bb) b (.int .i64 j)
                          have S3 : Hid (bb + 1 ≤ (W2.setCell ⟨bb, b, none⟩ (.int .i64 j)).heap.size) := by show _ ≤ _; rw [World.size_setCell]; exact S2.out
                          have HBO := Lib.hid HG2.1
                          have HT3 : Hid ((q2 ++ [(b : Int)]).length + muM (by2.set b j) ≤ 2000) := by show _ ≤ _; have h1 := HG2.2; have h2 := hT2.out; simp only at h1; omega
                          have HQ2 : Hid (q2.length ≤ 2000) := by show _ ≤ _; have h2 := hT2.out; omega
                          clear HAD hr0 hm1 HGN HG2 K2 Q2 B2 S2 hT2 hbo
                          go_wp2_with fail
                          refine HRM.out.mono ?_; rintro ee w' ⟨rfl, rfl⟩
                          clear HRM
                          go_upto_region 22 with fail
                          generalize w'.setCell ⟨bb, b, none⟩ (.int .i64 j) = W3 at *
                          clear yt tf
                          have E4 := Blk.new W3 #[.int .i64 b] 3
                          have K4 := K3.alloc (.cells #[.int .i64 b] 3)
                          have B4 := B3.alloc (by have := S3.out; omega) (.cells #[.int .i64 b] 3)
                          obtain ⟨v4, w4, hap, Q5, b5, z5⟩ := (Q3.alloc (.cells #[.int .i64 b] 3)).push (by rw [World.size_alloc]; have := S3.out; omega) b W3.heap.size (E4.cell 0 rfl) HQ2.out
                          have K5 : Blk w4 bb (ints (by2.set b j)).toArray 3 := by
                            have := b5.block bb (by omega)
                            unfold Blk at K4 ⊢
                            rw [this]; exact K4
                          have B5 := B4.trans (b5.mono (by omega))
                          have S5 : Hid (bb + 1 ≤ w4.heap.size) := by show _ ≤ _; have := S3.out; rw [World.size_alloc] at z5; omega
                          clear K4 E4 B4 K3 Q3 B3 S3
                          go_wp2_with (at_builtin; refine wpList_append_told rfl (.tmp 99) (.tmp 101) 49 rfl _ _ rfl rfl v4 w4 hap ?_)
                          go_roundw
                          case rel => exact ⟨j + 1, _, _, hlt, by go_num, hp, HBO, HT3, K5, Q5, B5, S5⟩
                          case measure => simp [intOf]; omega
                        ·
                          have g5 : decide (0 < R) = false := decide_eq_false hr0
                          have HAE := Lib.hid (HAD.out.trans (if_neg (by rw [g4, g5]; decide)))
                          rw [HAE.out] at hp
                          clear HAD hr0 hm1 HGN
                          go_wp2_with fail
                          refine HRM.out.mono ?_; rintro ee w' ⟨rfl, rfl⟩
                          go_wp2_with fail
                          go_roundw
                          case rel => exact ⟨j + 1, by2, q2, hlt, by go_num, hp, hbo, hT2, K2, Q2, B2, S2⟩
                          case measure => simp [intOf]; omega
                      ·
                        have g4 : (yv == -1) = false := by simpa using hm1
                        have HAE := Lib.hid (HAD.out.trans (if_neg (by rw [g4]; simp)))
                        rw [HAE.out] at hp
                        clear HAD hm1 HGN HRM
                        go_wp2_with fail
                        go_roundw
                        case rel => exact ⟨j + 1, by2, q2, hlt, by go_num, hp, hbo, hT2, K2, Q2, B2, S2⟩
                        case measure => simp [intOf]; omega
                    ·
                      have g3 : ((ii : Int) != (a : Int)) = true := by rw [bne_iff_ne]; omega
                      have HB1 := Lib.hid (HBE.out.trans ((if_neg hib).trans (if_neg hia)))
                      rw [HB1.out] at hp
                      clear HBE hib hia HRM
                      go_wp2_with fail
                      go_roundw
                      case rel => exact ⟨j + 1, by2, q2, hlt, by go_num, hp, hbo, hT2, K2, Q2, B2, S2⟩
                      case measure => simp [intOf]; omega
                ·
                  have hn0 : c.edges.drop j = [] := List.drop_eq_nil_of_le (by omega)
                  have hpr : PR = (by2, q2) := by rw [← hp.out, hn0]; rfl
                  rw [hpr] at HST HBR HGD
                  have HGE := HGD.out
                  simp only at HGE
                  clear hn0 hp hpr
                  go_wp2_with fail
                  go_roundg (q2.length + muM by2)
                  case rel => exact ⟨by2, q2, rfl, HBR, HST.out.symm ▸ rfl, hT2, hby, hq, hb, hsz⟩
                  case measure => first | omega | (simp; omega)
          ·
            rw [if_neg hy] at hst
            have HRC : Hid (RC = by_) := by show _ = _; rw [← hrc.out, hst]
            have gy : (y == -1) = false := by simpa using hy
            have HNY := Lib.hid hy
            clear hst hrc hy hq4 hq5
            go_upto_region 24 with fail
            have HFB := Lib.hid (below_blk (hb.out.mono (show fb + 1 ≤ bb by omega)) hv (Nat.lt_succ_self fb))
            have HBW := Lib.hid (hb.out.mono (Nat.le_of_lt hfb))
            by_cases hy2 : y = -1
            ·
              have g2 : (y == -1) = true := by simp [hy2]
              have HAN : Hid (augC c f = none) := by
                show _ = _
                unfold augC
                rw [hRC, HRC.out, HYE.out, if_pos hy2]
              first
                | exact absurd hy2 HNY.out
                | (clear hy2
                   go_wp2_with fail
                   go_ret
                   exact ⟨by rw [HAN.out]; rfl, by rw [HAN.out]; exact HFB.out, HBW.out⟩)
            ·
              have g2 : (y == -1) = false := by simpa using hy2
              have HTR := (reach_ok f hc).1
              rw [hRC, HRC.out] at HTR
              obtain ⟨m, hch, hmn⟩ := HTR.ok c.at_ (by rw [HN.out]; exact h3) (by rw [HYE.out]; exact hy2)
              have HAS : Hid (augC c f = some (pathF c by_ m c.at_ f)) := by
                show _ = _
                unfold augC
                rw [hRC, HRC.out, HYE.out, if_neg hy2, pathF_eq m c.nodes c.at_ f hch (by omega)]
              have HED := Lib.hid HTR.edge
              have hm1 : m ≤ 1000 := by have := HN.out; omega
              obtain ⟨F, hF⟩ : ∃ r, pathF c by_ m c.at_ f = r := ⟨_, rfl⟩
              rw [hF] at HAS
              have HP0 : Hid (pathF c by_ m c.at_ f = F) := hF
              have HC0 := Lib.hid hch
              have HF0 : Hid (∀ j, -1000 - ((1000 : Int) - m) ≤ f.getD j 0 ∧ f.getD j 0 ≤ 1000 + ((1000 : Int) - m)) := fun j => by
                have h1 := hf.lo j
                have h2 := hf.hi j
                omega
              have HBY0 := hby
              clear hch hF hy2 HTR hby hb hq N1
              go_wp2_with fail
              go_loopg [12] m (fun gh iv wr => ∃ (d i : Nat) (f' : List Int), d = gh ∧ iv = .int .i64 i ∧ i < k ∧ d ≤ 1000 ∧ Hid (Chain c by_ d i) ∧ Hid (pathF c by_ d i f' = F) ∧ Hid (f'.length = f.length) ∧ Hid (∀ j, -1000 - ((1000 : Int) - d) ≤ f'.getD j 0 ∧ f'.getD j 0 ≤ 1000 + ((1000 : Int) - d)) ∧ Hid (Blk wr fb (ints f').toArray 3) ∧ Hid (Blk wr bb (ints by_).toArray 3) ∧ Hid (Below fb w wr))
              case atStart => exact ⟨m, c.at_, f, rfl, rfl, h3, by omega, HC0, HP0, Lib.hid rfl, HF0, HFB, HBY0, HBW⟩
              case round =>
                clear HC0 HP0 HF0 HFB HBY0 HBW x3 y0
                obtain ⟨d, i, f', hd, rfl, hik, hgm, hch, hpf, hfl, hfb2, hkf, hkb, hbw⟩ := hrel
                subst hd
                have yb := hkb.out.int (i := i) (by rw [HBL.out]; exact hik)
                have p4 : decide ((i : Int) < 0) = false := decide_eq_false (by omega)
                have p5 : decide ((k : Int) ≤ (i : Int)) = false := decide_eq_false (by omega)
                have p6 : decide (k ≤ i) = false := decide_eq_false (by omega)
                cases d with
                | zero =>
                  have hlt0 := hch.out.2
                  have HFF : Hid (f' = F) := hpf.out
                  have g3 : decide (0 ≤ by_.getD i 0) = false := decide_eq_false (by omega)
                  generalize by_.getD i 0 = bi at *
                  clear hlt0 hch hpf
                  go_wp2_with fail
                  go_ret
                  exact ⟨by rw [HAS.out]; rfl, by rw [HAS.out]; show Blk _ _ _ _; rw [← HFF.out]; exact hkf.out, hbw.out⟩
                | succ d =>
                  obtain ⟨_, hge, hkl, hch2⟩ := hch.out
                  have hp2 : pathF c by_ d (farEnd c (by_.getD i 0).toNat i) (pushE c (by_.getD i 0).toNat i f') = F := by
                    rw [← hpf.out]
                    show _ = (if 0 ≤ by_.getD i 0 then pathF c by_ d (farEnd c (by_.getD i 0).toNat i) (pushE c (by_.getD i 0).toNat i f') else f')
                    rw [if_pos hge]
                  obtain ⟨kk, hkk⟩ := Int.eq_ofNat_of_zero_le hge
                  rw [hkk, Int.toNat_natCast] at hkl hch2 hp2
                  rw [hkk] at yb
                  obtain ⟨e, he⟩ : ∃ x, c.edges[kk]? = some x := ⟨_, List.getElem?_eq_getElem hkl⟩
                  have hee : edgeAt c kk = e := by unfold edgeAt; simp [he]
                  have N5 := hn.out wr hbw.out
                  have x1 := N5.blk.cell 1 rfl
                  obtain ⟨eg, eoff, ecap, evv, _, _, _, ecc⟩ := N5.edges.addr (by omega)
                  simp only [Value.slice.injEq] at evv
                  obtain ⟨rfl, _, rfl⟩ := evv
                  obtain ⟨_, c1, c2, _⟩ := ce_cells ecc he
                  obtain ⟨nea, neb⟩ := hc.ne e (List.mem_of_getElem? he)
                  have hfe := hf.len
                  have f0 := hkf.out.int (i := kk) (by rw [hfl.out]; omega)
                  have ff := hkf.out.free kk
                  have hbd := hfb2.out kk
                  have hfar : farEnd c kk i = if e.b = i then e.a else e.b := by unfold farEnd; rw [hee]
                  have hpu : pushE c kk i f' = f'.set kk (if e.b = i then f'.getD kk 0 + 1 else f'.getD kk 0 - 1) := by unfold pushE; rw [hee]
                  rw [hfar] at hch2 hp2
                  rw [hpu] at hp2
                  rw [HN.out] at nea neb
                  have m1 : c.edges.length ≤ 1000 := hc.m
                  have q1 : decide ((kk : Int) < 0) = false := decide_eq_false (by omega)
                  have q2 : decide ((c.edges.length : Int) ≤ (kk : Int)) = false := decide_eq_false (by omega)
                  have q3 : decide (c.edges.length ≤ kk) = false := decide_eq_false (by omega)
                  have q4 : decide ((f.length : Int) ≤ (kk : Int)) = false := decide_eq_false (by omega)
                  have q5 : decide (f.length ≤ kk) = false := decide_eq_false (by omega)
                  have g3 : decide (0 ≤ (kk : Int)) = true := decide_eq_true (by omega)
                  have hnew : ∀ v : Int, -1000 - ((1000 : Int) - d) ≤ v → v ≤ 1000 + ((1000 : Int) - d) → ∀ j, -1000 - ((1000 : Int) - d) ≤ (f'.set kk v).getD j 0 ∧ (f'.set kk v).getD j 0 ≤ 1000 + ((1000 : Int) - d) := fun v h1 h2 j => by
                    by_cases hjk : j = kk
                    · subst hjk; rw [getD_set_eq' (by rw [hfl.out]; omega)]; exact ⟨h1, h2⟩
                    · rw [getD_set_ne' hjk]; have := hfb2.out j; omega
                  have KF : ∀ v : Int, Blk (wr.setCell ⟨fb, kk, none⟩ (.int .i64 v)) fb (ints (f'.set kk v)).toArray 3 := fun v => by
                    have := hkf.out.set kk (.int .i64 v)
                    rw [ints_set] at this; exact this
                  have KB : ∀ v : Int, Blk (wr.setCell ⟨fb, kk, none⟩ (.int .i64 v)) bb (ints by_).toArray 3 := fun v => hkb.out.setOther _ (by show bb ≠ fb; omega) _
                  have BW := fun v : Int => bset hbw.out (Nat.le_refl fb) kk (.int .i64 v)
                  have HLN : ∀ v : Int, (f'.set kk v).length = f.length := fun v => by rw [List.length_set]; exact hfl.out
                  have HE6 : Hid (∀ v : Int, (wr.setCell ⟨fb, kk, none⟩ (.int .i64 v)).cell? ⟨X, 1, none⟩ = some (.slice (some ⟨eg, eoff, none⟩) c.edges.length ec) ∧ (wr.setCell ⟨fb, kk, none⟩ (.int .i64 v)).cell? ⟨eg, eoff + kk * 4 + 1, none⟩ = some (.int .i64 e.a) ∧ (wr.setCell ⟨fb, kk, none⟩ (.int .i64 v)).cell? ⟨eg, eoff + kk * 4 + 2, none⟩ = some (.int .i64 e.b)) := fun v => by
                    have N6 := hn.out _ (BW v)
                    obtain ⟨eg', eoff', ecap', evv', _, _, _, ecc'⟩ := N6.edges.addr (by omega)
                    simp only [Value.slice.injEq] at evv'
                    obtain ⟨e1, _, _⟩ := evv'
                    cases e1
                    obtain ⟨_, z1, z2, _⟩ := ce_cells ecc' he
                    exact ⟨N6.blk.cell 1 rfl, z1, z2⟩
                  generalize f'.getD kk 0 = fk at *
                  clear hch hpf hfar hpu hee he ecc N5 hge hkk hkf hkb
                  by_cases hei : e.b = i
                  ·
                    rw [if_pos hei] at hch2
                    rw [if_pos hei, if_pos hei] at hp2
                    have g5 : ((e.b : Int) == (i : Int)) = true := by simp [hei]
                    have hw := IntWalk.i64_in (fk + 1) (by push_cast at hbd; omega)
                    have HNW := Lib.hid (hnew (fk + 1) (by push_cast at hbd ⊢; omega) (by push_cast at hbd ⊢; omega))
                    have HC2 := Lib.hid hch2
                    have HP2 := Lib.hid hp2
                    obtain ⟨z0, z1, z2⟩ := HE6.out (fk + 1)
                    clear hei hnew hch2 hp2 hbd
                    go_wp2_with fail
                    go_roundg d
                    case rel => exact ⟨d, e.a, f'.set kk (fk + 1), rfl, rfl, nea, by omega, HC2, HP2, Lib.hid (HLN _), HNW, Lib.hid (KF _), Lib.hid (KB _), Lib.hid (BW _)⟩
                    case measure => omega
                  ·
                    rw [if_neg hei] at hch2
                    rw [if_neg hei, if_neg hei] at hp2
                    have g5 : ((e.b : Int) == (i : Int)) = false := by rw [beq_eq_false_iff_ne]; omega
                    have hw := IntWalk.i64_in (fk - 1) (by push_cast at hbd; omega)
                    have HNW := Lib.hid (hnew (fk - 1) (by push_cast at hbd ⊢; omega) (by push_cast at hbd ⊢; omega))
                    have HC2 := Lib.hid hch2
                    have HP2 := Lib.hid hp2
                    obtain ⟨z0, z1, z2⟩ := HE6.out (fk - 1)
                    clear hei hnew hch2 hp2 hbd
                    go_wp2_with fail
                    go_roundg d
                    case rel => exact ⟨d, e.b, f'.set kk (fk - 1), rfl, rfl, neb, by omega, HC2, HP2, Lib.hid (HLN _), HNW, Lib.hid (KF _), Lib.hid (KB _), Lib.hid (BW _)⟩
                    case measure => omega
end Go.Proofs.Ytplebibabcdipaa
