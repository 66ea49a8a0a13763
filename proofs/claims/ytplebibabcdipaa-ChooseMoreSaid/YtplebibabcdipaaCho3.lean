/- choose.build: the walk. -/
import Derived.Test.YtplebibabcdipaaCho2
namespace Go.Proofs.Ytplebibabcdipaa
open Go.RowKit

/-- A load that go_region_held3 shall not try to take first. -/
abbrev hideLoad (t : TypeId) (o : Operand) : Op := Op.load t o
theorem ce_one (x : CEdge) : ∀ u ∈ [Value.string x.name, .int .i64 x.a, .int .i64 x.b, .bool x.brk], u.oneCell' = true := by
  intro u hu
  simp only [List.mem_cons, List.not_mem_nil, or_false] at hu
  rcases hu with rfl | rfl | rfl | rfl <;> rfl
theorem infoBoolL : (Try.prog.info? 4).map (fun i => (i.zero, i.size, i.bytes)) = some (some (.bool false), 1, 1) := by kernel_rfl
theorem made_bools (n : Nat) : madeCells #[.bool false] n = (bools (List.replicate n false)).toArray := by
  apply Array.ext
  · simp [madeCells, bools]
  · intro i h1 h2
    simp [madeCells, bools, Nat.mod_one]
theorem make_bools (n : Nat) (hn : n ≤ 281474976710656) (W : World) : (Instr.makeSlice 120 (.int .i64 (n : Int)) (.int .i64 (n : Int))).run Try.prog W = .ok (.slice (some ⟨W.heap.size, 0, none⟩) n n) (W.alloc (.cells (bools (List.replicate n false)).toArray 4)) := by
  rw [← made_bools]
  exact run_make_row' 120 4 (.bool false) 1 Try.underlying120 infoBoolL rfl .i64 .i64 n (by omega) (by omega) W

set_option maxHeartbeats 8000000 in
set_option maxRecDepth 100000 in
theorem build_c (x0 : NAddr) (n : Net) (br : ByteArray) (pt : Int) (w : World) (hr : NetR w x0 n) (hk : n.Ok2) :
    Calls Try.prog 60 #[x0.val n, .agg #[.string br, .int .i64 pt]] w fun e w' => ∃ X ea ec sa sc, e = .returned (.pointer (some ⟨X, 0, none⟩)) ∧ NetC w' X (buildC n ⟨br, pt⟩) ea ec sa sc ∧ Below w.heap.size w w' := by
  obtain ⟨na, nc, sa, sc, ba, bc, ga, gc, la, lc, ta, tc⟩ := x0
  obtain ⟨nl, sws, brs, gens, loads, stores⟩ := n
  obtain ⟨r0, r1, r2, r3, _, r5⟩ := hr
  obtain ⟨⟨hnn, hns, hnb, hsw, hbr⟩, hgn, hst, hng⟩ := hk
  simp only at r0 r1 r2 r3 r5 hnn hns hnb hsw hbr hgn hst hng
  obtain ⟨SE, hSE⟩ : ∃ E, swC nl sws = E := ⟨_, rfl⟩
  have HBE : Hid (buildC ⟨nl, sws, brs, gens, loads, stores⟩ ⟨br, pt⟩ = ⟨nl.length + 1, SE ++ brC nl ⟨br, pt⟩ brs, srcC nl NStore.node stores (srcC nl NGen.node gens (List.replicate (nl.length + 1) false)), atC nl ⟨br, pt⟩ brs 0⟩) := by show _ = _; rw [← hSE]; rfl
  have HSE : Hid ([] ++ swC nl (sws.drop 0) = SE) := hSE
  have hSL : SE.length ≤ 32 := by rw [← hSE]; have := swC_len nl sws; omega
  generalize buildC ⟨nl, sws, brs, gens, loads, stores⟩ ⟨br, pt⟩ = ER at *
  clear hSE
  show Calls _ _ #[netV na nl.length nc sa sws.length sc ba brs.length bc ga gens.length gc la loads.length lc ta stores.length tc, _] _ _
  obtain ⟨nn, hN⟩ : ∃ n, nl.length = n := ⟨_, rfl⟩
  obtain ⟨sn, hS⟩ : ∃ n, sws.length = n := ⟨_, rfl⟩
  obtain ⟨bn, hB⟩ : ∃ n, brs.length = n := ⟨_, rfl⟩
  obtain ⟨gn, hG⟩ : ∃ n, gens.length = n := ⟨_, rfl⟩
  obtain ⟨tn, hT⟩ : ∃ n, stores.length = n := ⟨_, rfl⟩
  generalize loads.length = ln at *
  have htn : tn ≤ 9223372036854775807 := by
    rw [hT] at r5
    rcases r5 with ⟨h, _⟩ | ⟨_, _, _, _, _, h, _⟩
    · omega
    · exact h
  rw [hN] at r0 hnn HBE
  rw [hS] at r1 hns
  rw [hB] at r2 hnb
  rw [hG] at r3 hng
  rw [hT] at r5
  rw [hN, hS, hB, hG, hT]
  have HN := Lib.hid hN
  have HS := Lib.hid hS
  have HB := Lib.hid hB
  have HG := Lib.hid hG
  have HT := Lib.hid hT
  have R1 := Lib.hid r1
  have R2 := Lib.hid r2
  have R3 := Lib.hid r3
  have R5 := Lib.hid r5
  have HIX : Hid (∀ s, hasS s nl = true → ixN nl s < nn ∧ idxS s nl 0 = (ixN nl s : Int)) := fun s h => by rw [← hN]; exact ixN_lt h
  have HSW := Lib.hid hsw
  have HBR := Lib.hid hbr
  have HGN := Lib.hid hgn
  have HST := Lib.hid hst
  obtain ⟨b0, hb0⟩ : ∃ x, w.heap.size = x := ⟨_, rfl⟩
  have HB0 := Lib.hid hb0
  have HAT : Hid (∀ s W, Below w.heap.size w W → Blk W b0 #[.slice na nn nc, .slice sa sn sc, .slice ba bn bc, .slice ga gn gc, .slice la ln lc, .slice ta tn tc] 29 → Calls Try.prog 103 #[.string s, .pointer (some ⟨b0, 0, none⟩)] W fun e w' => e = .returned (.int .i64 (idxS s nl 0)) ∧ w' = W) := fun s W hW hK =>
    cat_c na nn nc nl s b0 W hN (r0.below hW) (hK.cell 0 rfl)
  obtain ⟨i0, hi0, hz0, hz1, hz2⟩ := info_parts infoCE
  clear r0 r1 r2 r3 r5 hsw hbr hgn hst hb0 hN hS hB hG hT
  go_enter Try.func60, Try.ntmps60
  have hw : IntKind.i64.wrap ((nn : Int) + 1) = (nn : Int) + 1 := IntWalk.i64_in _ (by omega)
  have hmk : ∀ W : World, (Instr.makeSlice 120 (.int .i64 ((nn : Int) + 1)) (.int .i64 ((nn : Int) + 1))).run Try.prog W = .ok (.slice (some ⟨W.heap.size, 0, none⟩) (nn + 1) (nn + 1)) (W.alloc (.cells (bools (List.replicate (nn + 1) false)).toArray 4)) := fun W => by
    have := make_bools (nn + 1) (by omega) W
    rw [show (((nn + 1 : Nat)) : Int) = (nn : Int) + 1 by omega] at this
    exact this
  go_upto_region 2 with fail
  have A2 := belowA (belowA (Below.refl w.heap.size w) (.cells #[.slice na nn nc, .slice sa sn sc, .slice ba bn bc, .slice ga gn gc, .slice la ln lc, .slice ta tn tc] 29)) (.cells #[.string br, .int .i64 pt] 31)
  have KN2 := (Blk.new w #[.slice na nn nc, .slice sa sn sc, .slice ba bn bc, .slice ga gn gc, .slice la ln lc, .slice ta tn tc] 29).alloc (.cells #[.string br, .int .i64 pt] 31)
  have KP2 := Blk.new2 w (.cells #[.slice na nn nc, .slice sa sn sc, .slice ba bn bc, .slice ga gn gc, .slice la ln lc, .slice ta tn tc] 29) #[.string br, .int .i64 pt] 31
  have hs2 : ((w.alloc (.cells #[.slice na nn nc, .slice sa sn sc, .slice ba bn bc, .slice ga gn gc, .slice la ln lc, .slice ta tn tc] 29)).alloc (.cells #[.string br, .int .i64 pt] 31)).heap.size = b0 + 2 := by simp only [World.size_alloc]; rw [HB0.out]
  rw [HB0.out] at KN2 KP2 ⊢
  generalize (w.alloc (.cells #[.slice na nn nc, .slice sa sn sc, .slice ba bn bc, .slice ga gn gc, .slice la ln lc, .slice ta tn tc] 29)).alloc (.cells #[.string br, .int .i64 pt] 31) = W2 at *
  have HE2 : Hid (BEnv w #[.slice na nn nc, .slice sa sn sc, .slice ba bn bc, .slice ga gn gc, .slice la ln lc, .slice ta tn tc] br pt b0 (b0 + 4) nn nn [] (List.replicate (nn + 1) false) 0 none 0 ((W2.drew.alloc (.cells (bools (List.replicate (nn + 1) false)).toArray 4)).alloc (.cells #[.int .i64 nn, .slice none 0 0, .slice (some ⟨b0 + 2, 0, none⟩) (nn + 1) (nn + 1), .int .i64 0] 124))) := by
    refine ⟨belowA (belowA (below_drewN A2 1) _) _, ⟨Nat.le_of_eq HB0.out, Nat.le_refl _, ?_⟩, ?_, ?_, ?_, ?_, World.ownsRow_nil _ _ _ _⟩
    · have h1 := World.size_alloc W2.drew (.cells (bools (List.replicate (nn + 1) false)).toArray 4)
      have h2 := World.size_alloc (W2.drew.alloc (.cells (bools (List.replicate (nn + 1) false)).toArray 4)) (.cells #[.int .i64 nn, .slice none 0 0, .slice (some ⟨b0 + 2, 0, none⟩) (nn + 1) (nn + 1), .int .i64 0] 124)
      have h3 : W2.drew.heap.size = W2.heap.size := rfl
      omega
    · exact (KN2.drew.alloc _).alloc _
    · exact (KP2.drew.alloc _).alloc _
    · have := (Blk.new W2.drew (bools (List.replicate (nn + 1) false)).toArray 4).alloc (.cells #[.int .i64 nn, .slice none 0 0, .slice (some ⟨b0 + 2, 0, none⟩) (nn + 1) (nn + 1), .int .i64 0] 124)
      rw [show W2.drew.heap.size = b0 + 2 from hs2] at this
      exact this
    · have := Blk.new (W2.drew.alloc (.cells (bools (List.replicate (nn + 1) false)).toArray 4)) #[.int .i64 nn, .slice none 0 0, .slice (some ⟨b0 + 2, 0, none⟩) (nn + 1) (nn + 1), .int .i64 0] 124
      rw [World.size_alloc, show W2.drew.heap.size = b0 + 2 from hs2] at this
      exact this
  have z0 := KN2.cell 0 rfl
  have z1 := (KN2.alloc (.cells (bools (List.replicate (nn + 1) false)).toArray 4)).cell 0 rfl
  have HS2 := Lib.hid hs2
  clear A2 KN2 KP2 hs2
  go_cut [6] from 16 to 25 (fun s wx => s = .pointer (some ⟨b0 + 3, 0, none⟩) ∧ Hid (BEnv w #[.slice na nn nc, .slice sa sn sc, .slice ba bn bc, .slice ga gn gc, .slice la ln lc, .slice ta tn tc] br pt b0 (b0 + 4) nn nn [] (List.replicate (nn + 1) false) 0 none 0 wx))
  case first =>
    go_region
    go_simp
    go_wp2_with fail
    go_meet
    rw [HS2.out]
    exact ⟨rfl, HE2⟩
  case rest =>
    obtain ⟨rfl, henv⟩ := hcut
    clear HE2 z0 z1 HS2 hmk hw
    obtain ⟨nv, hnv⟩ : ∃ a, #[Value.slice na nn nc, .slice sa sn sc, .slice ba bn bc, .slice ga gn gc, .slice la ln lc, .slice ta tn tc] = a := ⟨_, rfl⟩
    have n1 : Hid (nv[1]? = some (.slice sa sn sc)) := by show _ = _; rw [← hnv]; rfl
    have n2 : Hid (nv[2]? = some (.slice ba bn bc)) := by show _ = _; rw [← hnv]; rfl
    have n3 : Hid (nv[3]? = some (.slice ga gn gc)) := by show _ = _; rw [← hnv]; rfl
    have n5 : Hid (nv[5]? = some (.slice ta tn tc)) := by show _ = _; rw [← hnv]; rfl
    rw [hnv] at henv HAT
    clear hnv
    have x1 := henv.out.kn.cell 1 n1.out
    have HSE0 : Hid (([] : List CEdge) ++ swC nl (sws.drop 0) = SE) := HSE
    have henv0 : Hid (BEnv w nv br pt b0 (b0 + 4) nn nn [] (List.replicate (nn + 1) false) 0 none 0 wc) := henv
    go_wp2_with fail
    go_loopw [29] (fun i wr => ∃ (k : Nat) (es : List CEdge) (lva : Option Addr) (lvc : Nat), k ≤ sn ∧ i = .int .i64 k ∧ Hid (es ++ swC nl (sws.drop k) = SE) ∧ es.length ≤ k ∧ Hid (BEnv w nv br pt b0 (b0 + 4) nn nn es (List.replicate (nn + 1) false) 0 lva lvc wr)) (fun i _ => sn - (intOf i).toNat)
    case atStart => exact ⟨0, [], none, 0, Nat.zero_le _, rfl, HSE0, by simp, henv0⟩
    case round =>
      clear x1 henv henv0 HSE HSE0
      obtain ⟨k, es, lva, lvc, hk, rfl, he, hel, henv⟩ := hrel
      by_cases hlt : k < sn
      ·
        obtain ⟨x, hx⟩ : ∃ x, sws[k]? = some x := ⟨_, List.getElem?_eq_getElem (by rw [HS.out]; exact hlt)⟩
        obtain ⟨g, off, cap', hvv, _, _, _, hc⟩ := (R1.out.below henv.out.below).addr (by omega)
        simp only [Value.slice.injEq] at hvv
        obtain ⟨rfl, _, rfl⟩ := hvv
        obtain ⟨c0, c1, c2, c3, c4⟩ := sw_cells hc hx
        have hd := swC_drop (nl := nl) hx
        obtain ⟨hA, hB⟩ := HSW.out x (List.mem_of_getElem? hx)
        have IA := HIX.out _ hA
        have IB := HIX.out _ hB
        obtain ⟨nm, fr, tt, bk, op⟩ := x
        simp only at c0 c1 c2 c3 c4 hd IA IB
        have HD := Lib.hid hd
        have E2 := Lib.hid (henv.out.alloc (.cells #[.string nm, .string fr, .string tt, .bool bk, .bool op] 82))
        have K2 := Lib.hid (Blk.new wr #[.string nm, .string fr, .string tt, .bool bk, .bool op] 82)
        clear hd hx hc hA hB
        cases op
        ·
          have HA1 := Lib.hid (HAT.out fr _ E2.out.drew.below E2.out.drew.kn)
          have HA2 := Lib.hid (HAT.out tt _ E2.out.drew.below E2.out.drew.kn)
          rw [IA.2] at HA1
          rw [IB.2] at HA2
          have HDA := Lib.hid (HD.out.trans (if_neg (by decide)))
          obtain ⟨vb, hvb⟩ : ∃ b, wr.heap.size = b := ⟨_, rfl⟩
          have HVB := Lib.hid hvb
          have HRL : Hid (∀ j, (Value.slice lva es.length lvc).ownBlock = some j → j < vb) := fun j hj => by rw [← hvb]; exact row_lt henv.out.own j hj
          have HVL : Hid (b0 + 4 ≤ vb) := by show _ ≤ _; rw [← hvb]; exact henv.out.le.2.2
          rw [hvb] at K2
          clear hvb HD
          go_upto_region 7 with fail
          rw [HVB.out]
          generalize wr.alloc (.cells #[.string nm, .string fr, .string tt, .bool bk, .bool false] 82) = W2 at *
          generalize ixN nl fr = ia at *
          generalize ixN nl tt = ib at *
          clear c0 c1 c2 c3 c4
          have E3 := Lib.hid (E2.out.drew.alloc (.cells #[.string nm, .int .i64 ia, .int .i64 ib, .bool bk] 126))
          have K3 := Lib.hid (K2.out.drew.alloc (.cells #[.string nm, .int .i64 ia, .int .i64 ib, .bool bk] 126))
          have N1 : Hid (∀ j u, [Value.string nm, .int .i64 ia, .int .i64 ib, .bool bk][j]? = some u → (W2.drew.alloc (.cells #[.string nm, .int .i64 ia, .int .i64 ib, .bool bk] 126)).cell? ((⟨W2.heap.size, 0, none⟩ : Addr).add j) = some u) := (Blk.new W2.drew #[.string nm, .int .i64 ia, .int .i64 ib, .bool bk] 126).row
          have HL1 : Hid (es.length + 1 ≤ maxLen) := by show _ ≤ _; unfold maxLen; omega
          have HL2 : Hid ((es.length + 1) * 40 ≤ 140737488355328) := by show _ ≤ _; omega
          have S2 : Hid (W2.drew.cell? ⟨vb, 0, none⟩ = some (.string nm) ∧ W2.drew.cell? ⟨vb, 1, none⟩ = some (.string fr) ∧ W2.drew.cell? ⟨vb, 2, none⟩ = some (.string tt) ∧ W2.drew.cell? ⟨vb, 3, none⟩ = some (.bool bk)) :=
            ⟨K2.out.drew.cell 0 rfl, K2.out.drew.cell 1 rfl, K2.out.drew.cell 2 rfl, K2.out.drew.cell 3 rfl⟩
          have y2 := E2.out.drew.kx.cell 1 rfl
          have y2' := E2.out.kx.cell 1 rfl
          have y3 := E3.out.kx.cell 1 rfl
          have y3' : (W2.alloc (.cells #[.string nm, .int .i64 ia, .int .i64 ib, .bool bk] 126)).cell? ⟨b0 + 3, 1, none⟩ = some (.slice lva es.length lvc) := y3
          have S3 : Hid ((W2.drew.alloc (.cells #[.string nm, .int .i64 ia, .int .i64 ib, .bool bk] 126)).cell? ⟨vb, 0, none⟩ = some (.string nm) ∧ (W2.drew.alloc (.cells #[.string nm, .int .i64 ia, .int .i64 ib, .bool bk] 126)).cell? ⟨vb, 1, none⟩ = some (.string fr) ∧ (W2.drew.alloc (.cells #[.string nm, .int .i64 ia, .int .i64 ib, .bool bk] 126)).cell? ⟨vb, 2, none⟩ = some (.string tt) ∧ (W2.drew.alloc (.cells #[.string nm, .int .i64 ia, .int .i64 ib, .bool bk] 126)).cell? ⟨vb, 3, none⟩ = some (.bool bk)) :=
            ⟨K3.out.cell 0 rfl, K3.out.cell 1 rfl, K3.out.cell 2 rfl, K3.out.cell 3 rfl⟩
          have SU : Hid (∀ u : World, (W2.drew.alloc (.cells #[.string nm, .int .i64 ia, .int .i64 ib, .bool bk] 126)).grownBy u (Value.slice lva es.length lvc).ownBlock → (u.cell? ⟨vb, 0, none⟩ = some (.string nm) ∧ u.cell? ⟨vb, 1, none⟩ = some (.string fr) ∧ u.cell? ⟨vb, 2, none⟩ = some (.string tt) ∧ u.cell? ⟨vb, 3, none⟩ = some (.bool bk)) ∧ u.cell? ⟨b0 + 3, 1, none⟩ = some (.slice lva es.length lvc) ∧ u.frozen? ⟨b0 + 3, 1, none⟩ = false ∧ ∀ v, ((u.setCell ⟨b0 + 3, 1, none⟩ v).cell? ⟨vb, 0, none⟩ = some (.string nm) ∧ (u.setCell ⟨b0 + 3, 1, none⟩ v).cell? ⟨vb, 1, none⟩ = some (.string fr) ∧ (u.setCell ⟨b0 + 3, 1, none⟩ v).cell? ⟨vb, 2, none⟩ = some (.string tt) ∧ (u.setCell ⟨b0 + 3, 1, none⟩ v).cell? ⟨vb, 3, none⟩ = some (.bool bk))) := fun u hg => by
            have kx := E3.out.kx.gro hg (fun e => by have := E3.out.lt _ e; have := E3.out.le.2.1; omega)
            have kv := K3.out.gro hg (fun e => by have := HRL.out _ e; omega)
            have kz := fun v => kv.setOther ⟨b0 + 3, 1, none⟩ (by show vb ≠ b0 + 3; have := E2.out.le.2.1; have := HVL.out; omega) v
            exact ⟨⟨kv.cell 0 rfl, kv.cell 1 rfl, kv.cell 2 rfl, kv.cell 3 rfl⟩, kx.cell 1 rfl, kx.free 1, fun v => ⟨(kz v).cell 0 rfl, (kz v).cell 1 rfl, (kz v).cell 2 rfl, (kz v).cell 3 rfl⟩⟩
          have HPUT : Hid (∀ (u : World) (g1 cap1 : Nat), u.ownsRow (b0 + 4) 126 4 (.slice (some ⟨g1, 0, none⟩) (es.length + 1) cap1) (es.length + 1) (flat CEdge.cells es ++ [.string nm, .int .i64 ia, .int .i64 ib, .bool bk]) → (W2.drew.alloc (.cells #[.string nm, .int .i64 ia, .int .i64 ib, .bool bk] 126)).grownBy u (Value.slice lva es.length lvc).ownBlock →
              BEnv w nv br pt b0 (b0 + 4) nn nn (es ++ [⟨nm, ia, ib, bk⟩]) (List.replicate (nn + 1) false) 0 (some ⟨g1, 0, none⟩) cap1 (u.setCell ⟨b0 + 3, 1, none⟩ (.slice (some ⟨g1, 0, none⟩) (es.length + 1) cap1))) := fun u g1 cap1 h1 h2 => by
            have := E3.out.put (xs := [⟨nm, ia, ib, bk⟩]) h2 h1
            simpa using this
          rw [show Op.load 122 (.tmp 39) = hideLoad 122 (.tmp 39) from rfl]
          go_region_held3 (fun W => W.cell? ⟨vb, 0, none⟩ = some (.string nm) ∧ W.cell? ⟨vb, 1, none⟩ = some (.string fr) ∧ W.cell? ⟨vb, 2, none⟩ = some (.string tt) ∧ W.cell? ⟨vb, 3, none⟩ = some (.bool bk))
            (first
              | with_reducible exact S2.out
              | exact S3.out
              | with_reducible exact SV.out
              | with_reducible exact SX.out _)
            (first
              | (refine step_append_lies _ rfl (.tmp 40) (.tmp 54) 122 rfl (b0 + 4) 126 i0 (.agg #[.string ByteArray.empty, .int .i64 0, .int .i64 0, .bool false]) 4 40 Try.underlying122 hi0 hz0 hz1 hz2 rfl (by decide) (.slice lva es.length lvc) es.length (flat CEdge.cells es) rfl E3.out.own ⟨W2.heap.size, 0, none⟩ 1 1 [.string nm, .int .i64 ia, .int .i64 ib, .bool bk] rfl rfl N1.out (ce_one ⟨nm, ia, ib, bk⟩) (by decide) HL1.out HL2.out E3.out.le.2.2 _ rfl ?_; intro g1 cap1 u1 hown1 hgrow1 hat1 hlt1; have HOW := Lib.hid hown1; have HGR := Lib.hid hgrow1; obtain ⟨sv, su1, su2, sx⟩ := SU.out u1 hgrow1; have SV := Lib.hid sv; have SX := Lib.hid sx; clear sv sx; clear hown1 hgrow1 hat1 hlt1)
              | (go_simp; go_at_call 103; refine HA1.out.mono ?_; rintro e w' ⟨rfl, rfl⟩)
              | (go_simp; go_at_call 103; refine HA2.out.mono ?_; rintro e w' ⟨rfl, rfl⟩))
          all_goals
            go_simp
            go_wp2_with fail
            go_roundw
            case rel => exact ⟨k + 1, es ++ [⟨nm, ia, ib, bk⟩], _, _, hlt, by go_num, by show _ = _; rw [← he.out, HDA.out]; simp, by rw [List.length_append]; simp; omega, Lib.hid (HPUT.out _ _ _ HOW.out HGR.out)⟩
            case measure => simp [intOf]; omega
        ·
          have HDA := Lib.hid (HD.out.trans (if_pos rfl))
          go_wp2_with fail
          go_roundw
          case rel => exact ⟨k + 1, es, lva, lvc, hlt, by go_num, by show _ = _; rw [← he.out, HDA.out], by omega, E2⟩
          case measure => simp [intOf]; omega
      ·
        have hkn : sws.drop k = [] := List.drop_eq_nil_of_le (by rw [HS.out]; omega)
        have hes : es = SE := by rw [← he.out, hkn]; simp [swC]
        have he32 : es.length ≤ 32 := by rw [hes]; exact hSL
        have HBE2 : Hid (ER = ⟨nn + 1, es ++ brC nl ⟨br, pt⟩ (brs.drop 0), srcC nl NStore.node stores (srcC nl NGen.node gens (List.replicate (nn + 1) false)), atC nl ⟨br, pt⟩ (brs.drop 0) 0⟩) := by show _ = _; rw [hes, HBE.out]; rfl
        have x2 := henv.out.kn.cell 2 n2.out
        have henv0 := henv
        clear hkn hes he HBE hel
        go_wp2_with fail
        go_loopw [62] (fun i wr => ∃ (k : Nat) (es : List CEdge) (cur : Nat) (lva : Option Addr) (lvc : Nat), k ≤ bn ∧ i = .int .i64 k ∧ Hid (ER = ⟨nn + 1, es ++ brC nl ⟨br, pt⟩ (brs.drop k), srcC nl NStore.node stores (srcC nl NGen.node gens (List.replicate (nn + 1) false)), atC nl ⟨br, pt⟩ (brs.drop k) cur⟩) ∧ es.length ≤ 32 + 2 * k ∧ Hid (BEnv w nv br pt b0 (b0 + 4) nn nn es (List.replicate (nn + 1) false) cur lva lvc wr)) (fun i _ => bn - (intOf i).toNat)
        case atStart => exact ⟨0, es, 0, lva, lvc, Nat.zero_le _, rfl, HBE2, by omega, henv0⟩
        case round =>
          clear x2 henv henv0 HBE2 he32 hlt hk
          obtain ⟨k, es, cur, lva, lvc, hk, rfl, he, hel, henv⟩ := hrel
          by_cases hlt : k < bn
          ·
            obtain ⟨x, hx⟩ : ∃ x, brs[k]? = some x := ⟨_, List.getElem?_eq_getElem (by rw [HB.out]; exact hlt)⟩
            obtain ⟨g, off, cap', hvv, _, _, _, hc⟩ := (R2.out.below henv.out.below).addr (by omega)
            simp only [Value.slice.injEq] at hvv
            obtain ⟨rfl, _, rfl⟩ := hvv
            obtain ⟨c0, c1, c2, c3, c4, c5, c6, c7, c8⟩ := br_cells hc hx
            have hd := brC_drop (nl := nl) (p := ⟨br, pt⟩) hx
            have hat := atC_drop (nl := nl) (p := ⟨br, pt⟩) hx cur
            rw [hd, hat] at he
            obtain ⟨hA, hB, _⟩ := HBR.out x (List.mem_of_getElem? hx)
            have IA := HIX.out _ hA
            have IB := HIX.out _ hB
            obtain ⟨nm, fr, tt, xx, tap, sh, lim, shrt, hold⟩ := x
            simp only at c0 c1 c2 c3 c4 c5 c6 c7 c8 IA IB
            have E2 := Lib.hid (henv.out.alloc (.cells #[.string nm, .string fr, .string tt, .int .i64 xx, .int .i64 tap, .int .i64 sh, .int .i64 lim, .int .i64 shrt, .int .i64 hold] 36))
            have K2 := Lib.hid (Blk.new wr #[.string nm, .string fr, .string tt, .int .i64 xx, .int .i64 tap, .int .i64 sh, .int .i64 lim, .int .i64 shrt, .int .i64 hold] 36)
            clear hx hc hA hB hd hat
            obtain ⟨vb, hvb⟩ : ∃ b, wr.heap.size = b := ⟨_, rfl⟩
            have HVB := Lib.hid hvb
            have HRL : Hid (∀ j, (Value.slice lva es.length lvc).ownBlock = some j → j < vb) := fun j hj => by rw [← hvb]; exact row_lt henv.out.own j hj
            have HVL : Hid (b0 + 4 ≤ vb) := by show _ ≤ _; rw [← hvb]; exact henv.out.le.2.2
            rw [hvb] at K2
            have hb1 : Hid (brC1 nl ⟨br, pt⟩ ⟨nm, fr, tt, xx, tap, sh, lim, shrt, hold⟩ = if whole ⟨br, pt⟩ ⟨nm, fr, tt, xx, tap, sh, lim, shrt, hold⟩ = true then [⟨nm, ixN nl fr, ixN nl tt, false⟩] else [⟨nm, ixN nl fr, nl.length, false⟩, ⟨nm, nl.length, ixN nl tt, false⟩]) := rfl
            have hat1 : Hid (atC1 nl ⟨br, pt⟩ ⟨nm, fr, tt, xx, tap, sh, lim, shrt, hold⟩ cur = if sameB nm br = true then (if pt = 0 then ixN nl fr else if pt = 1000 then ixN nl tt else nl.length) else cur) := rfl
            have HWH : Hid (whole ⟨br, pt⟩ ⟨nm, fr, tt, xx, tap, sh, lim, shrt, hold⟩ = (!(nm.toList == br.toList) || (pt == 0 || pt == 1000))) := rfl
            obtain ⟨WH, hwh⟩ : ∃ b, whole ⟨br, pt⟩ ⟨nm, fr, tt, xx, tap, sh, lim, shrt, hold⟩ = b := ⟨_, rfl⟩
            rw [hwh] at hb1 HWH
            rw [HN.out] at hb1 hat1
            have IA2 := Lib.hid IA.2
            have IB2 := Lib.hid IB.2
            clear hvb hwh
            generalize ixN nl fr = ia at *
            generalize ixN nl tt = ib at *
            have IA1 := IA.1
            have IB1 := IB.1
            clear IA IB
            go_upto_block 4 with fail
            rw [HVB.out]
            generalize wr.alloc (.cells #[.string nm, .string fr, .string tt, .int .i64 xx, .int .i64 tap, .int .i64 sh, .int .i64 lim, .int .i64 shrt, .int .i64 hold] 36) = W2 at *
            clear c0 c1 c2 c3 c4 c5 c6 c7 c8 HVB
            have v0 := K2.out.cell 0 rfl
            have p0 := E2.out.kp.cell 0 rfl
            have p1 := E2.out.kp.cell 1 rfl
            have HA1 := Lib.hid (HAT.out fr _ E2.out.drew.below E2.out.drew.kn)
            have HA2 := Lib.hid (HAT.out tt _ E2.out.drew.below E2.out.drew.kn)
            rw [IA2.out] at HA1
            rw [IB2.out] at HA2
            go_cut [97] from 66 to 132 (fun _ wx => ∃ lvb lvd, Hid (BEnv w nv br pt b0 (b0 + 4) nn nn (es ++ brC1 nl ⟨br, pt⟩ ⟨nm, fr, tt, xx, tap, sh, lim, shrt, hold⟩) (List.replicate (nn + 1) false) cur lvb lvd wx) ∧ Hid (wx.cell? ⟨vb, 0, none⟩ = some (.string nm) ∧ wx.cell? ⟨vb, 1, none⟩ = some (.string fr) ∧ wx.cell? ⟨vb, 2, none⟩ = some (.string tt)))
            case first =>
              go_upto_region 13 with fail
              go_cut [97] from 98 to 112 (fun s wx => s = .bool WH ∧ W2 = wx)
              case first =>
                cases h1 : (nm.toList == br.toList) <;> cases h2 : (pt == 0) <;> cases h3 : (pt == 1000)
                all_goals
                  have hwx : WH = _ := HWH.out
                  rw [h1, h2, h3] at hwx
                  subst hwx
                  go_wp2_with fail
                  go_meet
                  exact ⟨rfl, rfl⟩
              case rest =>
                obtain ⟨rfl, rfl⟩ := hcut
                cases WH
                ·
                  have HBR1 : Hid (brC1 nl ⟨br, pt⟩ ⟨nm, fr, tt, xx, tap, sh, lim, shrt, hold⟩ = [⟨nm, ia, nn, false⟩, ⟨nm, nn, ib, false⟩]) := hb1
                  clear v0 p0 p1 HWH hat1 hb1
                  go_wp2_with fail
                  have E3 := Lib.hid (E2.out.drew.alloc (.cells #[.string nm, .int .i64 ia, .int .i64 nn, .bool false, .string nm, .int .i64 nn, .int .i64 ib, .bool false] 126))
                  have K3 := Lib.hid (K2.out.drew.alloc (.cells #[.string nm, .int .i64 ia, .int .i64 nn, .bool false, .string nm, .int .i64 nn, .int .i64 ib, .bool false] 126))
                  have N1 : Hid (∀ j u, [Value.string nm, .int .i64 ia, .int .i64 nn, .bool false, .string nm, .int .i64 nn, .int .i64 ib, .bool false][j]? = some u → (W2.drew.alloc (.cells #[.string nm, .int .i64 ia, .int .i64 nn, .bool false, .string nm, .int .i64 nn, .int .i64 ib, .bool false] 126)).cell? ((⟨W2.heap.size, 0, none⟩ : Addr).add j) = some u) := (Blk.new W2.drew #[.string nm, .int .i64 ia, .int .i64 nn, .bool false, .string nm, .int .i64 nn, .int .i64 ib, .bool false] 126).row
                  have HL1 : Hid (es.length + 2 ≤ maxLen) := by show _ ≤ _; unfold maxLen; omega
                  have HL2 : Hid ((es.length + 2) * 40 ≤ 140737488355328) := by show _ ≤ _; omega
                  have S2 : Hid (W2.drew.cell? ⟨vb, 0, none⟩ = some (.string nm) ∧ W2.drew.cell? ⟨vb, 1, none⟩ = some (.string fr) ∧ W2.drew.cell? ⟨vb, 2, none⟩ = some (.string tt) ∧ W2.drew.cell? ⟨b0 + 3, 0, none⟩ = some (.int .i64 nn)) := ⟨K2.out.drew.cell 0 rfl, K2.out.drew.cell 1 rfl, K2.out.drew.cell 2 rfl, E2.out.drew.kx.cell 0 rfl⟩
                  have y2 := E2.out.drew.kx.cell 1 rfl
                  have y2' := E2.out.kx.cell 1 rfl
                  have y3 := E3.out.kx.cell 1 rfl
                  have y3' : (W2.alloc (.cells #[.string nm, .int .i64 ia, .int .i64 nn, .bool false, .string nm, .int .i64 nn, .int .i64 ib, .bool false] 126)).cell? ⟨b0 + 3, 1, none⟩ = some (.slice lva es.length lvc) := y3
                  have S3 : Hid ((W2.drew.alloc (.cells #[.string nm, .int .i64 ia, .int .i64 nn, .bool false, .string nm, .int .i64 nn, .int .i64 ib, .bool false] 126)).cell? ⟨vb, 0, none⟩ = some (.string nm) ∧ (W2.drew.alloc (.cells #[.string nm, .int .i64 ia, .int .i64 nn, .bool false, .string nm, .int .i64 nn, .int .i64 ib, .bool false] 126)).cell? ⟨vb, 1, none⟩ = some (.string fr) ∧ (W2.drew.alloc (.cells #[.string nm, .int .i64 ia, .int .i64 nn, .bool false, .string nm, .int .i64 nn, .int .i64 ib, .bool false] 126)).cell? ⟨vb, 2, none⟩ = some (.string tt) ∧ (W2.drew.alloc (.cells #[.string nm, .int .i64 ia, .int .i64 nn, .bool false, .string nm, .int .i64 nn, .int .i64 ib, .bool false] 126)).cell? ⟨b0 + 3, 0, none⟩ = some (.int .i64 nn)) := ⟨K3.out.cell 0 rfl, K3.out.cell 1 rfl, K3.out.cell 2 rfl, E3.out.kx.cell 0 rfl⟩
                  have SU : Hid (∀ u : World, (W2.drew.alloc (.cells #[.string nm, .int .i64 ia, .int .i64 nn, .bool false, .string nm, .int .i64 nn, .int .i64 ib, .bool false] 126)).grownBy u (Value.slice lva es.length lvc).ownBlock → (u.cell? ⟨vb, 0, none⟩ = some (.string nm) ∧ u.cell? ⟨vb, 1, none⟩ = some (.string fr) ∧ u.cell? ⟨vb, 2, none⟩ = some (.string tt) ∧ u.cell? ⟨b0 + 3, 0, none⟩ = some (.int .i64 nn)) ∧ u.cell? ⟨b0 + 3, 1, none⟩ = some (.slice lva es.length lvc) ∧ u.frozen? ⟨b0 + 3, 1, none⟩ = false ∧ ∀ v, ((u.setCell ⟨b0 + 3, 1, none⟩ v).cell? ⟨vb, 0, none⟩ = some (.string nm) ∧ (u.setCell ⟨b0 + 3, 1, none⟩ v).cell? ⟨vb, 1, none⟩ = some (.string fr) ∧ (u.setCell ⟨b0 + 3, 1, none⟩ v).cell? ⟨vb, 2, none⟩ = some (.string tt) ∧ (u.setCell ⟨b0 + 3, 1, none⟩ v).cell? ⟨b0 + 3, 0, none⟩ = some (.int .i64 nn))) := fun u hg => by
                    have kx := E3.out.kx.gro hg (fun e => by have := E3.out.lt _ e; have := E3.out.le.2.1; omega)
                    have kv := K3.out.gro hg (fun e => by have := HRL.out _ e; omega)
                    have kz := fun v => kv.setOther ⟨b0 + 3, 1, none⟩ (by show vb ≠ b0 + 3; have := HVL.out; omega) v
                    exact ⟨⟨kv.cell 0 rfl, kv.cell 1 rfl, kv.cell 2 rfl, kx.cell 0 rfl⟩, kx.cell 1 rfl, kx.free 1, fun v => ⟨(kz v).cell 0 rfl, (kz v).cell 1 rfl, (kz v).cell 2 rfl, (kx.set 1 v).cell 0 rfl⟩⟩
                  have HPUT : Hid (∀ (u : World) (g1 cap1 : Nat), u.ownsRow (b0 + 4) 126 4 (.slice (some ⟨g1, 0, none⟩) (es.length + 2) cap1) (es.length + 2) (flat CEdge.cells es ++ [.string nm, .int .i64 ia, .int .i64 nn, .bool false, .string nm, .int .i64 nn, .int .i64 ib, .bool false]) → (W2.drew.alloc (.cells #[.string nm, .int .i64 ia, .int .i64 nn, .bool false, .string nm, .int .i64 nn, .int .i64 ib, .bool false] 126)).grownBy u (Value.slice lva es.length lvc).ownBlock →
                      BEnv w nv br pt b0 (b0 + 4) nn nn (es ++ [⟨nm, ia, nn, false⟩, ⟨nm, nn, ib, false⟩]) (List.replicate (nn + 1) false) cur (some ⟨g1, 0, none⟩) cap1 (u.setCell ⟨b0 + 3, 1, none⟩ (.slice (some ⟨g1, 0, none⟩) (es.length + 2) cap1))) := fun u g1 cap1 h1 h2 => by
                    have := E3.out.put (xs := [⟨nm, ia, nn, false⟩, ⟨nm, nn, ib, false⟩]) h2 h1
                    simpa using this
                  have HW : Hid (brC1 nl ⟨br, pt⟩ ⟨nm, fr, tt, xx, tap, sh, lim, shrt, hold⟩ = [⟨nm, ia, nn, false⟩, ⟨nm, nn, ib, false⟩]) := HBR1
                  have HONE : Hid (∀ u ∈ [Value.string nm, .int .i64 ia, .int .i64 nn, .bool false, .string nm, .int .i64 nn, .int .i64 ib, .bool false], u.oneCell' = true) := by
                    intro u hu
                    simp only [List.mem_cons, List.not_mem_nil, or_false] at hu
                    rcases hu with rfl | rfl | rfl | rfl | rfl | rfl | rfl | rfl <;> rfl
                  clear HBR1
                  rw [show Op.load 122 (.tmp 69) = hideLoad 122 (.tmp 69) from rfl]
                  go_region_held3 (fun W => W.cell? ⟨vb, 0, none⟩ = some (.string nm) ∧ W.cell? ⟨vb, 1, none⟩ = some (.string fr) ∧ W.cell? ⟨vb, 2, none⟩ = some (.string tt) ∧ W.cell? ⟨b0 + 3, 0, none⟩ = some (.int .i64 nn))
                    (first
                      | with_reducible exact S2.out
                      | exact S3.out
                      | with_reducible exact SV.out
                      | with_reducible exact SX.out _)
                    (first
                      | (refine step_append_lies _ rfl (.tmp 70) (.tmp 93) 122 rfl (b0 + 4) 126 i0 (.agg #[.string ByteArray.empty, .int .i64 0, .int .i64 0, .bool false]) 4 40 Try.underlying122 hi0 hz0 hz1 hz2 rfl (by decide) (.slice lva es.length lvc) es.length (flat CEdge.cells es) rfl E3.out.own ⟨W2.heap.size, 0, none⟩ 2 2 [.string nm, .int .i64 ia, .int .i64 nn, .bool false, .string nm, .int .i64 nn, .int .i64 ib, .bool false] rfl rfl N1.out HONE.out (by decide) HL1.out HL2.out E3.out.le.2.2 _ rfl ?_; intro g1 cap1 u1 hown1 hgrow1 hat1 hlt1; have HOW := Lib.hid hown1; have HGR := Lib.hid hgrow1; obtain ⟨sv, su1, su2, sx⟩ := SU.out u1 hgrow1; have SV := Lib.hid sv; have SX := Lib.hid sx; clear sv sx; clear hown1 hgrow1 hat1 hlt1)
                      | (go_simp; go_at_call 103; refine HA1.out.mono ?_; rintro e w' ⟨rfl, rfl⟩)
                      | (go_simp; go_at_call 103; refine HA2.out.mono ?_; rintro e w' ⟨rfl, rfl⟩))
                  all_goals
                    go_simp
                    go_wp2_with fail
                    go_meet
                    exact ⟨_, _, Lib.hid (by rw [HW.out]; exact HPUT.out _ _ _ HOW.out HGR.out), ⟨(SX.out _).1, (SX.out _).2.1, (SX.out _).2.2.1⟩⟩
                ·
                  have HBR1 : Hid (brC1 nl ⟨br, pt⟩ ⟨nm, fr, tt, xx, tap, sh, lim, shrt, hold⟩ = [⟨nm, ia, ib, false⟩]) := hb1
                  clear v0 p0 p1 HWH hat1 hb1
                  go_wp2_with fail
                  have E3 := Lib.hid (E2.out.drew.alloc (.cells #[.string nm, .int .i64 ia, .int .i64 ib, .bool false] 126))
                  have K3 := Lib.hid (K2.out.drew.alloc (.cells #[.string nm, .int .i64 ia, .int .i64 ib, .bool false] 126))
                  have N1 : Hid (∀ j u, [Value.string nm, .int .i64 ia, .int .i64 ib, .bool false][j]? = some u → (W2.drew.alloc (.cells #[.string nm, .int .i64 ia, .int .i64 ib, .bool false] 126)).cell? ((⟨W2.heap.size, 0, none⟩ : Addr).add j) = some u) := (Blk.new W2.drew #[.string nm, .int .i64 ia, .int .i64 ib, .bool false] 126).row
                  have HL1 : Hid (es.length + 1 ≤ maxLen) := by show _ ≤ _; unfold maxLen; omega
                  have HL2 : Hid ((es.length + 1) * 40 ≤ 140737488355328) := by show _ ≤ _; omega
                  have S2 : Hid (W2.drew.cell? ⟨vb, 0, none⟩ = some (.string nm) ∧ W2.drew.cell? ⟨vb, 1, none⟩ = some (.string fr) ∧ W2.drew.cell? ⟨vb, 2, none⟩ = some (.string tt)) := ⟨K2.out.drew.cell 0 rfl, K2.out.drew.cell 1 rfl, K2.out.drew.cell 2 rfl⟩
                  have y2 := E2.out.drew.kx.cell 1 rfl
                  have y2' := E2.out.kx.cell 1 rfl
                  have y3 := E3.out.kx.cell 1 rfl
                  have y3' : (W2.alloc (.cells #[.string nm, .int .i64 ia, .int .i64 ib, .bool false] 126)).cell? ⟨b0 + 3, 1, none⟩ = some (.slice lva es.length lvc) := y3
                  have S3 : Hid ((W2.drew.alloc (.cells #[.string nm, .int .i64 ia, .int .i64 ib, .bool false] 126)).cell? ⟨vb, 0, none⟩ = some (.string nm) ∧ (W2.drew.alloc (.cells #[.string nm, .int .i64 ia, .int .i64 ib, .bool false] 126)).cell? ⟨vb, 1, none⟩ = some (.string fr) ∧ (W2.drew.alloc (.cells #[.string nm, .int .i64 ia, .int .i64 ib, .bool false] 126)).cell? ⟨vb, 2, none⟩ = some (.string tt)) := ⟨K3.out.cell 0 rfl, K3.out.cell 1 rfl, K3.out.cell 2 rfl⟩
                  have SU : Hid (∀ u : World, (W2.drew.alloc (.cells #[.string nm, .int .i64 ia, .int .i64 ib, .bool false] 126)).grownBy u (Value.slice lva es.length lvc).ownBlock → (u.cell? ⟨vb, 0, none⟩ = some (.string nm) ∧ u.cell? ⟨vb, 1, none⟩ = some (.string fr) ∧ u.cell? ⟨vb, 2, none⟩ = some (.string tt)) ∧ u.cell? ⟨b0 + 3, 1, none⟩ = some (.slice lva es.length lvc) ∧ u.frozen? ⟨b0 + 3, 1, none⟩ = false ∧ ∀ v, ((u.setCell ⟨b0 + 3, 1, none⟩ v).cell? ⟨vb, 0, none⟩ = some (.string nm) ∧ (u.setCell ⟨b0 + 3, 1, none⟩ v).cell? ⟨vb, 1, none⟩ = some (.string fr) ∧ (u.setCell ⟨b0 + 3, 1, none⟩ v).cell? ⟨vb, 2, none⟩ = some (.string tt))) := fun u hg => by
                    have kx := E3.out.kx.gro hg (fun e => by have := E3.out.lt _ e; have := E3.out.le.2.1; omega)
                    have kv := K3.out.gro hg (fun e => by have := HRL.out _ e; omega)
                    have kz := fun v => kv.setOther ⟨b0 + 3, 1, none⟩ (by show vb ≠ b0 + 3; have := HVL.out; omega) v
                    exact ⟨⟨kv.cell 0 rfl, kv.cell 1 rfl, kv.cell 2 rfl⟩, kx.cell 1 rfl, kx.free 1, fun v => ⟨(kz v).cell 0 rfl, (kz v).cell 1 rfl, (kz v).cell 2 rfl⟩⟩
                  have HPUT : Hid (∀ (u : World) (g1 cap1 : Nat), u.ownsRow (b0 + 4) 126 4 (.slice (some ⟨g1, 0, none⟩) (es.length + 1) cap1) (es.length + 1) (flat CEdge.cells es ++ [.string nm, .int .i64 ia, .int .i64 ib, .bool false]) → (W2.drew.alloc (.cells #[.string nm, .int .i64 ia, .int .i64 ib, .bool false] 126)).grownBy u (Value.slice lva es.length lvc).ownBlock →
                      BEnv w nv br pt b0 (b0 + 4) nn nn (es ++ [⟨nm, ia, ib, false⟩]) (List.replicate (nn + 1) false) cur (some ⟨g1, 0, none⟩) cap1 (u.setCell ⟨b0 + 3, 1, none⟩ (.slice (some ⟨g1, 0, none⟩) (es.length + 1) cap1))) := fun u g1 cap1 h1 h2 => by
                    have := E3.out.put (xs := [⟨nm, ia, ib, false⟩]) h2 h1
                    simpa using this
                  have HW : Hid (brC1 nl ⟨br, pt⟩ ⟨nm, fr, tt, xx, tap, sh, lim, shrt, hold⟩ = [⟨nm, ia, ib, false⟩]) := HBR1
                  have HONE : Hid (∀ u ∈ [Value.string nm, .int .i64 ia, .int .i64 ib, .bool false], u.oneCell' = true) := by
                    intro u hu
                    simp only [List.mem_cons, List.not_mem_nil, or_false] at hu
                    rcases hu with rfl | rfl | rfl | rfl <;> rfl
                  clear HBR1
                  rw [show Op.load 122 (.tmp 116) = hideLoad 122 (.tmp 116) from rfl]
                  go_region_held3 (fun W => W.cell? ⟨vb, 0, none⟩ = some (.string nm) ∧ W.cell? ⟨vb, 1, none⟩ = some (.string fr) ∧ W.cell? ⟨vb, 2, none⟩ = some (.string tt))
                    (first
                      | with_reducible exact S2.out
                      | exact S3.out
                      | with_reducible exact SV.out
                      | with_reducible exact SX.out _)
                    (first
                      | (refine step_append_lies _ rfl (.tmp 117) (.tmp 129) 122 rfl (b0 + 4) 126 i0 (.agg #[.string ByteArray.empty, .int .i64 0, .int .i64 0, .bool false]) 4 40 Try.underlying122 hi0 hz0 hz1 hz2 rfl (by decide) (.slice lva es.length lvc) es.length (flat CEdge.cells es) rfl E3.out.own ⟨W2.heap.size, 0, none⟩ 1 1 [.string nm, .int .i64 ia, .int .i64 ib, .bool false] rfl rfl N1.out HONE.out (by decide) HL1.out HL2.out E3.out.le.2.2 _ rfl ?_; intro g1 cap1 u1 hown1 hgrow1 hat1 hlt1; have HOW := Lib.hid hown1; have HGR := Lib.hid hgrow1; obtain ⟨sv, su1, su2, sx⟩ := SU.out u1 hgrow1; have SV := Lib.hid sv; have SX := Lib.hid sx; clear sv sx; clear hown1 hgrow1 hat1 hlt1)
                      | (go_simp; go_at_call 103; refine HA1.out.mono ?_; rintro e w' ⟨rfl, rfl⟩)
                      | (go_simp; go_at_call 103; refine HA2.out.mono ?_; rintro e w' ⟨rfl, rfl⟩))
                  all_goals
                    go_simp
                    go_wp2_with fail
                    go_meet
                    exact ⟨_, _, Lib.hid (by rw [HW.out]; exact HPUT.out _ _ _ HOW.out HGR.out), ⟨(SX.out _).1, (SX.out _).2.1, (SX.out _).2.2⟩⟩
            case rest =>
              obtain ⟨lvb, lvd, he2, hcl⟩ := hcut
              have q0 := hcl.out.1
              have q1 := hcl.out.2.1
              have q2 := hcl.out.2.2
              have p0 := he2.out.kp.cell 0 rfl
              have p1 := he2.out.kp.cell 1 rfl
              have HL1 : Hid ((es ++ brC1 nl ⟨br, pt⟩ ⟨nm, fr, tt, xx, tap, sh, lim, shrt, hold⟩).length ≤ 32 + 2 * (k + 1)) := by
                show _ ≤ _
                rw [List.length_append]
                unfold brC1
                split <;> simp <;> omega
              clear v0 HA1 HA2 E2 K2 HWH hb1
              rw [← List.append_assoc] at he
              generalize es ++ brC1 nl ⟨br, pt⟩ ⟨nm, fr, tt, xx, tap, sh, lim, shrt, hold⟩ = es2 at *
              cases h1 : (nm.toList == br.toList)
              ·
                have HAC : Hid (atC1 nl ⟨br, pt⟩ ⟨nm, fr, tt, xx, tap, sh, lim, shrt, hold⟩ cur = cur) := hat1.out.trans (if_neg (by unfold sameB; rw [h1]; decide))
                rw [HAC.out] at he
                clear hat1 hcl
                go_wp2_with fail
                go_roundw
                case rel => exact ⟨k + 1, es2, cur, lvb, lvd, hlt, by go_num, he, HL1.out, he2⟩
                case measure => simp [intOf]; omega
              ·
                have HAC := hat1.out.trans (if_pos (show sameB nm br = true from h1))
                have x3 := he2.out.kx.cell 3 rfl
                have xf := he2.out.kx.free 3
                by_cases h2 : pt = 0
                ·
                  have g2 : (pt == 0) = true := by simp [h2]
                  rw [HAC, if_pos h2] at he
                  have HA3 := Lib.hid (HAT.out fr _ he2.out.below he2.out.kn)
                  rw [IA2.out] at HA3
                  have HR := Lib.hid (he2.out.setAt ia)
                  clear HAC hat1 h2 hcl
                  go_wp2_with fail
                  refine HA3.out.mono ?_; rintro e w' ⟨rfl, rfl⟩
                  go_wp2_with fail
                  go_roundw
                  case rel => exact ⟨k + 1, es2, ia, lvb, lvd, hlt, by go_num, he, HL1.out, HR⟩
                  case measure => simp [intOf]; omega
                ·
                  have g2 : (pt == 0) = false := by simp [h2]
                  by_cases h3 : pt = 1000
                  ·
                    have g3 : (pt == 1000) = true := by simp [h3]
                    rw [HAC, if_neg h2, if_pos h3] at he
                    have HA3 := Lib.hid (HAT.out tt _ he2.out.below he2.out.kn)
                    rw [IB2.out] at HA3
                    have HR := Lib.hid (he2.out.setAt ib)
                    clear HAC hat1 h2 h3 hcl
                    go_wp2_with fail
                    refine HA3.out.mono ?_; rintro e w' ⟨rfl, rfl⟩
                    go_wp2_with fail
                    go_roundw
                    case rel => exact ⟨k + 1, es2, ib, lvb, lvd, hlt, by go_num, he, HL1.out, HR⟩
                    case measure => simp [intOf]; omega
                  ·
                    have g3 : (pt == 1000) = false := by simp [h3]
                    rw [HAC, if_neg h2, if_neg h3] at he
                    have xn := he2.out.kx.cell 0 rfl
                    have HR := Lib.hid (he2.out.setAt nn)
                    clear HAC hat1 h2 h3 hcl
                    go_wp2_with fail
                    go_roundw
                    case rel => exact ⟨k + 1, es2, nn, lvb, lvd, hlt, by go_num, he, HL1.out, HR⟩
                    case measure => simp [intOf]; omega
          ·
            have hkn : brs.drop k = [] := List.drop_eq_nil_of_le (by rw [HB.out]; omega)
            have HE3 : Hid (ER = ⟨nn + 1, es, srcC nl NStore.node stores (srcC nl NGen.node (gens.drop 0) (List.replicate (nn + 1) false)), cur⟩) := by show _ = _; rw [he.out, hkn]; simp [brC, atC]
            have hes : Hid (es.length ≤ 80) := by show _ ≤ _; omega
            have xn := henv.out.kx.cell 0 rfl
            have xf := henv.out.kx.free 0
            have hw := IntWalk.i64_in ((nn : Int) + 1) (by omega)
            have H3 := Lib.hid (henv.out.setNodes ((nn : Int) + 1))
            have HLR : Hid ((List.replicate (nn + 1) false).length = nn + 1) := by show _ = _; simp
            clear hkn he hel
            go_upto_region 24 with fail
            clear hlt hk
            generalize wr.setCell ⟨b0 + 3, 0, none⟩ (.int .i64 ((nn : Int) + 1)) = w3 at *
            clear xn xf hw henv
            have x3 := H3.out.kn.cell 3 n3.out
            go_wp2_with fail
            go_loopw [176] (fun i wr => ∃ (k : Nat) (src : List Bool), k ≤ gn ∧ i = .int .i64 k ∧ Hid (ER = ⟨nn + 1, es, srcC nl NStore.node stores (srcC nl NGen.node (gens.drop k) src), cur⟩) ∧ Hid (src.length = nn + 1) ∧ Hid (BEnv w nv br pt b0 (b0 + 4) nn ((nn : Int) + 1) es src cur lva lvc wr)) (fun i _ => gn - (intOf i).toNat)
            case atStart => exact ⟨0, _, Nat.zero_le _, rfl, HE3, HLR, H3⟩
            case round =>
              clear x3 HE3 H3
              obtain ⟨k, src, hk, rfl, he, hsl, henv⟩ := hrel
              by_cases hlt : k < gn
              ·
                obtain ⟨x, hx⟩ : ∃ x, gens[k]? = some x := ⟨_, List.getElem?_eq_getElem (by rw [HG.out]; exact hlt)⟩
                obtain ⟨g, off, cap', hvv, _, _, _, hc⟩ := (R3.out.below henv.out.below).addr (by omega)
                simp only [Value.slice.injEq] at hvv
                obtain ⟨rfl, _, rfl⟩ := hvv
                obtain ⟨c0, c1, c2, c3, c4⟩ := gen_cells hc hx
                have hd := srcC_drop (nl := nl) (node := NGen.node) hx src
                rw [hd] at he
                have IA := HIX.out _ (HGN.out x (List.mem_of_getElem? hx))
                obtain ⟨nm, nd, y2, y3, y4⟩ := x
                simp only at c0 c1 c2 c3 c4 he IA
                have E2 := Lib.hid (henv.out.alloc (.cells #[.string nm, .string nd, .int .i64 y2, .int .i64 y3, .int .i64 y4] 140))
                have K2 := Lib.hid (Blk.new wr #[.string nm, .string nd, .int .i64 y2, .int .i64 y3, .int .i64 y4] 140)
                have IA2 := Lib.hid IA.2
                have IA1 := IA.1
                clear hx hc hd IA
                generalize ixN nl nd = ia at *
                obtain ⟨vb, hvb⟩ : ∃ b, wr.heap.size = b := ⟨_, rfl⟩
                have HVB := Lib.hid hvb
                have HVL : Hid (b0 + 4 ≤ vb) := by show _ ≤ _; rw [← hvb]; exact henv.out.le.2.2
                rw [hvb] at K2
                clear hvb
                go_upto_region 27 with fail
                rw [HVB.out]
                generalize wr.alloc (.cells #[.string nm, .string nd, .int .i64 y2, .int .i64 y3, .int .i64 y4] 140) = W2 at *
                clear c0 c1 c2 c3 c4 HVB
                have HA1 := Lib.hid (HAT.out nd _ E2.out.drew.below E2.out.drew.kn)
                rw [IA2.out] at HA1
                have hiL : ia < src.length := by rw [hsl.out]; omega
                have s1 := E2.out.drew.bools hiL
                have s1' := E2.out.bools hiL
                have s2 := E2.out.drew.ks.free ia
                have s2' := E2.out.ks.free ia
                have q1 : decide ((ia : Int) < 0) = false := decide_eq_false (by omega)
                have q3 : decide ((nn : Int) + 1 ≤ (ia : Int)) = false := decide_eq_false (by omega)
                have q4 : decide (((nn + 1 : Nat) : Int) ≤ (ia : Int)) = false := decide_eq_false (by omega)
                have q5 : decide (nn + 1 ≤ ia) = false := decide_eq_false (by omega)
                have q6 : (0 : Int) ≤ (ia : Int) := by omega
                have q7 : (ia : Int) < (nn : Int) + 1 := by omega
                have q8 : (ia : Int) < ((nn + 1 : Nat) : Int) := by omega
                have hin : ia < nn + 1 := by omega
                have SF := Lib.hid (E2.out.drew.setSrc ia)
                have SL : Hid ((src.set ia true).length = nn + 1) := by show _ = _; rw [List.length_set]; exact hsl.out
                have S2 : Hid (W2.drew.cell? ⟨vb, 1, none⟩ = some (.string nd) ∧ W2.drew.cell? ⟨b0 + 3, 2, none⟩ = some (.slice (some ⟨b0 + 2, 0, none⟩) (nn + 1) (nn + 1))) := ⟨K2.out.drew.cell 1 rfl, E2.out.drew.kx.cell 2 rfl⟩
                have S3 : Hid ((W2.drew.setCell ⟨b0 + 2, ia, none⟩ (.bool true)).cell? ⟨vb, 1, none⟩ = some (.string nd) ∧ (W2.drew.setCell ⟨b0 + 2, ia, none⟩ (.bool true)).cell? ⟨b0 + 3, 2, none⟩ = some (.slice (some ⟨b0 + 2, 0, none⟩) (nn + 1) (nn + 1))) :=
                  ⟨(K2.out.drew.setOther ⟨b0 + 2, ia, none⟩ (by show vb ≠ b0 + 2; have := HVL.out; omega) _).cell 1 rfl, (E2.out.drew.setSrc ia).kx.cell 2 rfl⟩
                clear hiL
                go_region_held3 (fun W => W.cell? ⟨vb, 1, none⟩ = some (.string nd) ∧ W.cell? ⟨b0 + 3, 2, none⟩ = some (.slice (some ⟨b0 + 2, 0, none⟩) (nn + 1) (nn + 1)))
                  (first
                    | with_reducible exact S2.out
                    | exact S3.out)
                  (first
                    | (go_simp; go_at_call 103; refine HA1.out.mono ?_; rintro e w' ⟨rfl, rfl⟩))
                all_goals
                  go_simp
                  go_wp2_with fail
                  go_roundw
                  case rel => exact ⟨k + 1, src.set ia true, hlt, by go_num, he, SL, SF⟩
                  case measure => simp [intOf]; omega
              ·
                have hkn : gens.drop k = [] := List.drop_eq_nil_of_le (by rw [HG.out]; omega)
                have HE4 : Hid (ER = ⟨nn + 1, es, srcC nl NStore.node (stores.drop 0) src, cur⟩) := by show _ = _; rw [he.out, hkn]; rfl
                have x5 := henv.out.kn.cell 5 n5.out
                have henv5 := henv
                have hsl5 := hsl
                clear hkn he hsl henv
                go_wp2_with fail
                clear hlt hk
                go_loopw [193] (fun i wr => ∃ (k : Nat) (src : List Bool), k ≤ tn ∧ i = .int .i64 k ∧ Hid (ER = ⟨nn + 1, es, srcC nl NStore.node (stores.drop k) src, cur⟩) ∧ Hid (src.length = nn + 1) ∧ Hid (BEnv w nv br pt b0 (b0 + 4) nn ((nn : Int) + 1) es src cur lva lvc wr)) (fun i _ => tn - (intOf i).toNat)
                case atStart => exact ⟨0, _, Nat.zero_le _, rfl, HE4, hsl5, henv5⟩
                case round =>
                  clear x5 HE4 henv5
                  obtain ⟨k, src, hk, rfl, he, hsl, henv⟩ := hrel
                  by_cases hlt : k < tn
                  ·
                    obtain ⟨x, hx⟩ : ∃ x, stores[k]? = some x := ⟨_, List.getElem?_eq_getElem (by rw [HT.out]; exact hlt)⟩
                    obtain ⟨g, off, cap', hvv, _, _, _, hc⟩ := (R5.out.below henv.out.below).addr (by omega)
                    simp only [Value.slice.injEq] at hvv
                    obtain ⟨rfl, _, rfl⟩ := hvv
                    obtain ⟨c0, c1, c2, c3, c4⟩ := store_cells hc hx
                    have hd := srcC_drop (nl := nl) (node := NStore.node) hx src
                    rw [hd] at he
                    have IA := HIX.out _ (HST.out x (List.mem_of_getElem? hx))
                    obtain ⟨nm, nd, y2, y3, y4⟩ := x
                    simp only at c0 c1 c2 c3 c4 he IA
                    have E2 := Lib.hid (henv.out.alloc (.cells #[.string nm, .string nd, .int .i64 y2, .int .i64 y3, .int .i64 y4] 166))
                    have K2 := Lib.hid (Blk.new wr #[.string nm, .string nd, .int .i64 y2, .int .i64 y3, .int .i64 y4] 166)
                    have IA2 := Lib.hid IA.2
                    have IA1 := IA.1
                    clear hx hc hd IA
                    generalize ixN nl nd = ia at *
                    obtain ⟨vb, hvb⟩ : ∃ b, wr.heap.size = b := ⟨_, rfl⟩
                    have HVB := Lib.hid hvb
                    have HVL : Hid (b0 + 4 ≤ vb) := by show _ ≤ _; rw [← hvb]; exact henv.out.le.2.2
                    rw [hvb] at K2
                    clear hvb
                    go_upto_region 32 with fail
                    rw [HVB.out]
                    generalize wr.alloc (.cells #[.string nm, .string nd, .int .i64 y2, .int .i64 y3, .int .i64 y4] 166) = W2 at *
                    clear c0 c1 c2 c3 c4 HVB
                    have HA1 := Lib.hid (HAT.out nd _ E2.out.drew.below E2.out.drew.kn)
                    rw [IA2.out] at HA1
                    have hiL : ia < src.length := by rw [hsl.out]; omega
                    have s1 := E2.out.drew.bools hiL
                    have s1' := E2.out.bools hiL
                    have s2 := E2.out.drew.ks.free ia
                    have s2' := E2.out.ks.free ia
                    have q1 : decide ((ia : Int) < 0) = false := decide_eq_false (by omega)
                    have q3 : decide ((nn : Int) + 1 ≤ (ia : Int)) = false := decide_eq_false (by omega)
                    have q4 : decide (((nn + 1 : Nat) : Int) ≤ (ia : Int)) = false := decide_eq_false (by omega)
                    have q5 : decide (nn + 1 ≤ ia) = false := decide_eq_false (by omega)
                    have q6 : (0 : Int) ≤ (ia : Int) := by omega
                    have q7 : (ia : Int) < (nn : Int) + 1 := by omega
                    have q8 : (ia : Int) < ((nn + 1 : Nat) : Int) := by omega
                    have hin : ia < nn + 1 := by omega
                    have SF := Lib.hid (E2.out.drew.setSrc ia)
                    have SL : Hid ((src.set ia true).length = nn + 1) := by show _ = _; rw [List.length_set]; exact hsl.out
                    have S2 : Hid (W2.drew.cell? ⟨vb, 1, none⟩ = some (.string nd) ∧ W2.drew.cell? ⟨b0 + 3, 2, none⟩ = some (.slice (some ⟨b0 + 2, 0, none⟩) (nn + 1) (nn + 1))) := ⟨K2.out.drew.cell 1 rfl, E2.out.drew.kx.cell 2 rfl⟩
                    have S3 : Hid ((W2.drew.setCell ⟨b0 + 2, ia, none⟩ (.bool true)).cell? ⟨vb, 1, none⟩ = some (.string nd) ∧ (W2.drew.setCell ⟨b0 + 2, ia, none⟩ (.bool true)).cell? ⟨b0 + 3, 2, none⟩ = some (.slice (some ⟨b0 + 2, 0, none⟩) (nn + 1) (nn + 1))) :=
                      ⟨(K2.out.drew.setOther ⟨b0 + 2, ia, none⟩ (by show vb ≠ b0 + 2; have := HVL.out; omega) _).cell 1 rfl, (E2.out.drew.setSrc ia).kx.cell 2 rfl⟩
                    clear hiL
                    go_region_held3 (fun W => W.cell? ⟨vb, 1, none⟩ = some (.string nd) ∧ W.cell? ⟨b0 + 3, 2, none⟩ = some (.slice (some ⟨b0 + 2, 0, none⟩) (nn + 1) (nn + 1)))
                      (first
                        | with_reducible exact S2.out
                        | exact S3.out)
                      (first
                        | (go_simp; go_at_call 103; refine HA1.out.mono ?_; rintro e w' ⟨rfl, rfl⟩))
                    all_goals
                      go_simp
                      go_wp2_with fail
                      go_roundw
                      case rel => exact ⟨k + 1, src.set ia true, hlt, by go_num, he, SL, SF⟩
                      case measure => simp [intOf]; omega
                  ·
                    have hkn : stores.drop k = [] := List.drop_eq_nil_of_le (by rw [HT.out]; omega)
                    have HE6 : Hid (ER = ⟨nn + 1, es, src, cur⟩) := by show _ = _; rw [he.out, hkn]; rfl
                    have HNC := Lib.hid (henv.out.net HE6.out rfl hsl.out (by omega) (by have := hes.out; omega))
                    clear hkn he
                    go_wp2_with fail
                    go_ret
                    exact ⟨_, _, _, _, _, rfl, HNC.out, henv.out.below⟩
end Go.Proofs.Ytplebibabcdipaa
