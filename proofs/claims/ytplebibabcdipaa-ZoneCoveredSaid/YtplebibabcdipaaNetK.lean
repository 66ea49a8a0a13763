/- netmodel.Check. -/
import Derived.Test.YtplebibabcdipaaNetS
namespace Go.Proofs.Ytplebibabcdipaa
open Go.RowKit


theorem sizes_case (a b c d e f : Nat) : (sizesE a b c d e f = 0 ∧ SizesOk a b c d e f) ∨ (sizesE a b c d e f = 2 ∧ ¬ SizesOk a b c d e f) := by
  unfold sizesE; split <;> simp_all

set_option maxHeartbeats 4000000 in
set_option maxRecDepth 100000 in
theorem net_c (x0 : NAddr) (n : Net) (w : World) (hr : NetR w x0 n) (hwf : n.Wf) :
    Calls Try.prog 35 #[x0.val n] w fun e w' => e = .returned (.int .i64 (netE n)) ∧ Below w.heap.size w w' := by
  have hlow := hr.isLow
  have HSO := Lib.hid (fun b met w (h1 : NetR w x0 n) h2 h3 h4 h5 h6 h7 => sources_c b x0 n met w h1 hwf h2 h3 h4 h5 h6 h7)
  have HR0 := Lib.hid hr
  have HLW := Lib.hid hlow
  obtain ⟨na, nc, sa, sc, ba, bc, ga, gc, la, lc, ta, tc⟩ := x0
  obtain ⟨nl, sws, brs, gens, loads, stores⟩ := n
  obtain ⟨f0, f1, f2, f3, f4, f5⟩ := hwf
  obtain ⟨o0, o1, o2, o3, o4, o5⟩ := hlow
  simp only at *
  have HAD : Hid (∀ b met s W, s.size ≤ 9223372036854775807 → met.length ≤ 1000 → NS b met W → Calls Try.prog 80 #[.pointer (some ⟨b, 0, none⟩), .string s] W fun e w' => e = .returned (.int .i64 (addR met s).1) ∧ NS b (addR met s).2 w' ∧ Below b W w' ∧ Frame b W w') := fun b met s W h1 h2 h3 => add_c b met s h1 h2 W h3
  have HBR : Hid (∀ nm fr to x tap sh lim shrt hold W, Calls Try.prog 82 #[.agg #[.string nm, .string fr, .string to, .int .i64 x, .int .i64 tap, .int .i64 sh, .int .i64 lim, .int .i64 shrt, .int .i64 hold]] W fun e w' => e = .returned (.int .i64 (brE x tap sh lim shrt hold)) ∧ Below W.heap.size W w') := fun nm fr to x tap sh lim shrt hold W => branch_c nm fr to x tap sh lim shrt hold W
  obtain ⟨AA, hAA⟩ : ∃ G, addAll nl [] = G := ⟨_, rfl⟩
  obtain ⟨SA, hSA⟩ : ∃ G, devAll nl NSw.name (fun x => [x.a, x.b]) NSw.test sws AA.2 = G := ⟨_, rfl⟩
  obtain ⟨BA, hBA⟩ : ∃ G, devAll nl NBr.name (fun x => [x.fr, x.to]) NBr.test brs SA.2 = G := ⟨_, rfl⟩
  have HE2 : Hid (netE ⟨nl, sws, brs, gens, loads, stores⟩ = if sizesE nl.length sws.length brs.length gens.length loads.length stores.length ≠ 0 then 2 else if AA.1 ≠ 0 then AA.1 else if SA.1 ≠ 0 then SA.1 else if BA.1 ≠ 0 then BA.1 else srcE ⟨nl, sws, brs, gens, loads, stores⟩ BA.2) := by show _ = _; rw [← hBA, ← hSA, ← hAA]; rfl
  have HAA := Lib.hid hAA
  have HSA := Lib.hid hSA
  have HBA := Lib.hid hBA
  clear hAA hSA hBA
  generalize netE ⟨nl, sws, brs, gens, loads, stores⟩ = E at *
  obtain ⟨nn, hN⟩ : ∃ n, nl.length = n := ⟨_, rfl⟩
  obtain ⟨sn, hS⟩ : ∃ n, sws.length = n := ⟨_, rfl⟩
  obtain ⟨bn, hB⟩ : ∃ n, brs.length = n := ⟨_, rfl⟩
  obtain ⟨gn, hG⟩ : ∃ n, gens.length = n := ⟨_, rfl⟩
  obtain ⟨ln, hL⟩ : ∃ n, loads.length = n := ⟨_, rfl⟩
  obtain ⟨tn, hT⟩ : ∃ n, stores.length = n := ⟨_, rfl⟩
  obtain ⟨r0, r1, r2, r3, r4, r5⟩ := hr
  simp only at r0 r1 r2 r3 r4 r5
  rw [hN] at r0
  rw [hS] at r1
  rw [hB] at r2
  rw [hG] at r3
  rw [hL] at r4
  rw [hT] at r5
  have R0 := Lib.hid r0
  have R1 := Lib.hid r1
  have R2 := Lib.hid r2
  have HSO2 : Hid (∀ b met W, NetR W ⟨na, nc, sa, sc, ba, bc, ga, gc, la, lc, ta, tc⟩ ⟨nl, sws, brs, gens, loads, stores⟩ → NAddr.Low ⟨na, nc, sa, sc, ba, bc, ga, gc, la, lc, ta, tc⟩ ⟨nl, sws, brs, gens, loads, stores⟩ b → NS b met W → met.length ≤ 200 → gn ≤ 10 → ln ≤ 12 → tn ≤ 4 →
      Calls Try.prog 83 #[netV na nn nc sa sn sc ba bn bc ga gn gc la ln lc ta tn tc, .pointer (some ⟨b, 0, none⟩)] W fun e w' => e = .returned (.int .i64 (srcE ⟨nl, sws, brs, gens, loads, stores⟩ met)) ∧ Below b W w') := by
    intro b met W h1 h2 h3 h4 h5 h6 h7
    have := HSO.out b met W h1 h2 h3 h4 (by rw [hG]; exact h5) (by rw [hL]; exact h6) (by rw [hT]; exact h7)
    rw [← hN, ← hS, ← hB, ← hG, ← hL, ← hT]
    exact this
  clear HSO r0 r1 r2 r3 r4 r5
  show Calls _ _ #[netV na nl.length nc sa sws.length sc ba brs.length bc ga gens.length gc la loads.length lc ta stores.length tc] _ _
  rw [hN, hS, hB, hG, hL, hT]
  rw [hN, hS, hB, hG, hL, hT] at HE2
  have HSZ : Hid (∀ W, Calls Try.prog 79 #[netV na nn nc sa sn sc ba bn bc ga gn gc la ln lc ta tn tc] W fun e w' => e = .returned (.int .i64 (sizesE nn sn bn gn ln tn)) ∧ Below W.heap.size W w') := fun W => sizes_c na nn nc sa sn sc ba bn bc ga gn gc la ln lc ta tn tc W
  have hsc := sizes_case nn sn bn gn ln tn
  generalize sizesE nn sn bn gn ln tn = Z at *
  have K1 : Hid (Blk (w.alloc (.cells #[.slice na nn nc, .slice sa sn sc, .slice ba bn bc, .slice ga gn gc, .slice la ln lc, .slice ta tn tc] 29)) w.heap.size #[.slice na nn nc, .slice sa sn sc, .slice ba bn bc, .slice ga gn gc, .slice la ln lc, .slice ta tn tc] 29) := Blk.new _ _ _
  have B1 : Hid (Below w.heap.size w (w.alloc (.cells #[.slice na nn nc, .slice sa sn sc, .slice ba bn bc, .slice ga gn gc, .slice la ln lc, .slice ta tn tc] 29))) := belowA (Below.refl _ _) _
  generalize hW1 : w.alloc (.cells #[.slice na nn nc, .slice sa sn sc, .slice ba bn bc, .slice ga gn gc, .slice la ln lc, .slice ta tn tc] 29) = W1 at *
  have x0 := K1.out.cell 0 rfl
  have x1 := K1.out.cell 1 rfl
  have x2 := K1.out.cell 2 rfl
  have x3 := K1.out.cell 3 rfl
  have x4 := K1.out.cell 4 rfl
  have x5 := K1.out.cell 5 rfl
  go_enter Try.func35, Try.ntmps35
  go_wp2_with fail
  refine (HSZ.out _).mono ?_; rintro e w2 ⟨rfl, hb2⟩
  have HB0 : Hid (Below w.heap.size w w2) := B1.out.trans (hb2.mono (Nat.le_trans B1.out.size (Nat.le_refl _)))
  have K2 := Lib.hid (below_blk hb2 K1.out K1.out.lt)
  clear x0 x1 x2 x3 x4 x5 hW1
  rcases hsc with ⟨hz, hok⟩ | ⟨hz, hno⟩
  · subst hz
    obtain ⟨z0, z1, z2, z3, z4, z5⟩ := hok
    have HE3 : Hid (E = if AA.1 ≠ 0 then AA.1 else if SA.1 ≠ 0 then SA.1 else if BA.1 ≠ 0 then BA.1 else srcE ⟨nl, sws, brs, gens, loads, stores⟩ BA.2) := HE2.out
    clear HE2
    have HE2 := HE3
    clear HE3
    have hxb0 : w.heap.size ≤ w2.heap.size := HB0.out.size
    have N3 : Hid (NS w2.heap.size [] (w2.alloc (.cells #[.slice none 0 0] 142))) := ⟨_, Blk.new _ _ _, ⟨rfl, Or.inl ⟨rfl, rfl⟩⟩, by simp⟩
    have B3 : Hid (Below w2.heap.size w2 (w2.alloc (.cells #[.slice none 0 0] 142))) := belowA (Below.refl _ _) _
    have K3 : Hid (Blk (w2.alloc (.cells #[.slice none 0 0] 142)) w.heap.size #[.slice na nn nc, .slice sa sn sc, .slice ba bn bc, .slice ga gn gc, .slice la ln lc, .slice ta tn tc] 29) := K2.out.alloc _
    have hxb : w.heap.size ≠ w2.heap.size := by have := K2.out.lt; omega
    generalize hW3 : w2.alloc (.cells #[.slice none 0 0] 142) = W3 at *
    have x0 := K3.out.cell 0 rfl
    go_wp2_with fail
    clear hW3
    have HB1 : Hid (Below w.heap.size w W3) := HB0.out.trans (B3.out.mono hxb0)
    have R0' := Lib.hid (R0.out.low o0 HB1.out)
    have R1' := Lib.hid (R1.out.low o1 HB1.out)
    have R2' := Lib.hid (R2.out.low o2 HB1.out)
    have HRW := Lib.hid (HR0.out.low HLW.out HB1.out)
    have HLB := Lib.hid (HLW.out.mono hxb0)
    have p0 := HLB.out.n
    have p1 := HLB.out.s
    have p2 := HLB.out.r
    simp only at p0 p1 p2
    clear R0 R1 R2 HB0 B3 HR0 HLW o0 o1 o2 o3 o4 o5
    have R0 := R0'
    have R1 := R1'
    have R2 := R2'
    have HB0 := HB1
    clear R0' R1' R2' HB1
    generalize hbb : w2.heap.size = b at *
    have HD : Hid (∀ (s : ByteArray) (met' : List ByteArray) (nd ne : ByteArray) (ec : Array Value) (et : TypeId) (wr : World), Below b W3 wr → NS b met' wr → Blk wr w.heap.size #[.slice na nn nc, .slice sa sn sc, .slice ba bn bc, .slice ga gn gc, .slice la ln lc, .slice ta tn tc] 29 → et ≠ 9 → s.size ≤ 9223372036854775807 → met'.length ≤ 1000 →
        Calls Try.prog 81 #[netV na nn nc sa sn sc ba bn bc ga gn gc la ln lc ta tn tc, .pointer (some ⟨b, 0, none⟩), .string s, .slice (some ⟨wr.heap.size + 1, 0, none⟩) 2 2] ((wr.alloc (.cells ec et)).alloc (.cells #[.string nd, .string ne] 9)) fun e w' =>
          e = .returned (.int .i64 (deviceE nl met' s [nd, ne])) ∧ NS b (addR met' s).2 w' ∧ Below b W3 w' ∧ Blk w' w.heap.size #[.slice na nn nc, .slice sa sn sc, .slice ba bn bc, .slice ga gn gc, .slice la ln lc, .slice ta tn tc] 29 ∧ Blk w' wr.heap.size ec et) :=
      fun s met' nd ne ec et wr h1 h2 h3 h4 h5 h6 => dev_c na nn nc sa sn sc ba bn bc ga gn gc la ln lc ta tn tc nl met' s b w.heap.size 2 [nd, ne] ec et _ W3 wr hN R0.out p0 h1 h2 h3 hxb h4 h5 h6 rfl (by decide) (by decide)
    go_loopw [23] (fun i wr => ∃ (k : Nat) (met' : List ByteArray), k ≤ nn ∧ i = .int .i64 k ∧ Hid (addAll (nl.drop k) met' = AA) ∧ Hid (NS b met' wr) ∧ Hid (Below b W3 wr) ∧ Hid (Blk wr w.heap.size #[.slice na nn nc, .slice sa sn sc, .slice ba bn bc, .slice ga gn gc, .slice la ln lc, .slice ta tn tc] 29) ∧ met'.length ≤ 0 + k) (fun i _ => nn - (intOf i).toNat)
    case atStart => exact ⟨0, [], Nat.zero_le _, rfl, HAA, N3, Below.refl _ _, K3, by simp⟩
    case round =>
      clear x0
      obtain ⟨k, met', hk, rfl, he, hns, hbl, hbx, hml⟩ := hrel
      by_cases hlt : k < nn
      ·
        have hlk : k < nl.length := by rw [hN]; exact hlt
        have hr := (R0.out.low p0 hbl.out).addr (by omega)
        obtain ⟨g, off, cap', hvv, _, _, _, hc⟩ := hr
        simp only [Value.slice.injEq] at hvv
        obtain ⟨rfl, _, rfl⟩ := hvv
        have c0 := hc k _ (strs_get hlk)
        have hd := addAll_drop (met := met') hlk
        have hsz := f0 (nl.getD k ByteArray.empty) (by rw [List.getD_eq_getElem?_getD, List.getElem?_eq_getElem hlk]; exact List.getElem_mem hlk)
        rw [he.out] at hd
        generalize nl.getD k ByteArray.empty = s at *
        have HC := Lib.hid (HAD.out b met' s wr hsz (by omega) hns.out)
        have HDR := Lib.hid hd
        have hal := addR_len met' s
        clear hc hd hsz he
        generalize hP : addR met' s = P at *
        obtain ⟨D, met2⟩ := P
        simp only at HC HDR hal
        go_wp2_with fail
        refine HC.out.mono ?_; rintro e w4 ⟨rfl, hn4, hb4, hf4⟩
        have HNS4 := Lib.hid hn4
        have HX4 := Lib.hid (hns.out.keep hf4 hbx.out (by decide) hxb)
        have HB4 := Lib.hid (hbl.out.trans hb4)
        clear hn4 hb4 hf4 HC hns hbl hbx c0 hP
        by_cases hD : D = 0
        ·
          have g1 : (D != 0) = false := by simp [hD]
          have HR : Hid (addAll (nl.drop (k + 1)) met2 = AA) := (HDR.out.trans (if_neg (fun h => h hD))).symm
          clear hD HDR
          go_wp2_with fail
          go_roundw
          case rel => exact ⟨k + 1, met2, hlt, by go_num, HR, HNS4, HB4, HX4, by omega⟩
          case measure => simp [intOf]; omega
        ·
          have g1 : (D != 0) = true := by simp [hD]
          have HR : Hid (E = D) := by show _ = _; rw [HE2.out, HDR.out, if_pos hD, if_pos hD]
          clear hD HDR
          go_wp2_with fail
          go_ret
          exact ⟨by rw [HR.out]; rfl, (HB0.out).trans (HB4.out.mono hxb0)⟩
      ·
        have hkn : nl.drop k = [] := List.drop_eq_nil_of_le (by rw [hN]; omega)
        have HA0 : Hid (AA = (0, met')) := by show _ = _; rw [← he.out, hkn]; rfl
        clear hkn he
        have HE3 : Hid (E = if SA.1 ≠ 0 then SA.1 else if BA.1 ≠ 0 then BA.1 else srcE ⟨nl, sws, brs, gens, loads, stores⟩ BA.2) := by show _ = _; rw [HE2.out, HA0.out]; rfl
        rw [HA0.out] at HSA
        clear HE2 HAA HA0 HAD
        have HE2 := HE3
        clear HE3
        have x1 := hbx.out.cell 1 rfl
        go_wp2_with fail
        have hm1 : met'.length ≤ 24 := by omega
        clear x1 hk hlt
        go_loopw [36] (fun i wr => ∃ (k : Nat) (met' : List ByteArray), k ≤ sn ∧ i = .int .i64 k ∧ Hid (devAll nl NSw.name (fun x => [x.a, x.b]) NSw.test (sws.drop k) met' = SA) ∧ Hid (NS b met' wr) ∧ Hid (Below b W3 wr) ∧ Hid (Blk wr w.heap.size #[.slice na nn nc, .slice sa sn sc, .slice ba bn bc, .slice ga gn gc, .slice la ln lc, .slice ta tn tc] 29) ∧ met'.length ≤ 24 + k) (fun i _ => sn - (intOf i).toNat)
        case atStart => exact ⟨0, met', Nat.zero_le _, rfl, HSA, hns, hbl, hbx, by omega⟩
        case round =>
          clear hns hbl hbx hml
          obtain ⟨k, met', hk, rfl, he, hns, hbl, hbx, hml⟩ := hrel
          by_cases hlt : k < sn
          ·
            have hlk : k < sws.length := by rw [hS]; exact hlt
            obtain ⟨x, hx⟩ : ∃ x, sws[k]? = some x := ⟨_, List.getElem?_eq_getElem hlk⟩
            have hr := (R1.out.low p1 hbl.out).addr (by omega)
            obtain ⟨g, off, cap', hvv, _, _, _, hc⟩ := hr
            simp only [Value.slice.injEq] at hvv
            obtain ⟨rfl, _, rfl⟩ := hvv
            obtain ⟨c0, c1, c2, c3, c4⟩ := sw_cells hc hx
            have hd := devAll_drop (nl := nl) (name := NSw.name) (ends := fun x => [x.a, x.b]) (test := NSw.test) (met := met') hx
            have hsz := f1 x (List.mem_of_getElem? hx)
            rw [he.out] at hd
            obtain ⟨nm, fr, to, bk, op⟩ := x
            simp only at c0 c1 c2 c3 c4 hd hsz
            have HC := Lib.hid (HD.out nm met' fr to #[.string nm, .string fr, .string to, .bool bk, .bool op] 82 wr hbl.out hns.out hbx.out (by decide) hsz (by omega))
            have HDR : Hid (SA = if deviceE nl met' nm [fr, to] ≠ 0 then (deviceE nl met' nm [fr, to], (addR met' nm).2) else if NSw.test ⟨nm, fr, to, bk, op⟩ ≠ 0 then (NSw.test ⟨nm, fr, to, bk, op⟩, (addR met' nm).2) else devAll nl NSw.name (fun x => [x.a, x.b]) NSw.test (sws.drop (k + 1)) (addR met' nm).2) := hd
            have hal := addR_len met' nm
            clear hc hx hd hsz he hns
            generalize deviceE nl met' nm [fr, to] = D at *
            generalize (addR met' nm).2 = met2 at *
            have hz2 : (wr.alloc (.cells #[.string nm, .string fr, .string to, .bool bk, .bool op] 82)).heap.size = wr.heap.size + 1 := World.size_alloc _ _
            have e2 := Blk.new wr #[.string nm, .string fr, .string to, .bool bk, .bool op] 82
            have n2 := hbx.out.alloc (.cells #[.string nm, .string fr, .string to, .bool bk, .bool op] 82)
            rw [← hz2] at HC
            generalize hW2 : wr.alloc (.cells #[.string nm, .string fr, .string to, .bool bk, .bool op] 82) = W2 at *
            have x0 := n2.cell 0 rfl
            have x1 := n2.cell 1 rfl
            have x2 := n2.cell 2 rfl
            have x3 := n2.cell 3 rfl
            have x4 := n2.cell 4 rfl
            have x5 := n2.cell 5 rfl
            have z0 := e2.cell 0 rfl
            have z1 := e2.cell 1 rfl
            have z2 := e2.cell 2 rfl
            clear e2 n2 hz2
            go_wp2_with fail
            refine HC.out.mono ?_; rintro e w4 ⟨rfl, hn4, hb4, hx4, he4⟩
            have HNS4 := Lib.hid hn4
            have HB4 := Lib.hid hb4
            have HX4 := Lib.hid hx4
            clear hn4 hb4 hx4 HC x0 x1 x2 x3 x4 x5 z0 z1 z2 c0 c1 c2 c3 c4 hW2 hbl hbx
            have y0 := he4.cell 1 rfl
            have y1 := he4.cell 2 rfl
            clear he4
            have HTE : Hid (NSw.test ⟨nm, fr, to, bk, op⟩ = if (fr.toList == to.toList) = true then 3 else 0) := rfl
            generalize NSw.test ⟨nm, fr, to, bk, op⟩ = T at *
            by_cases hD : D = 0
            ·
              have g1 : (D != 0) = false := by simp [hD]
              have HD2 := Lib.hid (HDR.out.trans (if_neg (fun h => h hD)))
              clear hD HDR
              cases hq : (fr.toList == to.toList)
              ·
                rw [hq] at HTE
                have HR : Hid (devAll nl NSw.name (fun x => [x.a, x.b]) NSw.test (sws.drop (k + 1)) met2 = SA) := by show _ = _; rw [HD2.out, HTE.out]; simp
                go_wp2_with fail
                go_roundw
                case rel => exact ⟨k + 1, met2, hlt, by go_num, HR, HNS4, HB4, HX4, by omega⟩
                case measure => simp [intOf]; omega
              ·
                rw [hq] at HTE
                have HR : Hid (E = 3) := by show _ = _; rw [HE2.out, HD2.out, HTE.out]; simp
                go_wp2_with fail
                go_ret
                exact ⟨by rw [HR.out]; rfl, (HB0.out).trans (HB4.out.mono hxb0)⟩
            ·
              have g1 : (D != 0) = true := by simp [hD]
              have HR : Hid (E = D) := by show _ = _; rw [HE2.out, HDR.out, if_pos hD, if_pos hD]
              clear hD HDR
              go_wp2_with fail
              go_ret
              exact ⟨by rw [HR.out]; rfl, (HB0.out).trans (HB4.out.mono hxb0)⟩
          ·
            have hkn : sws.drop k = [] := List.drop_eq_nil_of_le (by rw [hS]; omega)
            have HA0 : Hid (SA = (0, met')) := by show _ = _; rw [← he.out, hkn]; rfl
            clear hkn he
            have HE3 : Hid (E = if BA.1 ≠ 0 then BA.1 else srcE ⟨nl, sws, brs, gens, loads, stores⟩ BA.2) := by show _ = _; rw [HE2.out, HA0.out]; rfl
            rw [HA0.out] at HBA
            clear HE2 HSA HA0
            have HE2 := HE3
            clear HE3
            have x2 := hbx.out.cell 2 rfl
            go_wp2_with fail
            have hm2 : met'.length ≤ 56 := by omega
            clear x2 hk hlt
            go_loopw [61] (fun i wr => ∃ (k : Nat) (met' : List ByteArray), k ≤ bn ∧ i = .int .i64 k ∧ Hid (devAll nl NBr.name (fun x => [x.fr, x.to]) NBr.test (brs.drop k) met' = BA) ∧ Hid (NS b met' wr) ∧ Hid (Below b W3 wr) ∧ Hid (Blk wr w.heap.size #[.slice na nn nc, .slice sa sn sc, .slice ba bn bc, .slice ga gn gc, .slice la ln lc, .slice ta tn tc] 29) ∧ met'.length ≤ 56 + k) (fun i _ => bn - (intOf i).toNat)
            case atStart => exact ⟨0, met', Nat.zero_le _, rfl, HBA, hns, hbl, hbx, by omega⟩
            case round =>
              clear hns hbl hbx hml
              obtain ⟨k, met', hk, rfl, he, hns, hbl, hbx, hml⟩ := hrel
              by_cases hlt : k < bn
              ·
                have hlk : k < brs.length := by rw [hB]; exact hlt
                obtain ⟨x, hx⟩ : ∃ x, brs[k]? = some x := ⟨_, List.getElem?_eq_getElem hlk⟩
                have hr := (R2.out.low p2 hbl.out).addr (by omega)
                obtain ⟨g, off, cap', hvv, _, _, _, hc⟩ := hr
                simp only [Value.slice.injEq] at hvv
                obtain ⟨rfl, _, rfl⟩ := hvv
                obtain ⟨c0, c1, c2, c3, c4, c5, c6, c7, c8⟩ := br_cells hc hx
                have hd := devAll_drop (nl := nl) (name := NBr.name) (ends := fun x => [x.fr, x.to]) (test := NBr.test) (met := met') hx
                have hsz := f2 x (List.mem_of_getElem? hx)
                rw [he.out] at hd
                obtain ⟨nm, fr, to, xx, tap, sh, lim, shrt, hold⟩ := x
                simp only at c0 c1 c2 c3 c4 c5 c6 c7 c8 hd hsz
                have HC := Lib.hid (HD.out nm met' fr to #[.string nm, .string fr, .string to, .int .i64 xx, .int .i64 tap, .int .i64 sh, .int .i64 lim, .int .i64 shrt, .int .i64 hold] 36 wr hbl.out hns.out hbx.out (by decide) hsz (by omega))
                have HDR : Hid (BA = if deviceE nl met' nm [fr, to] ≠ 0 then (deviceE nl met' nm [fr, to], (addR met' nm).2) else if NBr.test ⟨nm, fr, to, xx, tap, sh, lim, shrt, hold⟩ ≠ 0 then (NBr.test ⟨nm, fr, to, xx, tap, sh, lim, shrt, hold⟩, (addR met' nm).2) else devAll nl NBr.name (fun x => [x.fr, x.to]) NBr.test (brs.drop (k + 1)) (addR met' nm).2) := hd
                have hal := addR_len met' nm
                clear hc hx hd hsz he hns
                generalize deviceE nl met' nm [fr, to] = D at *
                generalize (addR met' nm).2 = met2 at *
                have hz2 : (wr.alloc (.cells #[.string nm, .string fr, .string to, .int .i64 xx, .int .i64 tap, .int .i64 sh, .int .i64 lim, .int .i64 shrt, .int .i64 hold] 36)).heap.size = wr.heap.size + 1 := World.size_alloc _ _
                have e2 := Blk.new wr #[.string nm, .string fr, .string to, .int .i64 xx, .int .i64 tap, .int .i64 sh, .int .i64 lim, .int .i64 shrt, .int .i64 hold] 36
                have n2 := hbx.out.alloc (.cells #[.string nm, .string fr, .string to, .int .i64 xx, .int .i64 tap, .int .i64 sh, .int .i64 lim, .int .i64 shrt, .int .i64 hold] 36)
                rw [← hz2] at HC
                generalize hW2 : wr.alloc (.cells #[.string nm, .string fr, .string to, .int .i64 xx, .int .i64 tap, .int .i64 sh, .int .i64 lim, .int .i64 shrt, .int .i64 hold] 36) = W2 at *
                have x0 := n2.cell 0 rfl
                have x1 := n2.cell 1 rfl
                have x2 := n2.cell 2 rfl
                have x3 := n2.cell 3 rfl
                have x4 := n2.cell 4 rfl
                have x5 := n2.cell 5 rfl
                have z0 := e2.cell 0 rfl
                have z1 := e2.cell 1 rfl
                have z2 := e2.cell 2 rfl
                clear e2 n2 hz2
                go_wp2_with fail
                refine HC.out.mono ?_; rintro e w4 ⟨rfl, hn4, hb4, hx4, he4⟩
                have HNS4 := Lib.hid hn4
                have HB4 := Lib.hid hb4
                have HX4 := Lib.hid hx4
                clear hn4 hb4 hx4 HC x0 x1 x2 x3 x4 x5 z0 z1 z2 c0 c1 c2 c3 c4 c5 c6 c7 c8 hW2 hbl hbx
                have y0 := he4.cell 0 rfl
                have y1 := he4.cell 1 rfl
                have y2 := he4.cell 2 rfl
                have y3 := he4.cell 3 rfl
                have y4 := he4.cell 4 rfl
                have y5 := he4.cell 5 rfl
                have y6 := he4.cell 6 rfl
                have y7 := he4.cell 7 rfl
                have y8 := he4.cell 8 rfl
                clear he4
                have HTE : Hid (NBr.test ⟨nm, fr, to, xx, tap, sh, lim, shrt, hold⟩ = if (fr.toList == to.toList) = true then 3 else brE xx tap sh lim shrt hold) := rfl
                have HBC := Lib.hid (HBR.out nm fr to xx tap sh lim shrt hold)
                generalize NBr.test ⟨nm, fr, to, xx, tap, sh, lim, shrt, hold⟩ = T at *
                generalize brE xx tap sh lim shrt hold = F at *
                by_cases hD : D = 0
                ·
                  have g1 : (D != 0) = false := by simp [hD]
                  have HD2 := Lib.hid (HDR.out.trans (if_neg (fun h => h hD)))
                  clear hD HDR
                  cases hq : (fr.toList == to.toList)
                  ·
                    rw [hq] at HTE
                    have HTF : Hid (T = F) := HTE.out
                    clear HTE
                    go_wp2_with fail
                    refine (HBC.out _).mono ?_; rintro e w5 ⟨rfl, hb5⟩
                    have HNS5 := Lib.hid (HNS4.out.below hb5)
                    have HX5 := Lib.hid (below_blk hb5 HX4.out HX4.out.lt)
                    have HB5 := Lib.hid (HB4.out.trans (hb5.mono (Nat.le_of_lt (Nat.lt_of_lt_of_le (by obtain ⟨_, _, _, h⟩ := HNS4.out; omega) (Nat.le_refl _)))))
                    clear HNS4 HX4 HB4 hb5 y0 y1 y2 y3 y4 y5 y6 y7 y8
                    have HNS4 := HNS5
                    have HX4 := HX5
                    have HB4 := HB5
                    clear HNS5 HX5 HB5
                    by_cases hF : F = 0
                    ·
                      have g2 : (F != 0) = false := by simp [hF]
                      have HTE : Hid (T = 0) := HTF.out.trans hF
                      clear hF
                      have HR : Hid (devAll nl NBr.name (fun x => [x.fr, x.to]) NBr.test (brs.drop (k + 1)) met2 = BA) := by show _ = _; rw [HD2.out, HTE.out]; simp
                      go_wp2_with fail
                      go_roundw
                      case rel => exact ⟨k + 1, met2, hlt, by go_num, HR, HNS4, HB4, HX4, by omega⟩
                      case measure => simp [intOf]; omega
                    ·
                      have g2 : (F != 0) = true := by simp [hF]
                      have HR : Hid (E = F) := by show _ = _; rw [HE2.out, HD2.out, HTF.out, if_pos hF, if_pos hF]
                      clear hF
                      go_wp2_with fail
                      go_ret
                      exact ⟨by rw [HR.out]; rfl, (HB0.out).trans (HB4.out.mono hxb0)⟩
                  ·
                    rw [hq] at HTE
                    have HR : Hid (E = 3) := by show _ = _; rw [HE2.out, HD2.out, HTE.out]; simp
                    go_wp2_with fail
                    go_ret
                    exact ⟨by rw [HR.out]; rfl, (HB0.out).trans (HB4.out.mono hxb0)⟩
                ·
                  have g1 : (D != 0) = true := by simp [hD]
                  have HR : Hid (E = D) := by show _ = _; rw [HE2.out, HDR.out, if_pos hD, if_pos hD]
                  clear hD HDR
                  go_wp2_with fail
                  go_ret
                  exact ⟨by rw [HR.out]; rfl, (HB0.out).trans (HB4.out.mono hxb0)⟩
              ·
                have hkn : brs.drop k = [] := List.drop_eq_nil_of_le (by rw [hB]; omega)
                have HA0 : Hid (BA = (0, met')) := by show _ = _; rw [← he.out, hkn]; rfl
                clear hkn he
                have HE3 : Hid (E = srcE ⟨nl, sws, brs, gens, loads, stores⟩ met') := by show _ = _; rw [HE2.out, HA0.out]; rfl
                clear HE2 HBA HA0
                have hm3 : met'.length ≤ 200 := by omega
                have HSC := Lib.hid (HSO2.out b met' wr (HRW.out.low HLB.out hbl.out) HLB.out hns.out hm3 z3 z4 z5)
                have x0 := hbx.out.cell 0 rfl
                have x1 := hbx.out.cell 1 rfl
                have x2 := hbx.out.cell 2 rfl
                have x3 := hbx.out.cell 3 rfl
                have x4 := hbx.out.cell 4 rfl
                have x5 := hbx.out.cell 5 rfl
                generalize srcE ⟨nl, sws, brs, gens, loads, stores⟩ met' = SE at *
                go_wp2_with fail
                refine HSC.out.mono ?_; rintro e w4 ⟨rfl, hb4⟩
                have HB4 := Lib.hid (hbl.out.trans hb4)
                clear x0 x1 x2 x3 x4 x5 hb4
                go_wp2_with fail
                go_ret
                exact ⟨by rw [HE3.out]; rfl, (HB0.out).trans (HB4.out.mono hxb0)⟩
  · subst hz
    have HR : Hid (E = 2) := HE2.out
    go_wp2_with fail
    go_ret
    exact ⟨by rw [HR.out]; rfl, HB0.out⟩
end Go.Proofs.Ytplebibabcdipaa
