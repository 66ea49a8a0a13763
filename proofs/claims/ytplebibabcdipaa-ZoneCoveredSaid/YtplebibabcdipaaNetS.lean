/- netmodel.sources. -/
import Derived.Test.YtplebibabcdipaaNetC
namespace Go.Proofs.Ytplebibabcdipaa
open Go.RowKit



set_option maxHeartbeats 4000000 in
set_option maxRecDepth 100000 in
theorem sources_c (b : Nat) (x0 : NAddr) (n : Net) (met : List ByteArray) (w : World) (hr : NetR w x0 n) (hwf : n.Wf) (hlow : x0.Low n b) (hns : NS b met w) (hm : met.length ≤ 200) (hg : n.gens.length ≤ 10) (hl : n.loads.length ≤ 12) (ht : n.stores.length ≤ 4) :
    Calls Try.prog 83 #[x0.val n, .pointer (some ⟨b, 0, none⟩)] w fun e w' => e = .returned (.int .i64 (srcE n met)) ∧ Below b w w' := by
  obtain ⟨na, nc, sa, sc, ba, bc, ga, gc, la, lc, ta, tc⟩ := x0
  obtain ⟨nl, sws, brs, gens, loads, stores⟩ := n
  obtain ⟨r0, r1, r2, r3, r4, r5⟩ := hr
  obtain ⟨f0, f1, f2, f3, f4, f5⟩ := hwf
  obtain ⟨o0, o1, o2, o3, o4, o5⟩ := hlow
  simp only at *
  have H1 : Hid (∀ n lo hi W, Calls Try.prog 112 #[.int .i64 n, .int .i64 lo, .int .i64 hi] W fun e w' => e = .returned (.bool (withinB n lo hi)) ∧ W = w') := fun n lo hi W => within_c n lo hi W
  obtain ⟨GA, hGA⟩ : ∃ G, devAll nl NGen.name (fun x => [x.node]) NGen.test gens met = G := ⟨_, rfl⟩
  obtain ⟨LA, hLA⟩ : ∃ G, devAll nl NLoad.name (fun x => [x.node]) NLoad.test loads GA.2 = G := ⟨_, rfl⟩
  obtain ⟨SA, hSA⟩ : ∃ G, devAll nl NStore.name (fun x => [x.node]) NStore.test stores LA.2 = G := ⟨_, rfl⟩
  have HE2 : Hid (srcE ⟨nl, sws, brs, gens, loads, stores⟩ met = if GA.1 ≠ 0 then GA.1 else if LA.1 ≠ 0 then LA.1 else SA.1) := by show _ = _; rw [← hSA, ← hLA, ← hGA]; rfl
  have HGA := Lib.hid hGA
  have HLA := Lib.hid hLA
  have HSA := Lib.hid hSA
  clear hGA hLA hSA
  generalize srcE ⟨nl, sws, brs, gens, loads, stores⟩ met = E at *
  have hb : b < w.heap.size := by obtain ⟨_, _, _, h⟩ := hns; omega
  obtain ⟨nn, hN⟩ : ∃ n, nl.length = n := ⟨_, rfl⟩
  obtain ⟨sn, hS⟩ : ∃ n, sws.length = n := ⟨_, rfl⟩
  obtain ⟨bn, hB⟩ : ∃ n, brs.length = n := ⟨_, rfl⟩
  obtain ⟨gn, hG⟩ : ∃ n, gens.length = n := ⟨_, rfl⟩
  obtain ⟨ln, hL⟩ : ∃ n, loads.length = n := ⟨_, rfl⟩
  obtain ⟨tn, hT⟩ : ∃ n, stores.length = n := ⟨_, rfl⟩
  rw [hN] at r0
  rw [hG] at r3 hg
  rw [hL] at r4 hl
  rw [hT] at r5 ht
  show Calls _ _ #[netV na nl.length nc sa sws.length sc ba brs.length bc ga gens.length gc la loads.length lc ta stores.length tc, _] _ _
  rw [hN, hS, hB, hG, hL, hT]
  have R0 := Lib.hid r0
  have R3 := Lib.hid r3
  have R4 := Lib.hid r4
  have R5 := Lib.hid r5
  have B1 : Hid (Below b w (w.alloc (.cells #[.slice na nn nc, .slice sa sn sc, .slice ba bn bc, .slice ga gn gc, .slice la ln lc, .slice ta tn tc] 29))) := (Below.refl b w).alloc (Nat.le_of_lt hb) _
  have K1 : Hid (Blk (w.alloc (.cells #[.slice na nn nc, .slice sa sn sc, .slice ba bn bc, .slice ga gn gc, .slice la ln lc, .slice ta tn tc] 29)) w.heap.size #[.slice na nn nc, .slice sa sn sc, .slice ba bn bc, .slice ga gn gc, .slice la ln lc, .slice ta tn tc] 29) := Blk.new _ _ _
  have N1 : Hid (NS b met (w.alloc (.cells #[.slice na nn nc, .slice sa sn sc, .slice ba bn bc, .slice ga gn gc, .slice la ln lc, .slice ta tn tc] 29))) := hns.below (belowA (Below.refl _ _) _)
  have hxb : w.heap.size ≠ b := by omega
  have HD : Hid (∀ (s : ByteArray) (met' : List ByteArray) (nd : ByteArray) (ec : Array Value) (et : TypeId) (wr : World), Below b w wr → NS b met' wr → Blk wr w.heap.size #[.slice na nn nc, .slice sa sn sc, .slice ba bn bc, .slice ga gn gc, .slice la ln lc, .slice ta tn tc] 29 → et ≠ 9 → s.size ≤ 9223372036854775807 → met'.length ≤ 1000 →
      Calls Try.prog 81 #[netV na nn nc sa sn sc ba bn bc ga gn gc la ln lc ta tn tc, .pointer (some ⟨b, 0, none⟩), .string s, .slice (some ⟨wr.heap.size + 1, 0, none⟩) 1 1] ((wr.alloc (.cells ec et)).alloc (.cells #[.string nd] 9)) fun e w' =>
        e = .returned (.int .i64 (deviceE nl met' s [nd])) ∧ NS b (addR met' s).2 w' ∧ Below b w w' ∧ Blk w' w.heap.size #[.slice na nn nc, .slice sa sn sc, .slice ba bn bc, .slice ga gn gc, .slice la ln lc, .slice ta tn tc] 29 ∧ Blk w' wr.heap.size ec et) :=
    fun s met' nd ec et wr h1 h2 h3 h4 h5 h6 => dev_c na nn nc sa sn sc ba bn bc ga gn gc la ln lc ta tn tc nl met' s b w.heap.size 1 [nd] ec et _ w wr hN r0 o0 h1 h2 h3 hxb h4 h5 h6 rfl (by decide) (by decide)
  clear hns r0 r1 r2 r3 r4 r5
  go_enter Try.func83, Try.ntmps83
  go_wp2_with fail
  generalize w.alloc (.cells #[.slice na nn nc, .slice sa sn sc, .slice ba bn bc, .slice ga gn gc, .slice la ln lc, .slice ta tn tc] 29) = W1 at *
  have x3 := K1.out.cell 3 rfl
  go_wp2_with fail
  go_loopw [17] (fun i wr => ∃ (k : Nat) (met' : List ByteArray), k ≤ gn ∧ i = .int .i64 k ∧ Hid (devAll nl NGen.name (fun x => [x.node]) NGen.test (gens.drop k) met' = GA) ∧ Hid (NS b met' wr) ∧ Hid (Below b w wr) ∧ Hid (Blk wr w.heap.size #[.slice na nn nc, .slice sa sn sc, .slice ba bn bc, .slice ga gn gc, .slice la ln lc, .slice ta tn tc] 29) ∧ met'.length ≤ 200 + k) (fun i _ => gn - (intOf i).toNat)
  case atStart => exact ⟨0, met, Nat.zero_le _, rfl, HGA, N1, B1, K1, by omega⟩
  case round =>
    obtain ⟨k, met', hk, rfl, he, hns, hbl, hbx, hml⟩ := hrel
    clear x3
    by_cases hlt : k < gn
    ·
      have hlk : k < gens.length := by rw [hG]; exact hlt
      obtain ⟨x, hx⟩ : ∃ x, gens[k]? = some x := ⟨_, List.getElem?_eq_getElem hlk⟩
      have hr := (R3.out.low o3 hbl.out).addr (by omega)
      obtain ⟨g, off, cap', hvv, _, _, _, hc⟩ := hr
      simp only [Value.slice.injEq] at hvv
      obtain ⟨rfl, _, rfl⟩ := hvv
      obtain ⟨c0, c1, c2, c3, c4⟩ := gen_cells hc hx
      have hd := devAll_drop (nl := nl) (name := NGen.name) (ends := fun x => [x.node]) (test := NGen.test) (met := met') hx
      have hsz := f3 x (List.mem_of_getElem? hx)
      rw [he.out] at hd
      obtain ⟨nm, nd, le, mo, ra⟩ := x
      simp only at c0 c1 c2 c3 c4 hd hsz
      have HC := Lib.hid (HD.out nm met' nd #[.string nm, .string nd, .int .i64 le, .int .i64 mo, .int .i64 ra] 140 wr hbl.out hns.out hbx.out (by decide) hsz (by omega))
      have HDR : Hid (GA = if deviceE nl met' nm [nd] ≠ 0 then (deviceE nl met' nm [nd], (addR met' nm).2) else if NGen.test ⟨nm, nd, le, mo, ra⟩ ≠ 0 then (NGen.test ⟨nm, nd, le, mo, ra⟩, (addR met' nm).2) else devAll nl NGen.name (fun x => [x.node]) NGen.test (gens.drop (k + 1)) (addR met' nm).2) := hd
      have hal := addR_len met' nm
      clear hc hx hd hsz he hns
      generalize deviceE nl met' nm [nd] = D at *
      generalize (addR met' nm).2 = met2 at *
      have hz2 : (wr.alloc (.cells #[.string nm, .string nd, .int .i64 le, .int .i64 mo, .int .i64 ra] 140)).heap.size = wr.heap.size + 1 := World.size_alloc _ _
      have e2 := Blk.new wr #[.string nm, .string nd, .int .i64 le, .int .i64 mo, .int .i64 ra] 140
      have n2 := hbx.out.alloc (.cells #[.string nm, .string nd, .int .i64 le, .int .i64 mo, .int .i64 ra] 140)
      rw [← hz2] at HC
      generalize hW2 : wr.alloc (.cells #[.string nm, .string nd, .int .i64 le, .int .i64 mo, .int .i64 ra] 140) = W2 at *
      have x0 := n2.cell 0 rfl
      have x1 := n2.cell 1 rfl
      have x2 := n2.cell 2 rfl
      have x3 := n2.cell 3 rfl
      have x4 := n2.cell 4 rfl
      have x5 := n2.cell 5 rfl
      have z0 := e2.cell 0 rfl
      have z1 := e2.cell 1 rfl
      clear e2 n2 hz2
      go_wp2_with fail
      refine HC.out.mono ?_; rintro e w4 ⟨rfl, hn4, hb4, hx4, he4⟩
      have HNS4 := Lib.hid hn4
      have HB4 := Lib.hid hb4
      have HX4 := Lib.hid hx4
      clear hn4 hb4 hx4 HC x0 x1 x2 x3 x4 x5 z0 z1 c0 c1 c2 c3 c4 hW2 hbl hbx
      have y0 := he4.cell 2 rfl
      have y1 := he4.cell 3 rfl
      have y2 := he4.cell 4 rfl
      clear he4
      have HTE : Hid (NGen.test ⟨nm, nd, le, mo, ra⟩ = if (withinB le 0 100000 && (withinB mo le 100000 && withinB ra 0 100000)) = true then 0 else 4) := rfl
      have HW1 := Lib.hid (H1.out le 0 100000)
      have HW2 := Lib.hid (H1.out mo le 100000)
      have HW3 := Lib.hid (H1.out ra 0 100000)
      generalize NGen.test ⟨nm, nd, le, mo, ra⟩ = T at *
      generalize withinB le 0 100000 = q1 at *
      generalize withinB mo le 100000 = q2 at *
      generalize withinB ra 0 100000 = q3 at *
      by_cases hD : D = 0
      ·
        have g1 : (D != 0) = false := by simp [hD]
        have HD2 := Lib.hid (HDR.out.trans (if_neg (fun h => h hD)))
        clear hD HDR
        cases q1
        ·
          go_wp2_with fail
          refine (HW1.out _).mono ?_; rintro e w' ⟨rfl, rfl⟩
          have HR : Hid (E = 4) := by show _ = _; rw [HE2.out, HD2.out, HTE.out]; simp
          go_wp2_with fail
          go_ret
          exact ⟨by rw [HR.out]; rfl, HB4.out⟩
        cases q2
        ·
          go_wp2_with fail
          refine (HW1.out _).mono ?_; rintro e w' ⟨rfl, rfl⟩
          go_wp2_with fail
          refine (HW2.out _).mono ?_; rintro e w' ⟨rfl, rfl⟩
          have HR : Hid (E = 4) := by show _ = _; rw [HE2.out, HD2.out, HTE.out]; simp
          go_wp2_with fail
          go_ret
          exact ⟨by rw [HR.out]; rfl, HB4.out⟩
        cases q3
        ·
          go_wp2_with fail
          refine (HW1.out _).mono ?_; rintro e w' ⟨rfl, rfl⟩
          go_wp2_with fail
          refine (HW2.out _).mono ?_; rintro e w' ⟨rfl, rfl⟩
          go_wp2_with fail
          refine (HW3.out _).mono ?_; rintro e w' ⟨rfl, rfl⟩
          have HR : Hid (E = 4) := by show _ = _; rw [HE2.out, HD2.out, HTE.out]; simp
          go_wp2_with fail
          go_ret
          exact ⟨by rw [HR.out]; rfl, HB4.out⟩
        ·
          go_wp2_with fail
          refine (HW1.out _).mono ?_; rintro e w' ⟨rfl, rfl⟩
          go_wp2_with fail
          refine (HW2.out _).mono ?_; rintro e w' ⟨rfl, rfl⟩
          go_wp2_with fail
          refine (HW3.out _).mono ?_; rintro e w' ⟨rfl, rfl⟩
          have HR : Hid (devAll nl NGen.name (fun x => [x.node]) NGen.test (gens.drop (k + 1)) met2 = GA) := by show _ = _; rw [HD2.out, HTE.out]; simp
          go_wp2_with fail
          go_roundw
          case rel => exact ⟨k + 1, met2, hlt, by go_num, HR, HNS4, HB4, HX4, by omega⟩
          case measure => simp [intOf]; omega
      ·
        have g1 : (D != 0) = true := by simp [hD]
        have HR : Hid (E = D) := by show _ = _; rw [HE2.out, HDR.out, if_pos hD, if_pos hD]
        clear hD HDR
        go_wp2_with fail
        go_ret
        exact ⟨by rw [HR.out]; rfl, HB4.out⟩
    ·
      have hkn : gens.drop k = [] := List.drop_eq_nil_of_le (by rw [hG]; omega)
      have HA0 : Hid (GA = (0, met')) := by show _ = _; rw [← he.out, hkn]; rfl
      clear hkn he
      have HE3 : Hid (E = if LA.1 ≠ 0 then LA.1 else SA.1) := by show _ = _; rw [HE2.out, HA0.out]; rfl
      rw [HA0.out] at HLA
      clear HE2 HGA HA0
      have HE2 := HE3
      clear HE3
      have x4 := hbx.out.cell 4 rfl
      go_wp2_with fail
      have hm1 : met'.length ≤ 210 := by omega
      clear x4 hk hlt
      go_loopw [54] (fun i wr => ∃ (k : Nat) (met' : List ByteArray), k ≤ ln ∧ i = .int .i64 k ∧ Hid (devAll nl NLoad.name (fun x => [x.node]) NLoad.test (loads.drop k) met' = LA) ∧ Hid (NS b met' wr) ∧ Hid (Below b w wr) ∧ Hid (Blk wr w.heap.size #[.slice na nn nc, .slice sa sn sc, .slice ba bn bc, .slice ga gn gc, .slice la ln lc, .slice ta tn tc] 29) ∧ met'.length ≤ 210 + k) (fun i _ => ln - (intOf i).toNat)
      case atStart => exact ⟨0, met', Nat.zero_le _, rfl, HLA, hns, hbl, hbx, by omega⟩
      case round =>
        clear hns hbl hbx hml
        obtain ⟨k, met', hk, rfl, he, hns, hbl, hbx, hml⟩ := hrel
        by_cases hlt : k < ln
        ·
          have hlk : k < loads.length := by rw [hL]; exact hlt
          obtain ⟨x, hx⟩ : ∃ x, loads[k]? = some x := ⟨_, List.getElem?_eq_getElem hlk⟩
          have hr := (R4.out.low o4 hbl.out).addr (by omega)
          obtain ⟨g, off, cap', hvv, _, _, _, hc⟩ := hr
          simp only [Value.slice.injEq] at hvv
          obtain ⟨rfl, _, rfl⟩ := hvv
          obtain ⟨c0, c1, c2⟩ := load_cells hc hx
          have hd := devAll_drop (nl := nl) (name := NLoad.name) (ends := fun x => [x.node]) (test := NLoad.test) (met := met') hx
          have hsz := f4 x (List.mem_of_getElem? hx)
          rw [he.out] at hd
          obtain ⟨nm, nd, le⟩ := x
          simp only at c0 c1 c2 hd hsz
          have HC := Lib.hid (HD.out nm met' nd #[.string nm, .string nd, .int .i64 le] 176 wr hbl.out hns.out hbx.out (by decide) hsz (by omega))
          have HDR : Hid (LA = if deviceE nl met' nm [nd] ≠ 0 then (deviceE nl met' nm [nd], (addR met' nm).2) else if NLoad.test ⟨nm, nd, le⟩ ≠ 0 then (NLoad.test ⟨nm, nd, le⟩, (addR met' nm).2) else devAll nl NLoad.name (fun x => [x.node]) NLoad.test (loads.drop (k + 1)) (addR met' nm).2) := hd
          have hal := addR_len met' nm
          clear hc hx hd hsz he hns
          generalize deviceE nl met' nm [nd] = D at *
          generalize (addR met' nm).2 = met2 at *
          have hz2 : (wr.alloc (.cells #[.string nm, .string nd, .int .i64 le] 176)).heap.size = wr.heap.size + 1 := World.size_alloc _ _
          have e2 := Blk.new wr #[.string nm, .string nd, .int .i64 le] 176
          have n2 := hbx.out.alloc (.cells #[.string nm, .string nd, .int .i64 le] 176)
          rw [← hz2] at HC
          generalize hW2 : wr.alloc (.cells #[.string nm, .string nd, .int .i64 le] 176) = W2 at *
          have x0 := n2.cell 0 rfl
          have x1 := n2.cell 1 rfl
          have x2 := n2.cell 2 rfl
          have x3 := n2.cell 3 rfl
          have x4 := n2.cell 4 rfl
          have x5 := n2.cell 5 rfl
          have z0 := e2.cell 0 rfl
          have z1 := e2.cell 1 rfl
          clear e2 n2 hz2
          go_wp2_with fail
          refine HC.out.mono ?_; rintro e w4 ⟨rfl, hn4, hb4, hx4, he4⟩
          have HNS4 := Lib.hid hn4
          have HB4 := Lib.hid hb4
          have HX4 := Lib.hid hx4
          clear hn4 hb4 hx4 HC x0 x1 x2 x3 x4 x5 z0 z1 c0 c1 c2 hW2 hbl hbx
          have y0 := he4.cell 2 rfl
          clear he4
          have HTE : Hid (NLoad.test ⟨nm, nd, le⟩ = if withinB le 0 100000 = true then 0 else 4) := rfl
          have HW1 := Lib.hid (H1.out le 0 100000)
          generalize NLoad.test ⟨nm, nd, le⟩ = T at *
          generalize withinB le 0 100000 = q1 at *
          by_cases hD : D = 0
          ·
            have g1 : (D != 0) = false := by simp [hD]
            have HD2 := Lib.hid (HDR.out.trans (if_neg (fun h => h hD)))
            clear hD HDR
            cases q1
            ·
              go_wp2_with fail
              refine (HW1.out _).mono ?_; rintro e w' ⟨rfl, rfl⟩
              have HR : Hid (E = 4) := by show _ = _; rw [HE2.out, HD2.out, HTE.out]; simp
              go_wp2_with fail
              go_ret
              exact ⟨by rw [HR.out]; rfl, HB4.out⟩
            ·
              go_wp2_with fail
              refine (HW1.out _).mono ?_; rintro e w' ⟨rfl, rfl⟩
              have HR : Hid (devAll nl NLoad.name (fun x => [x.node]) NLoad.test (loads.drop (k + 1)) met2 = LA) := by show _ = _; rw [HD2.out, HTE.out]; simp
              go_wp2_with fail
              go_roundw
              case rel => exact ⟨k + 1, met2, hlt, by go_num, HR, HNS4, HB4, HX4, by omega⟩
              case measure => simp [intOf]; omega
          ·
            have g1 : (D != 0) = true := by simp [hD]
            have HR : Hid (E = D) := by show _ = _; rw [HE2.out, HDR.out, if_pos hD, if_pos hD]
            clear hD HDR
            go_wp2_with fail
            go_ret
            exact ⟨by rw [HR.out]; rfl, HB4.out⟩
        ·
          have hkn : loads.drop k = [] := List.drop_eq_nil_of_le (by rw [hL]; omega)
          have HA0 : Hid (LA = (0, met')) := by show _ = _; rw [← he.out, hkn]; rfl
          clear hkn he
          have HE3 : Hid (E = SA.1) := by show _ = _; rw [HE2.out, HA0.out]; rfl
          rw [HA0.out] at HSA
          clear HE2 HLA HA0
          have HE2 := HE3
          clear HE3
          have x5 := hbx.out.cell 5 rfl
          go_wp2_with fail
          have hm2 : met'.length ≤ 222 := by omega
          clear x5 hk hlt
          go_loopw [77] (fun i wr => ∃ (k : Nat) (met' : List ByteArray), k ≤ tn ∧ i = .int .i64 k ∧ Hid (devAll nl NStore.name (fun x => [x.node]) NStore.test (stores.drop k) met' = SA) ∧ Hid (NS b met' wr) ∧ Hid (Below b w wr) ∧ Hid (Blk wr w.heap.size #[.slice na nn nc, .slice sa sn sc, .slice ba bn bc, .slice ga gn gc, .slice la ln lc, .slice ta tn tc] 29) ∧ met'.length ≤ 222 + k) (fun i _ => tn - (intOf i).toNat)
          case atStart => exact ⟨0, met', Nat.zero_le _, rfl, HSA, hns, hbl, hbx, by omega⟩
          case round =>
            clear hns hbl hbx hml
            obtain ⟨k, met', hk, rfl, he, hns, hbl, hbx, hml⟩ := hrel
            by_cases hlt : k < tn
            ·
              have hlk : k < stores.length := by rw [hT]; exact hlt
              obtain ⟨x, hx⟩ : ∃ x, stores[k]? = some x := ⟨_, List.getElem?_eq_getElem hlk⟩
              have hr := (R5.out.low o5 hbl.out).addr (by omega)
              obtain ⟨g, off, cap', hvv, _, _, _, hc⟩ := hr
              simp only [Value.slice.injEq] at hvv
              obtain ⟨rfl, _, rfl⟩ := hvv
              obtain ⟨c0, c1, c2, c3, c4⟩ := store_cells hc hx
              have hd := devAll_drop (nl := nl) (name := NStore.name) (ends := fun x => [x.node]) (test := NStore.test) (met := met') hx
              have hsz := f5 x (List.mem_of_getElem? hx)
              rw [he.out] at hd
              obtain ⟨nm, nd, le, mo, ra⟩ := x
              simp only at c0 c1 c2 c3 c4 hd hsz
              have HC := Lib.hid (HD.out nm met' nd #[.string nm, .string nd, .int .i64 le, .int .i64 mo, .int .i64 ra] 166 wr hbl.out hns.out hbx.out (by decide) hsz (by omega))
              have HDR : Hid (SA = if deviceE nl met' nm [nd] ≠ 0 then (deviceE nl met' nm [nd], (addR met' nm).2) else if NStore.test ⟨nm, nd, le, mo, ra⟩ ≠ 0 then (NStore.test ⟨nm, nd, le, mo, ra⟩, (addR met' nm).2) else devAll nl NStore.name (fun x => [x.node]) NStore.test (stores.drop (k + 1)) (addR met' nm).2) := hd
              have hal := addR_len met' nm
              clear hc hx hd hsz he hns
              generalize deviceE nl met' nm [nd] = D at *
              generalize (addR met' nm).2 = met2 at *
              have hz2 : (wr.alloc (.cells #[.string nm, .string nd, .int .i64 le, .int .i64 mo, .int .i64 ra] 166)).heap.size = wr.heap.size + 1 := World.size_alloc _ _
              have e2 := Blk.new wr #[.string nm, .string nd, .int .i64 le, .int .i64 mo, .int .i64 ra] 166
              have n2 := hbx.out.alloc (.cells #[.string nm, .string nd, .int .i64 le, .int .i64 mo, .int .i64 ra] 166)
              rw [← hz2] at HC
              generalize hW2 : wr.alloc (.cells #[.string nm, .string nd, .int .i64 le, .int .i64 mo, .int .i64 ra] 166) = W2 at *
              have x0 := n2.cell 0 rfl
              have x1 := n2.cell 1 rfl
              have x2 := n2.cell 2 rfl
              have x3 := n2.cell 3 rfl
              have x4 := n2.cell 4 rfl
              have x5 := n2.cell 5 rfl
              have z0 := e2.cell 0 rfl
              have z1 := e2.cell 1 rfl
              clear e2 n2 hz2
              go_wp2_with fail
              refine HC.out.mono ?_; rintro e w4 ⟨rfl, hn4, hb4, hx4, he4⟩
              have HNS4 := Lib.hid hn4
              have HB4 := Lib.hid hb4
              have HX4 := Lib.hid hx4
              clear hn4 hb4 hx4 HC x0 x1 x2 x3 x4 x5 z0 z1 c0 c1 c2 c3 c4 hW2 hbl hbx
              have y0 := he4.cell 2 rfl
              have y1 := he4.cell 3 rfl
              have y2 := he4.cell 4 rfl
              clear he4
              have HTE : Hid (NStore.test ⟨nm, nd, le, mo, ra⟩ = if (withinB le 0 100000 && (withinB mo 0 100000 && withinB ra 0 100000)) = true then 0 else 4) := rfl
              have HW1 := Lib.hid (H1.out le 0 100000)
              have HW2 := Lib.hid (H1.out mo 0 100000)
              have HW3 := Lib.hid (H1.out ra 0 100000)
              generalize NStore.test ⟨nm, nd, le, mo, ra⟩ = T at *
              generalize withinB le 0 100000 = q1 at *
              generalize withinB mo 0 100000 = q2 at *
              generalize withinB ra 0 100000 = q3 at *
              by_cases hD : D = 0
              ·
                have g1 : (D != 0) = false := by simp [hD]
                have HD2 := Lib.hid (HDR.out.trans (if_neg (fun h => h hD)))
                clear hD HDR
                cases q1
                ·
                  go_wp2_with fail
                  refine (HW1.out _).mono ?_; rintro e w' ⟨rfl, rfl⟩
                  have HR : Hid (E = 4) := by show _ = _; rw [HE2.out, HD2.out, HTE.out]; simp
                  go_wp2_with fail
                  go_ret
                  exact ⟨by rw [HR.out]; rfl, HB4.out⟩
                cases q2
                ·
                  go_wp2_with fail
                  refine (HW1.out _).mono ?_; rintro e w' ⟨rfl, rfl⟩
                  go_wp2_with fail
                  refine (HW2.out _).mono ?_; rintro e w' ⟨rfl, rfl⟩
                  have HR : Hid (E = 4) := by show _ = _; rw [HE2.out, HD2.out, HTE.out]; simp
                  go_wp2_with fail
                  go_ret
                  exact ⟨by rw [HR.out]; rfl, HB4.out⟩
                cases q3
                ·
                  go_wp2_with fail
                  refine (HW1.out _).mono ?_; rintro e w' ⟨rfl, rfl⟩
                  go_wp2_with fail
                  refine (HW2.out _).mono ?_; rintro e w' ⟨rfl, rfl⟩
                  go_wp2_with fail
                  refine (HW3.out _).mono ?_; rintro e w' ⟨rfl, rfl⟩
                  have HR : Hid (E = 4) := by show _ = _; rw [HE2.out, HD2.out, HTE.out]; simp
                  go_wp2_with fail
                  go_ret
                  exact ⟨by rw [HR.out]; rfl, HB4.out⟩
                ·
                  go_wp2_with fail
                  refine (HW1.out _).mono ?_; rintro e w' ⟨rfl, rfl⟩
                  go_wp2_with fail
                  refine (HW2.out _).mono ?_; rintro e w' ⟨rfl, rfl⟩
                  go_wp2_with fail
                  refine (HW3.out _).mono ?_; rintro e w' ⟨rfl, rfl⟩
                  have HR : Hid (devAll nl NStore.name (fun x => [x.node]) NStore.test (stores.drop (k + 1)) met2 = SA) := by show _ = _; rw [HD2.out, HTE.out]; simp
                  go_wp2_with fail
                  go_roundw
                  case rel => exact ⟨k + 1, met2, hlt, by go_num, HR, HNS4, HB4, HX4, by omega⟩
                  case measure => simp [intOf]; omega
              ·
                have g1 : (D != 0) = true := by simp [hD]
                have HR : Hid (E = D) := by show _ = _; rw [HE2.out, HDR.out, if_pos hD]
                clear hD HDR
                go_wp2_with fail
                go_ret
                exact ⟨by rw [HR.out]; rfl, HB4.out⟩
            ·
              have hkn : stores.drop k = [] := List.drop_eq_nil_of_le (by rw [hT]; omega)
              have HA0 : Hid (SA = (0, met')) := by show _ = _; rw [← he.out, hkn]; rfl
              clear hkn he
              have HR : Hid (E = 0) := by show _ = _; rw [HE2.out, HA0.out]
              have HB4 := hbl
              go_wp2_with fail
              go_ret
              exact ⟨by rw [HR.out]; rfl, HB4.out⟩
end Go.Proofs.Ytplebibabcdipaa
