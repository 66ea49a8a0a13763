/- The law ObserveCritical. -/
import Derived.Test.YthcddboeejbncaaPkObs12Obs13
import Derived.Deep.CutRange
import Derived.Deep.RegionHeldLaw
import Derived.IntWalk
namespace Go.Proofs.Ythcddboeejbncaa
open Go.RowKit

/-- k % n of Go, made a place. -/
theorem place_of (k : Int) (N : Nat) (h : 0 < N) : -(N : Int) < k.tmod N ∧ k.tmod N < N ∧ ∃ kk : Nat, kk < N ∧ (k.tmod N + N).tmod N = kk ∧ (k.tmod N + N) % N = kk := by
  have h1 : -(N : Int) < k.tmod N := Int.lt_tmod_of_pos k (by omega)
  have h2 : k.tmod N < N := Int.tmod_lt_of_pos k (by omega)
  refine ⟨h1, h2, ((k.tmod N + N) % N).toNat, ?_, ?_, ?_⟩
  · have := Int.emod_nonneg (k.tmod N + N) (show (N : Int) ≠ 0 by omega)
    have := Int.emod_lt_of_pos (k.tmod N + N) (show (0 : Int) < N by omega)
    omega
  · rw [Int.tmod_eq_emod_of_nonneg (by omega)]
    have := Int.emod_nonneg (k.tmod N + N) (show (N : Int) ≠ 0 by omega)
    omega
  · have := Int.emod_nonneg (k.tmod N + N) (show (N : Int) ≠ 0 by omega)
    omega
set_option maxRecDepth 100000 in
set_option maxHeartbeats 16000000 in
theorem lawObsCrit_c (x0 : NAddr) (n : Net) (lv : Value) (l0 : List MIt) (k : Int) (w : World) (hr : NetR w x0 n) (hwf : n.Wf) (hlv : Reads w lv l0.length (flat MIt.cells l0)) (hmw : ∀ x ∈ l0, x.Wf) :
    Calls Try.prog 4 #[x0.val n, lv, .int .i64 k] w fun e w' => e = .returned (.bool true) ∧ Below w.heap.size w w' := by
  obtain ⟨la2, lcap, rfl⟩ := hlv.slice
  obtain ⟨N0, hN0⟩ : ∃ k, l0.length = k := ⟨_, rfl⟩
  have HN0 := Lib.hid hN0
  have hcap : 0 < N0 → N0 ≤ lcap := fun h => by
    obtain ⟨_, _, _, hv, h1, _⟩ := hlv.addr (by omega)
    simp only [Value.slice.injEq] at hv
    obtain ⟨_, _, rfl⟩ := hv
    omega
  have hmx : N0 ≤ 9223372036854775807 := by
    rcases hlv with ⟨h, _⟩ | ⟨_, _, _, _, _, h, _⟩ <;> omega
  have HIN := Lib.hid (fun (l : List MIt) v W (hW : Below w.heap.size w W) (h : Reads W v l.length (flat MIt.cells l)) (hs : ∀ x ∈ l, x ∈ l0) (hk : l.length ≤ 10000) => (show MetIn W x0 n v l from ⟨hr.below hW, hwf, h, fun x hx => hmw x (hs x hx), hk⟩))
  have HSM := Lib.hid (fun (l : List MIt) v W (h : Reads W v l.length (flat MIt.cells l)) => smallG_c x0 n v (.slice none 0 0) l [] W h (VVal.nil W))
  have HRK := Lib.hid (fun (l : List MIt) v W (hn : n.nodes.length ≤ 8) (h : MetIn W x0 n v l) (h0 : metE n l = 0) => obsRank_ok x0 n v l W h hn h0)
  have HCR := Lib.hid (fun (l : List MIt) v W (hn : n.nodes.length ≤ 8) (h : MetIn W x0 n v l) => critical_c x0 n v l W h hn)
  rw [hN0] at hlv ⊢
  have HL0 := Lib.hid hlv
  clear hr hwf hmw hN0 hlv
  obtain ⟨na, nc, sa, sc, ba, bc, ga, gc, la, lc, ta, tc⟩ := x0
  simp only [NAddr.val] at HSM HRK HCR ⊢
  have HNN : Hid (∀ l, smallR n l [] = true → n.nodes.length ≤ 8) := fun l h => smallR_nodes h
  have B1 := Lib.hid (belowA (Below.refl w.heap.size w) (.cells #[.slice na n.nodes.length nc, .slice sa n.sws.length sc, .slice ba n.brs.length bc, .slice ga n.gens.length gc, .slice la n.loads.length lc, .slice ta n.stores.length tc] 29))
  have K1 := Lib.hid (Blk.new w #[.slice na n.nodes.length nc, .slice sa n.sws.length sc, .slice ba n.brs.length bc, .slice ga n.gens.length gc, .slice la n.loads.length lc, .slice ta n.stores.length tc] 29)
  generalize n.nodes.length = nn at *
  generalize n.sws.length = sn at *
  generalize n.brs.length = bn at *
  generalize n.gens.length = gn at *
  generalize n.loads.length = lon at *
  generalize n.stores.length = tn at *
  have HLV := Lib.hid (HL0.out.below B1.out)
  go_enter Try.func4, Try.ntmps4
  go_upto_region 1 with fail
  generalize hw1 : w.alloc (.cells #[.slice na nn nc, .slice sa sn sc, .slice ba bn bc, .slice ga gn gc, .slice la lon lc, .slice ta tn tc] 29) = w1 at *
  clear hw1
  obtain ⟨p, hp⟩ : ∃ p, w.heap.size = p := ⟨_, rfl⟩
  have HPP := Lib.hid hp
  rw [hp] at K1 ⊢
  clear hp
  go_cut [1] from 17 to 21 (fun s wx => ∃ (l' : List MIt) (N : Nat), l'.length = N ∧ N ≤ 5 ∧ (∀ x ∈ l', x ∈ l0) ∧ s = .slice la2 N lcap ∧ Hid (Reads w1 (.slice la2 N lcap) N (flat MIt.cells l')) ∧ w1 = wx)
  case first =>
    by_cases h6 : 5 < N0
    · have hc6 : 5 ≤ lcap := by have := hcap (by omega); omega
      have hm8 : (min (N0 : Int) 5).toNat = 5 := by omega
      have hlen : (l0.take 5).length = 5 := by rw [List.length_take, HN0.out]; omega
      have HT : Hid (Reads w1 (.slice la2 5 lcap) 5 (flat MIt.cells (l0.take 5))) := Reads.takeM HLV.out HN0.out (Nat.le_of_lt h6)
      have HMT : Hid (∀ x ∈ l0.take 5, x ∈ l0) := fun x hx => List.mem_of_mem_take hx
      go_wp2_with fail
      go_meet
      exact ⟨l0.take 5, 5, hlen, by omega, HMT.out, rfl, HT, rfl⟩
    · have hcc : N0 ≤ lcap := by
        rcases Nat.eq_zero_or_pos N0 with h | h
        · omega
        · exact hcap h
      have hm8 : (min (N0 : Int) 5).toNat = N0 := by omega
      have HMT : Hid (∀ x ∈ l0, x ∈ l0) := fun x hx => hx
      go_wp2_with fail
      go_meet
      exact ⟨l0, N0, HN0.out, by omega, HMT.out, rfl, HLV, rfl⟩
  case rest =>
    obtain ⟨l, N, hN, hN6, hsub, rfl, HLR, rfl⟩ := hcut
    have HN := Lib.hid hN
    have HLL : Hid (Reads w1 (.slice la2 N lcap) l.length (flat MIt.cells l)) := by show Reads _ _ _ _; rw [hN]; exact HLR.out
    have HS0 := Lib.hid (fun W (hW : Below w1.heap.size w1 W) => HSM.out l _ W (HLL.out.below hW))
    have HIL := Lib.hid (fun W (hW : Below w1.heap.size w1 W) => HIN.out l _ W (belowT B1.out hW) (HLL.out.below hW) hsub (by omega))
    have HI2 := Lib.hid (fun l' v W (hW : Below w1.heap.size w1 W) (h : Reads W v l'.length (flat MIt.cells l')) (hs : ∀ x ∈ l', x ∈ l) (hk : l'.length ≤ 10000) => HIN.out l' v W (belowT B1.out hW) h (fun x hx => hsub x (hs x hx)) hk)
    clear hN hsub HL0 HLV hcap hmx HN0 HSM HIN
    by_cases hz : N = 0
    · have q0 : ((N : Int) == 0) = true := by rw [beq_iff_eq]; omega
      subst hz
      clear HS0 HIL HI2 HLL HLR HRK HCR HNN
      go_wp2_with fail
      refine (observeWorks_c w1).mono ?_; rintro e w2 ⟨rfl, hb2⟩
      have E2 := Lib.hid hb2
      clear hb2
      go_wp2_with fail
      refine (observeWorks_c w2).mono ?_; rintro e w3 ⟨rfl, hb3⟩
      have B3 := Lib.hid (belowT B1.out (belowT E2.out hb3))
      clear hb3 E2
      go_wp2_with fail
      go_ret
      exact ⟨rfl, B3.out⟩
    · have q0 : ((N : Int) == 0) = false := by rw [beq_eq_false_iff_ne]; omega
      have hNp : 0 < N := by omega
      obtain ⟨lb, lo, rfl⟩ : ∃ lb lo, la2 = some ⟨lb, lo, none⟩ := by
        obtain ⟨b, off, cap, hv, _⟩ := HLR.out.addr hNp
        simp only [Value.slice.injEq] at hv
        exact ⟨b, off, hv.1⟩
      have hNc : N ≤ lcap := by
        obtain ⟨b, off, cap, hv, h, _⟩ := HLR.out.addr hNp
        simp only [Value.slice.injEq] at hv
        omega
      clear hz
      go_wp2_with fail
      refine (observeWorks_c w1).mono ?_; rintro e w2 ⟨rfl, hb2⟩
      have E2 := Lib.hid hb2
      have K2 := Lib.hid (below_blk hb2 K1.out K1.out.lt)
      have HX := Lib.hid (HS0.out w2 hb2)
      clear hb2 HS0
      have z0 := K2.out.cell 0 rfl
      have z1 := K2.out.cell 1 rfl
      have z2 := K2.out.cell 2 rfl
      have z3 := K2.out.cell 3 rfl
      have z4 := K2.out.cell 4 rfl
      have z5 := K2.out.cell 5 rfl
      have zl := K2.out.lt
      go_wp2_with fail
      refine HX.out.mono ?_; rintro e w3 ⟨rfl, hb3⟩
      have E3 := Lib.hid (belowT E2.out hb3)
      have K3 := Lib.hid (below_blk hb3 K2.out K2.out.lt)
      clear z0 z1 z2 z3 z4 z5 zl hb3 HX K2 E2
      cases hsm : smallR n l [] with
      | false =>
        have B3 := Lib.hid (belowT B1.out E3.out)
        clear hsm
        go_wp2_with fail
        go_ret
        exact ⟨rfl, B3.out⟩
      | true =>
        have hn8 := HNN.out l hsm
        have HX := Lib.hid (HCR.out l _ w3 hn8 (HIL.out w3 E3.out))
        have HRK2 := Lib.hid (fun l' v W h h0 => HRK.out l' v W hn8 h h0)
        have HCR2 := Lib.hid (fun l' v W h => HCR.out l' v W hn8 h)
        clear hsm hn8 HRK HCR HNN
        have z0 := K3.out.cell 0 rfl
        have z1 := K3.out.cell 1 rfl
        have z2 := K3.out.cell 2 rfl
        have z3 := K3.out.cell 3 rfl
        have z4 := K3.out.cell 4 rfl
        have z5 := K3.out.cell 5 rfl
        have zl := K3.out.lt
        go_wp2_with fail
        refine HX.out.mono ?_; intro e w4 hcp
        obtain ⟨cv, rfl, hcv, hb4⟩ := hcp
        have E4 := Lib.hid (belowT E3.out hb4)
        have K4 := Lib.hid (below_blk hb4 K3.out K3.out.lt)
        clear z0 z1 z2 z3 z4 z5 zl hb4 HX K3 E3
        by_cases h0 : metE n l = 0
        · rw [if_pos h0] at hcv
          obtain ⟨hT1, hT2, kk, hkk, hk1, hk2⟩ := place_of k N hNp
          obtain ⟨T, hT⟩ : ∃ T, k.tmod (N : Int) = T := ⟨_, rfl⟩
          rw [hT] at hT1 hT2 hk1 hk2
          obtain ⟨x, hx⟩ : ∃ x, l[kk]? = some x := ⟨_, List.getElem?_eq_getElem (by rw [HN.out]; exact hkk)⟩
          have hxm := List.mem_of_getElem? hx
          obtain ⟨ht1, ht2⟩ := crit_twice (n := n) hx
          obtain ⟨hc1, hc2⟩ := crit_rank (n := n) hx
          rw [HN.out] at ht2
          have hm1 : metE n (l ++ [x]) = 0 := met_sub h0 (fun y hy => by
            rcases List.mem_append.1 hy with h | h
            · exact h
            · rw [List.mem_singleton] at h; rw [h]; exact hxm) (by simp [HN.out]; omega)
          have hls : (l.take kk ++ l.drop (kk + 1)).length = N - 1 := by rw [List.length_append, List.length_take, List.length_drop, HN.out]; omega
          have hss : ∀ y ∈ l.take kk ++ l.drop (kk + 1), y ∈ l := fun y hy => by
            rcases List.mem_append.1 hy with h | h
            · exact List.mem_of_mem_take h
            · exact List.mem_of_mem_drop h
          have hm2 : metE n (l.take kk ++ l.drop (kk + 1)) = 0 := met_sub h0 hss (by omega)
          have HRA := Lib.hid (fun W h => HRK2.out l (.slice (some ⟨lb, lo, none⟩) N lcap) W h h0)
          have HRB := Lib.hid (fun v W h => HRK2.out (l.take kk ++ l.drop (kk + 1)) v W h hm2)
          have HIB := Lib.hid (fun v W hW h => HI2.out (l.take kk ++ l.drop (kk + 1)) v W hW h hss (by omega))
          have HIX := Lib.hid (fun v W hW h => HI2.out (l ++ [x]) v W hW h (fun y hy => by
            rcases List.mem_append.1 hy with h | h
            · exact h
            · rw [List.mem_singleton] at h; rw [h]; exact hxm) (by simp [HN.out]; omega))
          have HCT : Hid (∀ v W, MetIn W ⟨na, nc, sa, sc, ba, bc, ga, gc, la, lc, ta, tc⟩ n v (l ++ [x]) → Calls Try.prog 13 #[.agg #[.slice na nn nc, .slice sa sn sc, .slice ba bn bc, .slice ga gn gc, .slice la lon lc, .slice ta tn tc], v] W fun e w' => (∃ a c, e = .returned (.tuple #[.slice a (critE n (l ++ [x])).length c, .int .i64 0]) ∧ Hid (IVal w' (.slice a (critE n (l ++ [x])).length c) (critE n (l ++ [x])))) ∧ Below W.heap.size W w') := fun v W h => (HCR2.out (l ++ [x]) v W h).mono fun e w' ⟨v', h1, h2, h3⟩ => by
            rw [hm1] at h1; rw [if_pos hm1] at h2
            obtain ⟨a, c, rfl⟩ := h2.slice
            exact ⟨⟨a, c, h1, h2⟩, h3⟩
          have HRA1 := (rkA_bd n l)
          rw [show rkA n l = (rankE n l : Int) by unfold rkA; rw [if_pos h0]] at HRA1
          obtain ⟨ca, cc, rfl⟩ := hcv.slice
          have HCV := Lib.hid hcv
          obtain ⟨w5, rfl⟩ : ∃ W, W = w4 := ⟨_, rfl⟩
          have R5 := Lib.hid (HLR.out.below E4.out)
          have HXC : Hid (∀ W, Below w5.heap.size w5 W → (W.cell? ⟨lb, lo + kk * 4, none⟩ = some (.int .i64 x.kind) ∧ W.cell? ⟨lb, lo + kk * 4 + 1, none⟩ = some (.string x.name) ∧ W.cell? ⟨lb, lo + kk * 4 + 2, none⟩ = some (.string x.value) ∧ W.cell? ⟨lb, lo + kk * 4 + 3, none⟩ = some (.int .i64 x.weight))) := fun W hW => by
            obtain ⟨b, off, cap, hv, _, _, _, hc⟩ := (R5.out.below hW).addr hNp
            simp only [Value.slice.injEq, Option.some.injEq, Addr.mk.injEq, and_true] at hv
            obtain ⟨⟨rfl, rfl⟩, _, rfl⟩ := hv
            exact mit_cells hc hx
          obtain ⟨⟨gA, cA, uA, gA2, cA2, uA2, PA, PA2, DA1, DA2, OA⟩, ⟨gB, cB, uB, gB2, cB2, uB2, PB, PB2, DB1, DB2, OB⟩, ⟨gC, cC, uC, gC2, cC2, uC2, PC, PC2, DC1, DC2, OC⟩⟩ := app3 w5 (some ⟨lb, lo, none⟩) N lcap l x R5.out HN.out (by omega)
          have D0 := Lib.hid (below_drew0 w5.heap.size w5)
          have DE := Lib.hid (below_drew (belowA (Below.refl w5.heap.size w5) XE))
          have DX := Lib.hid (below_drew (belowA (Below.refl w5.heap.size w5) (XM x)))
          have DB := Lib.hid (below_drew (belowA (belowA (Below.refl w5.heap.size w5) XE) (XM x)))
          have DC := Lib.hid (below_drew (belowA (belowA (Below.refl w5.heap.size w5) (XM x)) XE))
          have DAX := Lib.hid (belowA DA1.out (XM x))
          have CA := Lib.hid (HCT.out _ uA2 (HIX.out _ uA2 (belowT E4.out DA2.out) (OA.out.reads (by simp [HN.out]; omega))))
          have CB := Lib.hid (HCT.out _ uB2 (HIX.out _ uB2 (belowT E4.out DB2.out) (OB.out.reads (by simp [HN.out]; omega))))
          have CC := Lib.hid (HCT.out _ uC2 (HIX.out _ uC2 (belowT E4.out DC2.out) (OC.out.reads (by simp [HN.out]; omega))))
          have HSC : Hid (∀ W, Below w5.heap.size w5 W → ((W.cell? ⟨p, 0, none⟩ = some (.slice na nn nc) ∧ W.cell? ⟨p, 1, none⟩ = some (.slice sa sn sc) ∧ W.cell? ⟨p, 2, none⟩ = some (.slice ba bn bc) ∧ W.cell? ⟨p, 3, none⟩ = some (.slice ga gn gc) ∧ W.cell? ⟨p, 4, none⟩ = some (.slice la lon lc) ∧ W.cell? ⟨p, 5, none⟩ = some (.slice ta tn tc)) ∧ (W.cell? ⟨lb, lo + kk * 4, none⟩ = some (.int .i64 x.kind) ∧ W.cell? ⟨lb, lo + kk * 4 + 1, none⟩ = some (.string x.name) ∧ W.cell? ⟨lb, lo + kk * 4 + 2, none⟩ = some (.string x.value) ∧ W.cell? ⟨lb, lo + kk * 4 + 3, none⟩ = some (.int .i64 x.weight)))) := fun W hW => by
            have k := below_blk hW K4.out K4.out.lt
            exact ⟨⟨k.cell 0 rfl, k.cell 1 rfl, k.cell 2 rfl, k.cell 3 rfl, k.cell 4 rfl, k.cell 5 rfl⟩, HXC.out W hW⟩
          obtain ⟨LN, hLN⟩ : ∃ x', (l ++ [x]).length = x' := ⟨_, rfl⟩
          rw [hLN] at PA2 PB2 PC2 CA CB CC
          have HKK : Hid (hasI (kk : Int) (critE n l) = decide (rankE n l = rankE n (l.take kk ++ l.drop (kk + 1)) + 1)) := hc1
          have HC2 := Lib.hid hc2
          have HT1 := Lib.hid ht1
          have HT2 := Lib.hid ht2
          have hk4 : (kk : Int) < (N : Int) := by omega
          have hk5 : (0 : Int) ≤ (kk : Int) := by omega
          rw [h0]
          clear hLN OA OB OC HIX HCT HCR2 HXC h0 hcv hx hxm ht1 ht2 hc1 hc2 hm1 hm2 hss HRK2 hls
          generalize critE n (l ++ [x]) = CX at *
          generalize hce : critE n l = CE at *
          clear hce
          generalize rankE n l = RA at *
          generalize rankE n (l.take kk ++ l.drop (kk + 1)) = RB at *
          go_upto_region 10 with fail
          go_cut [9, 10] from 55 to 68 (fun s9 s10 wx => ∃ a c, s9 = .slice a CX.length c ∧ s10 = .int .i64 0 ∧ Hid (IVal wx (.slice a CX.length c) CX) ∧ Hid (Below w5.heap.size w5 wx))
          case first =>
            clear HRA HRB HIB HIL HI2 HLL HLR K1 K4 HCV R5 hT hk1 hk2 hT1 hT2
            go_region_held_law (fun W => ((W.cell? ⟨p, 0, none⟩ = some (.slice na nn nc) ∧ W.cell? ⟨p, 1, none⟩ = some (.slice sa sn sc) ∧ W.cell? ⟨p, 2, none⟩ = some (.slice ba bn bc) ∧ W.cell? ⟨p, 3, none⟩ = some (.slice ga gn gc) ∧ W.cell? ⟨p, 4, none⟩ = some (.slice la lon lc) ∧ W.cell? ⟨p, 5, none⟩ = some (.slice ta tn tc)) ∧ (W.cell? ⟨lb, lo + kk * 4, none⟩ = some (.int .i64 x.kind) ∧ W.cell? ⟨lb, lo + kk * 4 + 1, none⟩ = some (.string x.name) ∧ W.cell? ⟨lb, lo + kk * 4 + 2, none⟩ = some (.string x.value) ∧ W.cell? ⟨lb, lo + kk * 4 + 3, none⟩ = some (.int .i64 x.weight))))
              ((refine HSC.out _ ?_; first
                | with_reducible exact D0.out
                | with_reducible exact DE.out
                | with_reducible exact DX.out
                | with_reducible exact DB.out
                | with_reducible exact DC.out
                | with_reducible exact DA1.out
                | with_reducible exact DAX.out
                | with_reducible exact DA2.out
                | with_reducible exact DB1.out
                | with_reducible exact DB2.out
                | with_reducible exact DC1.out
                | with_reducible exact DC2.out
                | with_reducible exact E8.out))
              (first
                | (refine step_append_told rfl (.tmp 57) (.tmp 58) 30 rfl (.slice (some ⟨w5.heap.size, 0, none⟩) 0 0) (.slice (some ⟨lb, lo, none⟩) N lcap) rfl rfl (.slice (some ⟨gA, 0, none⟩) N cA) uA PA.out (by with_reducible rfl) ?_)
                | (refine step_append_told rfl (.tmp 57) (.tmp 58) 30 rfl (.slice (some ⟨w5.heap.size, 0, none⟩) 0 0) (.slice (some ⟨lb, lo, none⟩) N lcap) rfl rfl (.slice (some ⟨gB, 0, none⟩) N cB) uB PB.out (by with_reducible rfl) ?_)
                | (refine step_append_told rfl (.tmp 57) (.tmp 58) 30 rfl (.slice (some ⟨w5.heap.size + 1, 0, none⟩) 0 0) (.slice (some ⟨lb, lo, none⟩) N lcap) rfl rfl (.slice (some ⟨gC, 0, none⟩) N cC) uC PC.out (by with_reducible rfl) ?_)
                | (refine step_append_told rfl (.tmp 59) (.tmp 64) 30 rfl (.slice (some ⟨gA, 0, none⟩) N cA) (.slice (some ⟨uA.heap.size, 0, none⟩) 1 1) rfl rfl (.slice (some ⟨gA2, 0, none⟩) LN cA2) uA2 PA2.out (by with_reducible rfl) ?_)
                | (refine step_append_told rfl (.tmp 59) (.tmp 64) 30 rfl (.slice (some ⟨gB, 0, none⟩) N cB) (.slice (some ⟨w5.heap.size + 1, 0, none⟩) 1 1) rfl rfl (.slice (some ⟨gB2, 0, none⟩) LN cB2) uB2 PB2.out (by with_reducible rfl) ?_)
                | (refine step_append_told rfl (.tmp 59) (.tmp 64) 30 rfl (.slice (some ⟨gC, 0, none⟩) N cC) (.slice (some ⟨w5.heap.size, 0, none⟩) 1 1) rfl rfl (.slice (some ⟨gC2, 0, none⟩) LN cC2) uC2 PC2.out (by with_reducible rfl) ?_)
                | (go_simp; go_at_call 13; (with_reducible refine CA.out.mono ?_); rintro e w8 ⟨⟨xa, xc, rfl, hxv⟩, hb8⟩; have E8 := Lib.hid (belowT DA2.out hb8); clear hb8)
                | (go_simp; go_at_call 13; (with_reducible refine CB.out.mono ?_); rintro e w8 ⟨⟨xa, xc, rfl, hxv⟩, hb8⟩; have E8 := Lib.hid (belowT DB2.out hb8); clear hb8)
                | (go_simp; go_at_call 13; (with_reducible refine CC.out.mono ?_); rintro e w8 ⟨⟨xa, xc, rfl, hxv⟩, hb8⟩; have E8 := Lib.hid (belowT DC2.out hb8); clear hb8))
            all_goals
              go_simp
              go_wp2_with fail
              go_meet
              exact ⟨xa, xc, rfl, rfl, hxv, E8⟩
          case rest =>
            obtain ⟨xa, xc, rfl, rfl, hxv, E8⟩ := hcut
            have HX := Lib.hid (HRA.out _ (HIL.out _ (belowT E4.out E8.out)))
            have K8 := Lib.hid (below_blk E8.out K4.out K4.out.lt)
            clear HRA HIL K4 D0 DE DX DB DC DA1 DAX DA2 DB1 DB2 DC1 DC2 PA PA2 PB PB2 PC PC2 CA CB CC
            have z0 := K8.out.cell 0 rfl
            have z1 := K8.out.cell 1 rfl
            have z2 := K8.out.cell 2 rfl
            have z3 := K8.out.cell 3 rfl
            have z4 := K8.out.cell 4 rfl
            have z5 := K8.out.cell 5 rfl
            have zl := K8.out.lt
            go_wp2_with fail
            refine HX.out.mono ?_; rintro e w9 ⟨rfl, hb9⟩
            have E9 := Lib.hid (belowT E8.out hb9)
            have F9 := Lib.hid hb9
            have K9 := Lib.hid (below_blk hb9 K8.out K8.out.lt)
            clear z0 z1 z2 z3 z4 z5 zl hb9 HX K8
            have R9 := Lib.hid (R5.out.below E9.out)
            have HSC := Lib.hid (fun W hW => (HSC.out W (belowT E9.out hW)).1)
            have D0 := Lib.hid (below_drew0 w9.heap.size w9)
            have DE := Lib.hid (below_drew (belowA (Below.refl w9.heap.size w9) XE))
            have BB := Lib.hid (belowT B1.out (belowT E4.out E9.out))
            have HT : Hid (Reads w9 (.slice (some ⟨lb, lo, none⟩) kk lcap) kk (flat MIt.cells (l.take kk))) := Reads.takeM R9.out HN.out (Nat.le_of_lt hkk)
            have CX1 : Hid (∀ W, Below w9.heap.size w9 W → Calls Try.prog 14 #[.slice xa CX.length xc, .int .i64 (kk : Int)] W fun e w' => e = .returned (.bool false) ∧ W = w') := fun W hW => by rw [← HT1.out]; exact hasInt_c (.slice xa CX.length xc) CX (kk : Int) W ((show Reads _ _ _ _ from hxv.out).below (belowT F9.out hW))
            have CX2 : Hid (∀ W, Below w9.heap.size w9 W → Calls Try.prog 14 #[.slice xa CX.length xc, .int .i64 (N : Int)] W fun e w' => e = .returned (.bool false) ∧ W = w') := fun W hW => by rw [← HT2.out]; exact hasInt_c (.slice xa CX.length xc) CX (N : Int) W ((show Reads _ _ _ _ from hxv.out).below (belowT F9.out hW))
            have CX3 : Hid (∀ W, Below w9.heap.size w9 W → Calls Try.prog 14 #[.slice ca CE.length cc, .int .i64 (kk : Int)] W fun e w' => e = .returned (.bool (decide (RA = RB + 1))) ∧ W = w') := fun W hW => by rw [← HKK.out]; exact hasInt_c (.slice ca CE.length cc) CE (kk : Int) W ((show Reads _ _ _ _ from HCV.out).below (belowT E9.out hW))
            have E4' := Lib.hid (belowT E4.out E9.out)
            clear F9 hxv R5 E8 K9 HPP HLL HLR HCV HKK HT1 HT2 E4 E9 HI2
            have i1 : IntKind.i64.wrap ((kk : Int) + 1) = (kk : Int) + 1 := IntWalk.i64_in _ (by omega)
            have i2 : (0 : Int) ≤ (kk : Int) + 1 := by omega
            have i3 : ((kk : Int) + 1).toNat = kk + 1 := by omega
            have i4 : kk + 1 ≤ lcap := by omega
            have i5 : kk ≤ lcap := by omega
            have i6 : kk + 1 ≤ N := by omega
            have i7 : (kk : Int) + 1 ≤ (N : Int) := by omega
            have i8 : (kk : Int) ≤ (N : Int) := by omega
            have j1 : (l.take kk).length = kk := by rw [List.length_take, HN.out]; omega
            have j2 : (l.drop (kk + 1)).length = N - (kk + 1) := by rw [List.length_drop, HN.out]
            by_cases hcap1 : lcap = kk + 1
            · subst hcap1
              have i9 : (kk : Int) ≤ (kk : Int) + 1 := by omega
              have i10 : kk ≤ kk + 1 := by omega
              have h0 : N - (kk + 1) = 0 := by omega
              have hd : l.drop (kk + 1) = [] := List.drop_eq_nil_of_le (by rw [HN.out]; omega)
              obtain ⟨gA, cA, uA, gA2, cA2, uA2, PA, PA2, DA1, DA2, OA⟩ := app2 w9 (some ⟨lb, lo, none⟩) (some ⟨lb, lo, none⟩) kk (kk + 1) 0 0 (l.take kk) (l.drop (kk + 1)) HT.out j1 (by omega) (by rw [hd]; exact Reads.emptyM) (by rw [hd]; rfl) (by omega)
              have CA := Lib.hid (HRB.out _ uA2 (HIB.out _ uA2 (belowT E4'.out DA2.out) (OA.out.reads (by rw [List.length_append, j1, j2]; omega))))
              obtain ⟨LN, hLN⟩ : ∃ x', (l.take kk ++ l.drop (kk + 1)).length = x' := ⟨_, rfl⟩
              rw [hLN] at PA2 CA
              clear hLN OA HRB HIB HT R9 j1 j2 hd
              go_upto_region 12 with fail
              go_region_held_law (fun W => (W.cell? ⟨p, 0, none⟩ = some (.slice na nn nc) ∧ W.cell? ⟨p, 1, none⟩ = some (.slice sa sn sc) ∧ W.cell? ⟨p, 2, none⟩ = some (.slice ba bn bc) ∧ W.cell? ⟨p, 3, none⟩ = some (.slice ga gn gc) ∧ W.cell? ⟨p, 4, none⟩ = some (.slice la lon lc) ∧ W.cell? ⟨p, 5, none⟩ = some (.slice ta tn tc)))
                ((refine HSC.out _ ?_; first
                  | with_reducible exact D0.out
                  | with_reducible exact DE.out
                  | with_reducible exact DA1.out
                  | with_reducible exact DA2.out
                  | with_reducible exact E10.out))
                (first
                  | (refine step_append_told rfl (.tmp 78) (.tmp 81) 30 rfl (.slice (some ⟨w9.heap.size, 0, none⟩) 0 0) (.slice (some ⟨lb, lo, none⟩) kk (kk + 1)) rfl rfl (.slice (some ⟨gA, 0, none⟩) kk cA) uA PA.out (by with_reducible rfl) ?_)
                  | (refine step_append_told rfl (.tmp 82) (.tmp 86) 30 rfl (.slice (some ⟨gA, 0, none⟩) kk cA) (.slice (some ⟨lb, lo, none⟩) 0 0) rfl rfl (.slice (some ⟨gA2, 0, none⟩) LN cA2) uA2 PA2.out (by with_reducible rfl) ?_)
                  | (go_simp; go_at_call 11; (with_reducible refine CA.out.mono ?_); rintro e w8 ⟨rfl, hb8⟩; have E10 := Lib.hid (belowT DA2.out hb8); clear hb8))
              all_goals
                have QX1 := Lib.hid (CX1.out _ E10.out)
                have QX2 := Lib.hid (CX2.out _ E10.out)
                have QX3 := Lib.hid (CX3.out _ E10.out)
                have BE := Lib.hid (belowT BB.out E10.out)
                clear CX1 CX2 CX3 BB D0 DE DA1 DA2 PA PA2 CA HSC
                go_simp
                go_wp2_with fail
                refine QX1.out.mono ?_; rintro e wy ⟨rfl, hwy⟩
                subst hwy
                go_wp2_with fail
                refine QX2.out.mono ?_; rintro e wy ⟨rfl, hwy⟩
                subst hwy
                rcases HC2.out with hc | hc
                · have hb1 : (RB : Int) ≤ 1000000 := by omega
                  subst hc
                  have s1 : IntKind.i64.wrap ((RA : Int) + 1) = (RA : Int) + 1 := IntWalk.i64_in _ (by omega)
                  have s2 : ((RA : Int) == (RA : Int) + 1) = false := by rw [beq_eq_false_iff_ne]; omega
                  have s3 : decide (RA = RA + 1) = false := by simp
                  rw [s3] at QX3
                  go_wp2_with fail
                  refine QX3.out.mono ?_; rintro e wy ⟨rfl, hwy⟩
                  subst hwy
                  go_wp2_with fail
                  go_ret
                  exact ⟨rfl, BE.out⟩
                · have hb1 : (RB : Int) ≤ 1000000 := by omega
                  subst hc
                  have s1 : IntKind.i64.wrap ((RB : Int) + 1) = (RB : Int) + 1 := IntWalk.i64_in _ (by omega)
                  have s0 : (((RB + 1 : Nat)) : Int) = (RB : Int) + 1 := by omega
                  have s2 : ((RB : Int) + 1 == (RB : Int)) = false := by rw [beq_eq_false_iff_ne]; omega
                  have s3 : decide (RB + 1 = RB + 1) = true := by simp
                  rw [s3] at QX3
                  go_wp2_with fail
                  refine QX3.out.mono ?_; rintro e wy ⟨rfl, hwy⟩
                  subst hwy
                  go_wp2_with fail
                  go_ret
                  exact ⟨rfl, BE.out⟩
            · obtain ⟨gA, cA, uA, gA2, cA2, uA2, PA, PA2, DA1, DA2, OA⟩ := app2 w9 (some ⟨lb, lo, none⟩) (some ⟨lb, lo + (kk + 1) * 4, none⟩) kk lcap (N - (kk + 1)) (lcap - (kk + 1)) (l.take kk) (l.drop (kk + 1)) HT.out j1 (by omega) (Reads.dropM R9.out HN.out i6) j2 (by omega)
              have CA := Lib.hid (HRB.out _ uA2 (HIB.out _ uA2 (belowT E4'.out DA2.out) (OA.out.reads (by rw [List.length_append, j1, j2]; omega))))
              obtain ⟨LN, hLN⟩ : ∃ x', (l.take kk ++ l.drop (kk + 1)).length = x' := ⟨_, rfl⟩
              rw [hLN] at PA2 CA
              clear hLN OA HRB HIB HT R9 j1 j2
              go_upto_region 12 with fail
              go_region_held_law (fun W => (W.cell? ⟨p, 0, none⟩ = some (.slice na nn nc) ∧ W.cell? ⟨p, 1, none⟩ = some (.slice sa sn sc) ∧ W.cell? ⟨p, 2, none⟩ = some (.slice ba bn bc) ∧ W.cell? ⟨p, 3, none⟩ = some (.slice ga gn gc) ∧ W.cell? ⟨p, 4, none⟩ = some (.slice la lon lc) ∧ W.cell? ⟨p, 5, none⟩ = some (.slice ta tn tc)))
                ((refine HSC.out _ ?_; first
                  | with_reducible exact D0.out
                  | with_reducible exact DE.out
                  | with_reducible exact DA1.out
                  | with_reducible exact DA2.out
                  | with_reducible exact E10.out))
                (first
                  | (refine step_append_told rfl (.tmp 78) (.tmp 81) 30 rfl (.slice (some ⟨w9.heap.size, 0, none⟩) 0 0) (.slice (some ⟨lb, lo, none⟩) kk lcap) rfl rfl (.slice (some ⟨gA, 0, none⟩) kk cA) uA PA.out (by with_reducible rfl) ?_)
                  | (refine step_append_told rfl (.tmp 82) (.tmp 86) 30 rfl (.slice (some ⟨gA, 0, none⟩) kk cA) (.slice (some ⟨lb, lo + (kk + 1) * 4, none⟩) (N - (kk + 1)) (lcap - (kk + 1))) rfl rfl (.slice (some ⟨gA2, 0, none⟩) LN cA2) uA2 PA2.out (by with_reducible rfl) ?_)
                  | (go_simp; go_at_call 11; (with_reducible refine CA.out.mono ?_); rintro e w8 ⟨rfl, hb8⟩; have E10 := Lib.hid (belowT DA2.out hb8); clear hb8))
              all_goals
                have QX1 := Lib.hid (CX1.out _ E10.out)
                have QX2 := Lib.hid (CX2.out _ E10.out)
                have QX3 := Lib.hid (CX3.out _ E10.out)
                have BE := Lib.hid (belowT BB.out E10.out)
                clear CX1 CX2 CX3 BB D0 DE DA1 DA2 PA PA2 CA HSC
                go_simp
                go_wp2_with fail
                refine QX1.out.mono ?_; rintro e wy ⟨rfl, hwy⟩
                subst hwy
                go_wp2_with fail
                refine QX2.out.mono ?_; rintro e wy ⟨rfl, hwy⟩
                subst hwy
                rcases HC2.out with hc | hc
                · have hb1 : (RB : Int) ≤ 1000000 := by omega
                  subst hc
                  have s1 : IntKind.i64.wrap ((RA : Int) + 1) = (RA : Int) + 1 := IntWalk.i64_in _ (by omega)
                  have s2 : ((RA : Int) == (RA : Int) + 1) = false := by rw [beq_eq_false_iff_ne]; omega
                  have s3 : decide (RA = RA + 1) = false := by simp
                  rw [s3] at QX3
                  go_wp2_with fail
                  refine QX3.out.mono ?_; rintro e wy ⟨rfl, hwy⟩
                  subst hwy
                  go_wp2_with fail
                  go_ret
                  exact ⟨rfl, BE.out⟩
                · have hb1 : (RB : Int) ≤ 1000000 := by omega
                  subst hc
                  have s1 : IntKind.i64.wrap ((RB : Int) + 1) = (RB : Int) + 1 := IntWalk.i64_in _ (by omega)
                  have s0 : (((RB + 1 : Nat)) : Int) = (RB : Int) + 1 := by omega
                  have s2 : ((RB : Int) + 1 == (RB : Int)) = false := by rw [beq_eq_false_iff_ne]; omega
                  have s3 : decide (RB + 1 = RB + 1) = true := by simp
                  rw [s3] at QX3
                  go_wp2_with fail
                  refine QX3.out.mono ?_; rintro e wy ⟨rfl, hwy⟩
                  subst hwy
                  go_wp2_with fail
                  go_ret
                  exact ⟨rfl, BE.out⟩
        · rw [if_neg h0] at hcv
          subst hcv
          have q1 : (metE n l != 0) = true := by simp [h0]
          have B4 := Lib.hid (belowT B1.out E4.out)
          generalize metE n l = ME at *
          clear h0
          go_wp2_with fail
          go_ret
          exact ⟨rfl, B4.out⟩
end Go.Proofs.Ythcddboeejbncaa
