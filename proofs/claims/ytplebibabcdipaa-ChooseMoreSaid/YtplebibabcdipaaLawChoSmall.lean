/- The law ChooseSmallest walked. -/
import Derived.Test.YtplebibabcdipaaLawChoProves
namespace Go.Proofs.Ytplebibabcdipaa
open Go.RowKit

theorem isolE_no (n : Net) (op : List ByteArray) (p : Plc) (h : (isolE n op p).2 ≠ 0) : (isolE n op p).1 = false := by
  unfold isolE at h ⊢
  split
  · rfl
  · rename_i hp
    rw [if_neg hp] at h
    split
    · rename_i hk; rw [if_pos hk] at h; exact absurd rfl h
    · rfl
set_option maxHeartbeats 8000000 in
set_option maxRecDepth 100000 in
theorem chooseSmallest_c (x0 : NAddr) (n : Net) (br : ByteArray) (pt : Int) (ov : Value) (op0 : List ByteArray) (w : World) (hr : NetR w x0 n) (hwf : n.Wf) (hop : SVal w ov op0) :
    Calls Try.prog 11 #[x0.val n, .agg #[.string br, .int .i64 pt], ov] w fun e w' => e = .returned (.bool true) ∧ Below w.heap.size w w' := by
  obtain ⟨oa, oc, rfl⟩ := hop.slice
  have HLS := Lib.hid (fun W (hb : Below w.heap.size w W) => least_c x0 n br pt W (hr.below hb) hwf)
  have HIS := Lib.hid (fun W op ov (hb : Below w.heap.size w W) (ho : SVal W ov op) => isol_c x0 n op ov br pt W (hr.below hb) hwf ho)
  have HSW : Hid (Reads w (.slice x0.sa n.sws.length x0.sc) n.sws.length (flat NSw.cells n.sws)) := hr.sws
  obtain ⟨N0, hN0⟩ : ∃ k, op0.length = k := ⟨_, rfl⟩
  have HN0 := Lib.hid hN0
  have HSV : Hid (Reads w (.slice oa N0 oc) N0 (strs op0)) := by show Reads _ _ _ _; rw [← hN0]; exact hop
  have hcap : 0 < N0 → N0 ≤ oc := fun h => by
    obtain ⟨_, _, _, hv, h1, _⟩ := HSV.out.addr h
    cases hv; exact h1
  have hmx : N0 ≤ 9223372036854775807 := by
    rcases HSV.out with ⟨h, _⟩ | ⟨_, _, _, _, _, h, _⟩ <;> omega
  rw [hN0]
  have HLW := Lib.hid (fun op h8 h0 hi hb => law_small n ⟨br, pt⟩ op h8 h0 hi hb)
  have HNO := Lib.hid (fun op h => isolE_no n op ⟨br, pt⟩ h)
  obtain ⟨LE, hLE⟩ : ∃ r, leastE n ⟨br, pt⟩ = r := ⟨_, rfl⟩
  rw [hLE] at HLS HLW
  obtain ⟨LL, LER⟩ := LE
  obtain ⟨IS, hIS⟩ : ∃ f : List ByteArray → Bool × Int, (fun op => isolE n op ⟨br, pt⟩) = f := ⟨_, rfl⟩
  have hie : ∀ op, isolE n op ⟨br, pt⟩ = IS op := fun op => by rw [← hIS]
  simp only [hie] at HIS HLW HNO
  simp only at HLS HLW
  obtain ⟨sws0, hsws⟩ : ∃ r, n.sws = r := ⟨_, rfl⟩
  rw [hsws] at HLW
  have HSS := Lib.hid hsws
  clear hr hwf hN0 hIS hie hLE hop hsws
  obtain ⟨na, nc, sa, sc, ba, bc, ga, gc, la, lc, ta, tc⟩ := x0
  obtain ⟨nl, sws, brs, gens, loads, stores⟩ := n
  simp only [NAddr.val] at HLS HIS HSW ⊢
  have HSE : Hid (sws = sws0) := HSS.out
  clear HSS
  generalize nl.length = nn at *
  obtain ⟨sn, hSN⟩ : ∃ k, sws.length = k := ⟨_, rfl⟩
  have HSN := Lib.hid hSN
  rw [hSN] at HLS HIS HSW ⊢
  clear hSN
  generalize brs.length = bn at *
  generalize gens.length = gn at *
  generalize loads.length = ln at *
  generalize stores.length = tn at *
  have B2 := Lib.hid (belowA (belowA (Below.refl w.heap.size w) (.cells #[.slice na nn nc, .slice sa sn sc, .slice ba bn bc, .slice ga gn gc, .slice la ln lc, .slice ta tn tc] 29)) (.cells #[.string br, .int .i64 pt] 31))
  have K2 := Lib.hid ((Blk.new w #[.slice na nn nc, .slice sa sn sc, .slice ba bn bc, .slice ga gn gc, .slice la ln lc, .slice ta tn tc] 29).alloc (.cells #[.string br, .int .i64 pt] 31))
  have K3 := Lib.hid (Blk.new2 w (.cells #[.slice na nn nc, .slice sa sn sc, .slice ba bn bc, .slice ga gn gc, .slice la ln lc, .slice ta tn tc] 29) #[.string br, .int .i64 pt] 31)
  have hs2 : w.heap.size + 1 < ((w.alloc (.cells #[.slice na nn nc, .slice sa sn sc, .slice ba bn bc, .slice ga gn gc, .slice la ln lc, .slice ta tn tc] 29)).alloc (.cells #[.string br, .int .i64 pt] 31)).heap.size := by rw [World.size_alloc, World.size_alloc]; omega
  generalize hW2 : (w.alloc (.cells #[.slice na nn nc, .slice sa sn sc, .slice ba bn bc, .slice ga gn gc, .slice la ln lc, .slice ta tn tc] 29)).alloc (.cells #[.string br, .int .i64 pt] 31) = W2 at *
  have HW2 := Lib.hid hW2
  clear hW2
  go_enter Try.func11, Try.ntmps11
  go_upto_region 1 with fail
  rw [HW2.out]
  go_cut [2] from 15 to 19 (fun s2 wx => ∃ (l : List ByteArray) (N : Nat), l.length = N ∧ N ≤ 8 ∧ s2 = .slice oa N oc ∧ Hid (Reads W2 (.slice oa N oc) N (strs l)) ∧ W2 = wx)
  case first =>
    by_cases h6 : 8 < N0
    ·
      have hc6 : 8 ≤ oc := by have := hcap (by omega); omega
      have hm8 : (min (N0 : Int) 8).toNat = 8 := by omega
      have hlen : (op0.take 8).length = 8 := by rw [List.length_take, HN0.out]; omega
      have ht := (sval_take HSV.out HN0.out (Nat.le_of_lt h6)).below B2.out
      have HT : Hid (Reads W2 (.slice oa 8 oc) 8 (strs (op0.take 8))) := by
        have h2 : Reads W2 (.slice oa 8 oc) (op0.take 8).length (strs (op0.take 8)) := ht
        rw [hlen] at h2; exact h2
      clear ht
      go_wp2_with fail
      go_meet
      exact ⟨op0.take 8, 8, hlen, by omega, rfl, HT, rfl⟩
    ·
      have hcc : N0 ≤ oc := by
        rcases Nat.eq_zero_or_pos N0 with h | h
        · omega
        · exact hcap h
      have HT := Lib.hid (HSV.out.below B2.out)
      have hm8 : (min (N0 : Int) 8).toNat = N0 := by omega
      go_wp2_with fail
      go_meet
      exact ⟨op0, N0, HN0.out, by omega, rfl, HT, rfl⟩
  case rest =>
    obtain ⟨op, N, hN, hN8, rfl, HOP, rfl⟩ := hcut
    have HN := Lib.hid hN
    have HOS : Hid (SVal W2 (.slice oa N oc) op) := by show Reads _ _ _ _; rw [hN]; exact HOP.out
    have HIS2 := Lib.hid (fun W (hb : Below W2.heap.size W2 W) => HIS.out W op (.slice oa N oc) (belowT B2.out hb) (HOS.out.below hb))
    have HLW2 := Lib.hid (HLW.out op (by omega))
    have HNO2 := Lib.hid (HNO.out op)
    obtain ⟨IE, hIE⟩ : ∃ r, IS op = r := ⟨_, rfl⟩
    rw [hIE] at HIS2 HLW2 HNO2
    obtain ⟨IB, IER⟩ := IE
    simp only at HIS2 HLW2 HNO2
    clear hN hIE HIS HLW HNO hcap hmx HSV HN0
    go_wp2_with fail
    refine (chooseWorks_c W2).mono ?_; rintro e w3 ⟨rfl, hb3⟩
    have C3 := Lib.hid hb3
    have B3 := Lib.hid (belowT B2.out hb3)
    have x0 := (below_blk hb3 K2.out K2.out.lt).cell 0 rfl
    have x1 := (below_blk hb3 K2.out K2.out.lt).cell 1 rfl
    have x2 := (below_blk hb3 K2.out K2.out.lt).cell 2 rfl
    have x3 := (below_blk hb3 K2.out K2.out.lt).cell 3 rfl
    have x4 := (below_blk hb3 K2.out K2.out.lt).cell 4 rfl
    have x5 := (below_blk hb3 K2.out K2.out.lt).cell 5 rfl
    have y0 := (below_blk hb3 K3.out K3.out.lt).cell 0 rfl
    have y1 := (below_blk hb3 K3.out K3.out.lt).cell 1 rfl
    clear hb3
    go_wp2_with fail
    refine (HLS.out w3 B3.out).mono ?_; rintro e w4 ⟨v1, rfl, hr1, hb4⟩
    obtain ⟨a1, c1, rfl⟩ := hr1.slice
    have C4 := Lib.hid (belowT C3.out hb4)
    clear x0 x1 x2 x3 x4 x5 y0 y1 hb4 hr1 HLS
    have x0 := (below_blk C4.out K2.out K2.out.lt).cell 0 rfl
    have x1 := (below_blk C4.out K2.out K2.out.lt).cell 1 rfl
    have x2 := (below_blk C4.out K2.out K2.out.lt).cell 2 rfl
    have x3 := (below_blk C4.out K2.out K2.out.lt).cell 3 rfl
    have x4 := (below_blk C4.out K2.out K2.out.lt).cell 4 rfl
    have x5 := (below_blk C4.out K2.out K2.out.lt).cell 5 rfl
    have y0 := (below_blk C4.out K3.out K3.out.lt).cell 0 rfl
    have y1 := (below_blk C4.out K3.out K3.out.lt).cell 1 rfl
    go_wp2_with fail
    refine (HIS2.out w4 C4.out).mono ?_; rintro e w5 ⟨rfl, hb5⟩
    have C5 := Lib.hid (belowT C4.out hb5)
    clear x0 x1 x2 x3 x4 x5 y0 y1 hb5 HIS2
    obtain ⟨ln1, hln1⟩ : ∃ k, LL.length = k := ⟨_, rfl⟩
    rw [hln1] at HLW2 ⊢
    clear hln1
    by_cases hz : IER = 0
    ·
      subst hz
      cases IB
      ·
        go_wp2_with fail
        go_ret
        exact ⟨rfl, belowT B2.out C5.out⟩
      ·
        have HLW3 := Lib.hid (HLW2.out rfl rfl)
        clear HLW2 HNO2
        go_wp2_with fail
        go_loopw [45] (fun i wr => ∃ k : Nat, k ≤ N ∧ i = .int .i64 k ∧ Hid (∀ (j : Nat) (s : ByteArray), j < k → op[j]? = some s → ∀ x ∈ sws, sameB x.name s = true → x.brk = true) ∧ Hid (Below W2.heap.size W2 wr)) (fun i _ => N - (intOf i).toNat)
        case atStart => exact ⟨0, Nat.zero_le _, rfl, fun j s hj => absurd hj (Nat.not_lt_zero _), C5⟩
        case round =>
          clear C5
          obtain ⟨k, hk, rfl, hkn, hb⟩ := hrel
          by_cases hlt : k < N
          ·
            obtain ⟨s, hs⟩ : ∃ x, op[k]? = some x := ⟨_, List.getElem?_eq_getElem (by rw [HN.out]; exact hlt)⟩
            have HS := Lib.hid hs
            obtain ⟨g', off, cap', hvv, _, _, _, hcc⟩ := (HOP.out.below hb.out).addr (by omega)
            simp only [Value.slice.injEq] at hvv
            obtain ⟨rfl, _, rfl⟩ := hvv
            have c0 := hcc k (.string s) (by unfold strs; rw [List.getElem?_map, hs]; rfl)
            have x1 := (below_blk hb.out K2.out K2.out.lt).cell 1 rfl
            have HB0 := hb
            clear hcc hs
            go_wp2_with fail
            go_loopw [52] (fun i wr => ∃ j : Nat, j ≤ sn ∧ i = .int .i64 j ∧ Hid (∀ (m : Nat) (x : NSw), m < j → sws[m]? = some x → sameB x.name s = true → x.brk = true) ∧ Hid (Below W2.heap.size W2 wr)) (fun i _ => sn - (intOf i).toNat)
            case atStart => exact ⟨0, Nat.zero_le _, rfl, fun m x hm => absurd hm (Nat.not_lt_zero _), HB0⟩
            case round =>
              clear HB0 c0 x1 hb
              obtain ⟨j, hj, rfl, hjn, hb⟩ := hrel
              by_cases hlj : j < sn
              ·
                obtain ⟨x, hx⟩ : ∃ x, sws[j]? = some x := ⟨_, List.getElem?_eq_getElem (by rw [HSN.out]; exact hlj)⟩
                have HX := Lib.hid hx
                obtain ⟨g', off, cap', hvv, _, _, _, hcc⟩ := (HSW.out.below (belowT B2.out hb.out)).addr (by omega)
                simp only [Value.slice.injEq] at hvv
                obtain ⟨rfl, _, rfl⟩ := hvv
                obtain ⟨c0, c1, c2, c3, c4⟩ := sw_cells hcc hx
                obtain ⟨nm, fr, to_, bk, op_⟩ := x
                simp only at c0 c1 c2 c3 c4
                have E2 := Blk.new wr #[.string nm, .string fr, .string to_, .bool bk, .bool op_] 82
                have B5 := Lib.hid (belowA hb.out (.cells #[.string nm, .string fr, .string to_, .bool bk, .bool op_] 82))
                obtain ⟨vb, hvb⟩ : ∃ b, wr.heap.size = b := ⟨_, rfl⟩
                have HVB := Lib.hid hvb
                rw [hvb] at E2
                clear hvb hcc hx
                go_upto_region 14 with fail
                rw [HVB.out]
                generalize wr.alloc (.cells #[.string nm, .string fr, .string to_, .bool bk, .bool op_] 82) = W5 at *
                clear c0 c1 c2 c3 c4 HVB hb
                have e0 := E2.cell 0 rfl
                have e3 := E2.cell 3 rfl
                cases hq : (nm.toList == s.toList)
                ·
                  have HJ : Hid (∀ (m : Nat) (x : NSw), m < j + 1 → sws[m]? = some x → sameB x.name s = true → x.brk = true) := fun m x hm hx hsm => by
                    by_cases hmj : m = j
                    · subst hmj
                      have h1 := HX.out
                      rw [hx] at h1
                      cases h1
                      have h2 : (nm.toList == s.toList) = true := hsm
                      rw [hq] at h2; cases h2
                    · exact hjn.out m x (by omega) hx hsm
                  clear E2
                  go_wp2_with fail
                  go_roundw
                  case rel => exact ⟨j + 1, hlj, by go_num, HJ, B5⟩
                  case measure => simp [intOf]; omega
                ·
                  cases bk
                  ·
                    clear E2
                    go_wp2_with fail
                    go_ret
                    exact ⟨rfl, belowT B2.out B5.out⟩
                  ·
                    have HJ : Hid (∀ (m : Nat) (x : NSw), m < j + 1 → sws[m]? = some x → sameB x.name s = true → x.brk = true) := fun m x hm hx hsm => by
                      by_cases hmj : m = j
                      · subst hmj
                        have h1 := HX.out
                        rw [hx] at h1
                        cases h1; rfl
                      · exact hjn.out m x (by omega) hx hsm
                    clear E2
                    go_wp2_with fail
                    go_roundw
                    case rel => exact ⟨j + 1, hlj, by go_num, HJ, B5⟩
                    case measure => simp [intOf]; omega
              ·
                have HK : Hid (∀ (j : Nat) (s : ByteArray), j < k + 1 → op[j]? = some s → ∀ x ∈ sws, sameB x.name s = true → x.brk = true) := fun i t hi ht x hx hsm => by
                  by_cases hik : i = k
                  · subst hik
                    have h1 := HS.out
                    rw [ht] at h1
                    cases h1
                    obtain ⟨m, hm⟩ := List.getElem?_of_mem hx
                    exact hjn.out m x (by have := (List.getElem?_eq_some_iff.1 hm).1; have := HSN.out; omega) hm hsm
                  · exact hkn.out i t (by omega) ht x hx hsm
                go_wp2_with fail
                go_roundw
                case rel => exact ⟨k + 1, hlt, by go_num, HK, hb⟩
                case measure => simp [intOf]; omega
          ·
            obtain ⟨h1, h2⟩ := HLW3.out (fun s hs x hx hsm => by
              obtain ⟨j, hj⟩ := List.getElem?_of_mem hs
              exact hkn.out j s (by have := (List.getElem?_eq_some_iff.1 hj).1; have := HN.out; omega) hj x (by rw [HSE.out]; exact hx) hsm)
            have h2' : ln1 ≤ N := by have := HN.out; omega
            subst h1
            clear HLW3 h2
            go_wp2_with fail
            go_ret
            exact ⟨rfl, belowT B2.out hb.out⟩
    ·
      have hib := HNO2.out hz
      subst hib
      have g1 : (IER != 0) = true := by simpa using hz
      clear HLW2 HNO2 hz
      go_wp2_with fail
      go_ret
      exact ⟨rfl, belowT B2.out C5.out⟩
end Go.Proofs.Ytplebibabcdipaa
