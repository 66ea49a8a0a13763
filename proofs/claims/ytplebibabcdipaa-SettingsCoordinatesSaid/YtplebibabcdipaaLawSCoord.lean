/- SettingsCoordinates: the walk of the law. -/
import Derived.Test.YtplebibabcdipaaSet11
import Derived.Test.YtplebibabcdipaaSetO
import Derived.Test.YtplebibabcdipaaSetR
namespace Go.Proofs.Ytplebibabcdipaa
open Go.RowKit

section
variable {P : Program} (w : World)
theorem run_append_of_nil (base : Nat) (t ty e : TypeId) (i : TypeInfo) (size : Nat) (ht : P.underlying t = some (.slice e)) (hi : P.info? e = some i)
    (v : Value) (n : Nat) (xs : List Value) (hown : w.ownsRow base e size v n xs) (c : Nat) : (Builtin.append_ #[t, t] ty #[v, .slice none 0 c]).run P w = .ok v w := by
  rcases hown.2 with ⟨rfl, rfl⟩ | ⟨g, cap, cur, rfl, _, _, hnc, _⟩
  · simp [Builtin.append_, run_underlying ht, sizeOf, typeInfo, hi, Builtin.lenOf, Builtin.firstCells]
  · simp [Builtin.append_, run_underlying ht, sizeOf, typeInfo, hi, Builtin.lenOf, Builtin.firstCells, hnc, storeCells]
end
/-- The law's own relays: the first k have their new curve. -/
def OwnK (W : World) (base : Nat) (ua : Option Addr) (N uc : Nat) (l : List CRA) (D : List Int) (k : Nat) : Prop :=
  0 < N → ∃ g cur, base ≤ g ∧ OwnR W (.slice ua N uc) g g l cur ∧ cur.length = l.length ∧ ∀ i x, l[i]? = some x → cur.getD i [] = if i < k then x.pts.scaled (D.getD i 0) else x.pts
theorem OwnK.rels {W : World} {base : Nat} {ua : Option Addr} {N uc : Nat} {l : List CRA} {D : List Int} (h : OwnK W base ua N uc l D N) (hN : l.length = N) (h4 : N ≤ 4) : ∃ O, CRels W (.slice ua N uc) O ∧ Dialed l O D := by
  rcases Nat.eq_zero_or_pos N with h0 | h0
  · subst h0
    refine ⟨[], ⟨Or.inl ⟨rfl, rfl, _, _, rfl⟩, fun r hr => by cases hr⟩, by rw [hN]; rfl, fun i x hx => ?_⟩
    have := (List.getElem?_eq_some_iff.1 hx).1
    omega
  · obtain ⟨g, cur, _, ⟨c, O, e1, e2, e3, e4, e5⟩, h2, h3⟩ := h h0
    simp only [Value.slice.injEq] at e1
    obtain ⟨rfl, _, rfl⟩ := e1
    refine ⟨O, ⟨?_, fun r hr => ?_⟩, e4, fun i x hx => ?_⟩
    · have := e3.reads (n := N) (c := uc) (by omega) (by omega)
      rw [e4, hN]; exact this
    · obtain ⟨i, hi⟩ := List.getElem?_of_mem hr
      have hiO := (List.getElem?_eq_some_iff.1 hi).1
      obtain ⟨x, hx⟩ : ∃ x, l[i]? = some x := ⟨_, List.getElem?_eq_getElem (by omega)⟩
      obtain ⟨y, hy, _, _, hp, _⟩ := e5 i x hx
      rw [hi] at hy; cases hy
      exact hp
    · obtain ⟨y, hy, hk, hp, _⟩ := e5 i x hx
      have hil := (List.getElem?_eq_some_iff.1 hx).1
      refine ⟨y, hy, hk, ?_⟩
      rw [hp, h3 i x hx, if_pos (by omega)]
theorem OwnK.start {W : World} {base : Nat} {ua : Option Addr} {N uc : Nat} {l : List CRA} {D : List Int} (hN : l.length = N) (ho : W.ownsRow base 56 6 (.slice ua N uc) N (flat CRA.cells l))
    (hx : ∀ x ∈ l, PVal W (.slice x.ca x.cl x.cc) x.pts ∧ (x.pts = [] ∨ ∀ j, (Value.slice x.ca x.cl x.cc).ownBlock = some j → j < base)) : OwnK W base ua N uc l D 0 := by
  intro hn
  obtain ⟨g, c, h1, h2, h3, h4⟩ := Seg.of_owns ho hn
  refine ⟨g, l.map (·.pts), h2, ⟨c, l, by rw [h1, hN], by rw [hN]; exact h3, h4, rfl, fun i x hi => ?_⟩, by simp, fun i x hi => ?_⟩
  · obtain ⟨q1, q2⟩ := hx x (List.mem_of_getElem? hi)
    refine ⟨x, hi, rfl, by simp [List.getD_eq_getElem?_getD, hi], q1, q2.imp id fun h => ?_⟩
    exact ⟨fun e => by have := h _ e; omega, fun e => by have := h _ e; omega⟩
  · rw [if_neg (Nat.not_lt_zero i)]; simp [List.getD_eq_getElem?_getD, hi]

set_option maxHeartbeats 8000000 in
set_option maxRecDepth 100000 in
theorem settingsCoordinates_c (x0 : NAddr) (n : Net) (l0 : List CRA) (lv : Value) (m lo hi : Int) (w : World) (hr : NetR w x0 n) (hwf : n.Wf) (hl : CRels w lv l0) :
    Calls Try.prog 8 #[x0.val n, lv, .int .i64 m, .int .i64 lo, .int .i64 hi] w fun e w' => e = .returned (.bool true) ∧ Below w.heap.size w w' := by
  obtain ⟨ra, rc, rfl⟩ := hl.1.slice
  have HPC := Lib.hid (fun (l : List CRA) lv W (hW : Below w.heap.size w W) hl => pairs_c x0 n l lv W (hr.below hW) hwf hl)
  obtain ⟨N0, hN0⟩ : ∃ k, l0.length = k := ⟨_, rfl⟩
  have HN0 := Lib.hid hN0
  rw [hN0] at hl ⊢
  have HRL := Lib.hid hl
  have hcap : 0 < N0 → N0 ≤ rc := fun h => hl.cap hN0 h
  have hmx : N0 ≤ 9223372036854775807 := by
    rcases hl.1 with ⟨h, _⟩ | ⟨_, _, _, _, _, h, _⟩
    · omega
    · omega
  have B1 := belowA (Below.refl w.heap.size w) (.cells #[.slice x0.na n.nodes.length x0.nc, .slice x0.sa n.sws.length x0.sc, .slice x0.ba n.brs.length x0.bc, .slice x0.ga n.gens.length x0.gc, .slice x0.la n.loads.length x0.lc, .slice x0.ta n.stores.length x0.tc] 29)
  have K1 := Blk.new w #[.slice x0.na n.nodes.length x0.nc, .slice x0.sa n.sws.length x0.sc, .slice x0.ba n.brs.length x0.bc, .slice x0.ga n.gens.length x0.gc, .slice x0.la n.loads.length x0.lc, .slice x0.ta n.stores.length x0.tc] 29
  obtain ⟨nb, hnb0⟩ : ∃ b, w.heap.size = b := ⟨_, rfl⟩
  rw [hnb0] at K1
  obtain ⟨PE, hPE⟩ : ∃ f, (fun l => pairsE n l) = f := ⟨_, rfl⟩
  obtain ⟨CE, hCE⟩ : ∃ f, (fun l => clearE n l) = f := ⟨_, rfl⟩
  have hpe : ∀ l, pairsE n l = PE l := fun l => by rw [← hPE]
  have hce : ∀ l, clearE n l = CE l := fun l => by rw [← hCE]
  simp only [hpe, hce] at HPC
  clear hr hwf hl hN0 hPE hCE hpe hce
  obtain ⟨na, nc, sa, sc, ba, bc, ga, gc, la, lc, ta, tc⟩ := x0
  obtain ⟨nl, sws, brs, gens, loads, stores⟩ := n
  simp only [NAddr.val] at HPC B1 K1 ⊢
  generalize nl.length = nn at *
  generalize sws.length = sn at *
  generalize brs.length = bn at *
  generalize gens.length = gn at *
  generalize loads.length = ln at *
  generalize stores.length = tn at *
  generalize hW1 : w.alloc (.cells #[.slice na nn nc, .slice sa sn sc, .slice ba bn bc, .slice ga gn gc, .slice la ln lc, .slice ta tn tc] 29) = W1 at *
  have HW1 := Lib.hid hW1
  have HNB := Lib.hid hnb0
  have HB1 := Lib.hid B1
  have HK1 := Lib.hid K1
  clear B1 K1 hW1 hnb0
  go_enter Try.func8, Try.ntmps8
  go_upto_region 1 with fail
  rw [HW1.out, HNB.out]
  go_cut [1] from 22 to 26 (fun s1 wx => ∃ (l : List CRA) (N : Nat), l.length = N ∧ N ≤ 4 ∧ s1 = .slice ra N rc ∧ Hid (CRels W1 (.slice ra N rc) l) ∧ W1 = wx)
  case first =>
    by_cases h6 : 4 < N0
    · have hc6 : 4 ≤ rc := by have := hcap (by omega); omega
      have HT := Lib.hid ((HRL.out.take HN0.out (Nat.le_of_lt h6)).below HB1.out)
      have hlen : (l0.take 4).length = 4 := by rw [List.length_take, HN0.out]; omega
      go_wp2_with fail
      go_meet
      exact ⟨l0.take 4, 4, hlen, by omega, rfl, HT, rfl⟩
    · have hcc : N0 ≤ rc := by
        rcases Nat.eq_zero_or_pos N0 with h | h
        · omega
        · exact hcap h
      have HT := Lib.hid (HRL.out.below HB1.out)
      go_wp2_with fail
      go_meet
      exact ⟨l0, N0, HN0.out, by omega, rfl, HT, rfl⟩
  case rest =>
    obtain ⟨l, N, hN, hN4, rfl, hrl, rfl⟩ := hcut
    have HN := Lib.hid hN
    have HP := Lib.hid (fun W (hW : Below W1.heap.size W1 W) => HPC.out l (.slice ra N rc) W (belowT HB1.out hW) (hrl.out.below hW))
    have HL := Lib.hid hrl.out.1
    have HCO : Hid (∀ h W pv, Below W1.heap.size W1 W → Reads W pv (PE l).length (flat pairC (PE l)) → Calls Try.prog 27 #[.slice ra N rc, pv, .int .i64 m, .int .i64 lo, .int .i64 h] W fun e w' => ∃ dv, e = .returned (.tuple #[dv, .int .i64 (coordE l (PE l) m lo h).2]) ∧ IVal w' dv (coordE l (PE l) m lo h).1 ∧ Below W.heap.size W w') := fun h W pv hW hp =>
      coord_c l (PE l) (.slice ra N rc) pv m lo h W (hrl.out.below hW) hp
    have HWR : Hid (∀ h, (coordE l (PE l) m lo h).2 = 0 → ∀ O ov pv W, Dialed l O (coordE l (PE l) m lo h).1 → CRels W ov O → Reads W pv (PE l).length (flat pairC (PE l)) → Calls Try.prog 28 #[ov, pv, .int .i64 m, .int .i64 lo, .int .i64 h] W fun e w' => e = .returned (.tuple #[.int .i64 0, .int .i64 0, .int .i64 8]) ∧ Below W.heap.size W w') := fun h hc O ov pv W hd ho hp => by
      have := wrong_c O (PE l) ov pv m lo h W ho hp
      rw [wrong_none hc hd] at this; exact this
    have HSS : Hid (∀ h, (coordE l (PE l) m lo h).2 = 0 → ∀ (i : Nat) (x : CRA), l[i]? = some x → x.pts.scaleE ((coordE l (PE l) m lo h).1.getD i 0) = 0) := fun h hc i x hx => by
      have hil := (List.getElem?_eq_some_iff.1 hx).1
      have h1 := (coord_ok hc).2.2.1 i hil
      have r1 : relOf l (i : Int) = x := by unfold relOf; simp [hx]
      rw [r1] at h1; exact h1
    have HBD : Hid (∀ h, (coordE l (PE l) m lo h).2 ≠ 0 → (coordE l (PE l) m lo h).1 = []) := fun h hc => coordE_bad hc
    have HLN : Hid (∀ h, (coordE l (PE l) m lo h).2 = 0 → (coordE l (PE l) m lo h).1.length = N) := fun h hc => by rw [(coord_ok hc).2.1]; exact HN.out
    have HRX : Hid (∀ W, Below W1.heap.size W1 W → ∀ x ∈ l, PVal W (.slice x.ca x.cl x.cc) x.pts ∧ (x.pts = [] ∨ ∀ j, (Value.slice x.ca x.cl x.cc).ownBlock = some j → j < W1.heap.size)) := fun W hW x hx => by
      refine ⟨(hrl.out.2 x hx).below hW, ?_⟩
      rcases hrl.out.2 x hx with ⟨h, _⟩ | ⟨b, off, cap, h1, _, _, h4, _⟩
      · exact Or.inl h
      · refine Or.inr fun j hj => ?_
        rw [h1] at hj
        have : b = j := Option.some.inj hj
        omega
    obtain ⟨CF, hCF⟩ : ∃ f, (fun h => coordE l (PE l) m lo h) = f := ⟨_, rfl⟩
    have hcf : ∀ h, coordE l (PE l) m lo h = CF h := fun h => by rw [← hCF]
    simp only [hcf] at HCO HWR HSS HBD HLN
    rw [hN] at HL
    generalize PE l = P at *
    generalize CE l = Z at *
    clear hN HPC HRL HN0 hcap hmx hCF hcf
    go_wp2_with fail
    refine (settingsWorks_c W1).mono ?_; rintro e w4 ⟨rfl, hb4⟩
    have B4 := Lib.hid hb4
    have k4 := below_blk hb4 HK1.out HK1.out.lt
    have x0 := k4.cell 0 rfl
    have x1 := k4.cell 1 rfl
    have x2 := k4.cell 2 rfl
    have x3 := k4.cell 3 rfl
    have x4 := k4.cell 4 rfl
    have x5 := k4.cell 5 rfl
    clear hb4 k4
    go_upto_region 4 with fail
    go_cut [40] from 29 to 40 (fun s wx => ∃ c : Bool, s = .bool c ∧ w4 = wx)
    case first =>
      go_wp2_with fail
      all_goals
        go_meet
        exact ⟨_, rfl, rfl⟩
    case rest =>
      obtain ⟨c, rfl, rfl⟩ := hcut
      cases c
      ·
        go_upto_region 6 with fail
        have HCO2 := Lib.hid (HCO.out hi)
        have HWR2 := Lib.hid (HWR.out hi)
        have HSS2 := Lib.hid (HSS.out hi)
        have HBD2 := Lib.hid (HBD.out hi)
        have HLN2 := Lib.hid (HLN.out hi)
        generalize CF hi = E at *
        obtain ⟨D, f⟩ := E
        simp only at HCO2 HWR2 HSS2 HBD2 HLN2
        clear HCO HWR HSS HBD HLN
        go_wp2_with fail
        refine (HP.out w4 B4.out).mono ?_; rintro e w5 ⟨pv, rfl, hpv, hb5⟩
        obtain ⟨pa, pc, rfl⟩ := hpv.slice
        have HPV := Lib.hid hpv
        have B5 := Lib.hid (belowT B4.out hb5)
        have HC5 := Lib.hid (HCO2.out w5 (.slice pa P.length pc) B5.out hpv)
        clear hpv hb5 x0 x1 x2 x3 x4 x5 HP B4 HCO2
        go_wp2_with fail
        refine HC5.out.mono ?_; rintro e w6 ⟨dv, rfl, hdv, hb6⟩
        obtain ⟨da, dc, rfl⟩ := hdv.slice
        have HDV : Hid (Reads w6 (.slice da D.length dc) D.length (ints D)) := hdv
        have B6 := Lib.hid (belowT B5.out hb6)
        have HP6 := Lib.hid (HPV.out.below hb6)
        clear hdv hb6 HC5 HPV
        by_cases hf : f = 0
        ·
          have g2 : (f != 0) = false := by simp [hf]
          have g2' : (f == 0) = true := by simp [hf]
          by_cases hz : Z = 0
          ·
            have g1 : (Z != 0) = false := by simp [hz]
            have hdN := HLN2.out hf
            have HWR3 := Lib.hid (HWR2.out hf)
            have HSS3 := Lib.hid (HSS2.out hf)
            subst hf hz
            rw [hdN] at HDV ⊢
            have HR6 := Lib.hid (hrl.out.below B6.out)
            have HX6 := Lib.hid (HRX.out w6 B6.out)
            clear HWR2 HSS2 HBD2 HLN2
            go_upto_region 12 with fail
            go_cut [15] from 76 to 78 (fun s15 wx => ∃ ua uc, s15 = .slice ua N uc ∧ Hid (Below w6.heap.size w6 wx) ∧ Hid (OwnK wx w6.heap.size ua N uc l D 0))
            case first =>
              have h1c := cra_one l
              have hfl : (flat CRA.cells l).length = N * 6 := by rw [flat_len (sz := 6) (fun _ => rfl), HN.out]
              have hxs : ∀ x ∈ l, (x.pts = [] ∨ ∀ j, (Value.slice x.ca x.cl x.cc).ownBlock = some j → j < w6.heap.size) := fun x hx => (HX6.out x hx).2.imp id fun h j hj => by
                have h1 := h j hj
                have h2 := B6.out.size
                omega
              obtain ⟨i0, hi, hz0, hz1, hz2⟩ := info_parts infoCR
              have BA : Below w6.heap.size w6 (w6.alloc (.cells #[] 56)) := belowA (Below.refl _ w6) _
              rcases HR6.out.1 with ⟨hn0, hcs, a, cap, hv⟩ | ⟨b, off, cap, hv, h1, h2, h3, h4⟩
              · have hn00 : N = 0 := HN.out.symm.trans hn0
                subst hn00
                simp only [Value.slice.injEq] at hv
                obtain ⟨rfl, _, rfl⟩ := hv
                cases ra with
                | none =>
                  have qn : (Builtin.append_ #[63, 63] 63 #[.slice (some ⟨w6.heap.size, 0, none⟩) 0 0, .slice none 0 rc]).run Try.prog (w6.alloc (.cells #[] 56)) = .ok (.slice (some ⟨w6.heap.size, 0, none⟩) 0 0) (w6.alloc (.cells #[] 56)) :=
                    run_append_of_nil _ w6.heap.size 63 _ 56 i0 6 Try.underlying63 hi _ 0 [] (owns_lit (Blk.new _ _ _) (Nat.le_refl _) 6 0 rfl (by decide)) rc
                  go_wp2_with (rw [qn])
                  go_meet
                  exact ⟨_, _, rfl, BA, fun h => absurd h (Nat.lt_irrefl _)⟩
                | some ad =>
                  go_wp2_with (at_builtin; refine wpList_append_own _ rfl _ _ 63 rfl w6.heap.size 56 i0 _ 6 88 Try.underlying63 hi hz0 hz1 hz2 rfl (by decide) _ 0 [] rfl (owns_lit (Blk.new _ _ _) (Nat.le_refl _) 6 0 rfl (by decide)) ad 0 rc [] rfl rfl (fun j u hj => by simp at hj) (fun u hu => by cases hu) (by unfold maxLen; omega) (by omega) (by simp) ?_; intro v' w3 hown' hgrow3 hnil3)
                  obtain ⟨a3, c3, rfl⟩ := row_slice hown'
                  go_meet
                  exact ⟨_, _, rfl, Below.grown BA hgrow3 (by simp) (fun j hj => by have : w6.heap.size = j := Option.some.inj hj; omega), fun h => absurd h (Nat.lt_irrefl _)⟩
              · simp only [Value.slice.injEq] at hv
                obtain ⟨rfl, hvn, rfl⟩ := hv
                have HC := Lib.hid h4
                clear h4 hvn
                go_wp2_with (at_builtin; refine wpList_append_own _ rfl _ _ 63 rfl w6.heap.size 56 i0 _ 6 88 Try.underlying63 hi hz0 hz1 hz2 rfl (by decide) _ 0 [] rfl (owns_lit (Blk.new _ _ _) (Nat.le_refl _) 6 0 rfl (by decide)) ⟨b, off, none⟩ N rc (flat CRA.cells l) rfl hfl (cells_add (fun j u hj => by rw [BA.cell (by exact h3)]; exact HC.out j u hj)) h1c (by unfold maxLen; omega) (by omega) (by simp) ?_; intro v' w3 hown' hgrow3 hnil3)
                obtain ⟨a3, c3, rfl⟩ := row_slice hown'
                have hb7 : Below w6.heap.size w6 w3 := Below.grown BA hgrow3 (by simp) (fun j hj => by have : w6.heap.size = j := Option.some.inj hj; omega)
                go_meet
                refine ⟨a3, c3, by rw [Nat.zero_add], hb7, ?_⟩
                show OwnK _ _ _ _ _ _ _ _
                exact OwnK.start (base := w6.heap.size) HN.out (by simpa using hown') fun x hx => ⟨(HX6.out x hx).1.below hb7, hxs x hx⟩
            case rest =>
              obtain ⟨ua, uc, rfl, hb7, how⟩ := hcut
              obtain ⟨wx, hwx⟩ : ∃ W, W = wc := ⟨_, rfl⟩
              subst hwx
              have B7 := Lib.hid (belowT B6.out hb7.out)
              have b77 := hb7
              have HRN : Hid (∀ W, Below w6.heap.size w6 W → OwnK W w6.heap.size ua N uc l D N → ∃ O, CRels W (.slice ua N uc) O ∧ Dialed l O D) := fun W hW h => h.rels HN.out hN4
              have HWN : Hid (∀ O W, Below w6.heap.size w6 W → Dialed l O D → CRels W (.slice ua N uc) O → Calls Try.prog 28 #[.slice ua N uc, .slice pa P.length pc, .int .i64 m, .int .i64 lo, .int .i64 hi] W fun e w' => e = .returned (.tuple #[.int .i64 0, .int .i64 0, .int .i64 8]) ∧ Below W.heap.size W w') := fun O W hW hd ho => HWR3.out O _ _ W hd ho (HP6.out.below hW)
              have B66 := B6
              clear HX6 HR6 hb7 B6 B5 HRX HWR3 HL hrl
              go_wp2_with fail
              go_loopw [81] (fun i wr => ∃ k : Nat, k ≤ N ∧ i = .int .i64 k ∧ Hid (Below W1.heap.size W1 wr) ∧ Hid (Below w6.heap.size w6 wr) ∧ Hid (OwnK wr w6.heap.size ua N uc l D k)) (fun i _ => N - (intOf i).toNat)
              case atStart => exact ⟨0, Nat.zero_le _, rfl, B7, b77, how⟩
              case round =>
                clear how B7 b77
                obtain ⟨k, hk, rfl, hb1, hbx, how⟩ := hrel
                by_cases hkt : k < N
                ·
                  obtain ⟨g, cur, hgb, hown, hcl, hcr⟩ := how.out (by omega)
                  obtain ⟨x, hx⟩ : ∃ x, l[k]? = some x := ⟨_, List.getElem?_eq_getElem (by rw [HN.out]; exact hkt)⟩
                  obtain ⟨cq, O, hov, hcq, hseg, hol, hoo⟩ := hown
                  simp only [Value.slice.injEq] at hov
                  obtain ⟨rfl, hov2, rfl⟩ := hov
                  clear hov2
                  obtain ⟨y, hy, hypk, hypts, hyp, hyo⟩ := hoo k x hx
                  have hyx : y.pts = x.pts := by rw [hypts, hcr k x hx, if_neg (Nat.lt_irrefl k)]
                  have HOWN : Hid (OwnR wr (.slice (some ⟨g, 0, none⟩) N uc) g g l cur) := ⟨uc, O, by rw [HN.out], hcq, hseg, hol, hoo⟩
                  have HCR := Lib.hid hcr
                  have HCL := Lib.hid hcl
                  have HX := Lib.hid hx
                  have hse := HSS3.out k x hx
                  rw [hyx] at hyp
                  obtain ⟨_, _, _, o3, _, _⟩ := cra_seg hseg hy
                  have hgl := hseg.lt
                  obtain ⟨dg, doff, dcap, dvv, _, _, hdg, dcc⟩ := (HDV.out.below hbx.out).addr (by omega)
                  simp only [Value.slice.injEq] at dvv
                  obtain ⟨rfl, _, rfl⟩ := dvv
                  have c0 := dcc k _ (ints_get (by omega))
                  have HSC := Lib.hid (scale_c2 (.slice y.ca y.cl y.cc) x.pts (D.getD k 0) wr.drew (hyp.below (show Below wr.heap.size wr wr.drew from ⟨rfl, rfl, rfl, Nat.le_refl _, fun _ _ => rfl⟩)))
                  obtain ⟨SQ, hSQ⟩ : ∃ c, x.pts.scaled (D.getD k 0) = c := ⟨_, rfl⟩
                  have HSQ : Hid (∀ i, i = k → x.pts.scaled (D.getD i 0) = SQ) := fun i hi => by rw [hi]; exact hSQ
                  have HSY : Hid (∀ e w', ScaleIs2 x.pts (D.getD k 0) wr.drew e w' → ∃ a n c, e = .returned (.tuple #[.slice a n c, .int .i64 0]) ∧ Below wr.heap.size wr.drew w' ∧ PVal w' (.slice a n c) SQ ∧ (∀ j, (Value.slice a n c).ownBlock = some j → wr.heap.size ≤ j)) := fun e w' h => by
                    obtain ⟨v, a1, a2, _, a4, a5⟩ := h
                    rw [hse] at a1
                    have a6 := a4 hse
                    obtain ⟨a, n, c, rfl⟩ := a6.slice
                    rw [hSQ] at a6
                    exact ⟨a, n, c, a1, a2, a6, a5⟩
                  have HO3 := Lib.hid o3
                  have HC0 := Lib.hid c0
                  generalize D.getD k 0 = dk at *
                  generalize y.ca = yca at *
                  generalize y.cl = ycl at *
                  generalize y.cc = ycc at *
                  clear hcl hcr hx hoo hy hypk hypts hyo hyx hse hol hyp dcc hSQ hcq
                  have of3 := hseg.free (k * 6 + 3)
                  clear hseg
                  have D0 : Hid (Below wr.heap.size wr wr.drew) := ⟨rfl, rfl, rfl, Nat.le_refl _, fun _ _ => rfl⟩
                  have HSR : Hid (∀ W, Below wr.heap.size wr W → W.cell? ⟨g, k * 6 + 3, none⟩ = some (.slice yca ycl ycc) ∧ W.cell? ⟨dg, doff + k, none⟩ = some (.int .i64 dk)) := fun W hW =>
                    ⟨(hW.cell (p := ⟨g, k * 6 + 3, none⟩) hgl).trans HO3.out, (hW.cell (p := ⟨dg, doff + k, none⟩) hdg).trans HC0.out⟩
                  clear o3 c0 of3
                  go_wp2_with fail
                  go_cut [17, 18] from 84 to 96 (fun s17 s18 wc => ∃ a n c, s17 = .slice a n c ∧ s18 = .int .i64 0 ∧ Hid (Below wr.heap.size wr wc) ∧ Hid (PVal wc (.slice a n c) SQ) ∧ Hid (∀ j, (Value.slice a n c).ownBlock = some j → wr.heap.size ≤ j))
                  case first =>
                    go_region_held3 (fun W => W.cell? ⟨g, k * 6 + 3, none⟩ = some (.slice yca ycl ycc) ∧ W.cell? ⟨dg, doff + k, none⟩ = some (.int .i64 dk))
                      (first
                        | with_reducible exact HSR.out _ D0.out
                        | with_reducible exact HSR.out _ D1.out)
                      ((go_at_call 24; refine HSC.out.mono ?_; intro e w7 hsc; obtain ⟨va, vn, vc, rfl, hb7, hv1, hv2⟩ := HSY.out e w7 hsc; have D1 := Lib.hid (belowT D0.out hb7); have HV1 := Lib.hid hv1; have HV2 := Lib.hid hv2; clear hb7 hv1 hv2 hsc))
                    all_goals
                      go_simp
                      go_wp2_with fail
                      go_meet
                      exact ⟨va, vn, vc, rfl, rfl, D1, HV1, HV2⟩
                  case rest =>
                    obtain ⟨va, vn, vc, rfl, rfl, hbc, hv1, hv2⟩ := hcut
                    have BWC := Lib.hid (belowT hb1.out hbc.out)
                    have BXC := Lib.hid (belowT hbx.out hbc.out)
                    have OWC := Lib.hid (HOWN.out.below hbc.out)
                    have HNE : Hid ((Value.slice va vn vc).ownBlock ≠ some g) := fun e => by have := hv2.out _ e; omega
                    have HON := Lib.hid (OWC.out.put (k := k) (by rw [HCL.out]) (by rw [HN.out]; exact hkt) hv1.out ⟨HNE.out, HNE.out⟩)
                    have HKN : Hid (OwnK (wc.setCell ⟨g, k * 6 + 3, none⟩ (.slice va vn vc)) w6.heap.size (some ⟨g, 0, none⟩) N uc l D (k + 1)) := fun _ => by
                      refine ⟨g, cur.set k SQ, hgb, HON.out, by rw [List.length_set]; exact HCL.out, fun i z hz => ?_⟩
                      by_cases hik : i = k
                      · subst hik
                        have e1 : z = x := Option.some.inj (hz.symm.trans HX.out)
                        have : i < cur.length := by rw [HCL.out, HN.out]; exact hkt
                        rw [if_pos (Nat.lt_succ_self i), e1, HSQ.out i rfl]; simp [this]
                      · have e2 := HCR.out i z hz
                        have e3 : (cur.set k SQ).getD i [] = cur.getD i [] := by simp [List.getD_eq_getElem?_getD, List.getElem?_set_ne (Ne.symm hik)]
                        rw [e3, e2]
                        by_cases hlt : i < k
                        · rw [if_pos hlt, if_pos (by omega)]
                        · rw [if_neg hlt, if_neg (by omega)]
                    obtain ⟨cq, O, hov, hcq, hseg, hol, hoo⟩ := OWC.out
                    obtain ⟨y, hy, _⟩ := hoo k _ HX.out
                    have o3 := (cra_seg hseg hy).2.2.2.1
                    have of3 := hseg.free (k * 6 + 3)
                    have BWF := Lib.hid (below_set BWC.out (show W1.heap.size ≤ g by have := B66.out.size; omega) (k * 6 + 3) (.slice va vn vc))
                    have BXF := Lib.hid (below_set BXC.out hgb (k * 6 + 3) (.slice va vn vc))
                    clear hseg hoo hol hy OWC BWC BXC hv1 hv2 HNE hcq hov
                    go_wp2_with fail
                    go_roundw
                    case rel => exact ⟨k + 1, hkt, by go_num, BWF, BXF, HKN⟩
                    case measure => simp [intOf]; omega
                ·
                  have hkN : k = N := by omega
                  subst hkN
                  obtain ⟨O, ho1, ho2⟩ := HRN.out wr hbx.out how.out
                  have HC := Lib.hid (HWN.out O wr hbx.out ho2 ho1)
                  clear ho1 ho2 how
                  go_wp2_with fail
                  refine HC.out.mono ?_; rintro e w8 ⟨rfl, hb8⟩
                  go_wp2_with fail
                  go_ret
                  exact ⟨rfl, belowT HB1.out (belowT hb1.out hb8)⟩
          ·
            have g1 : (Z != 0) = true := by simp [hz]
            go_upto_region 9 with fail
            cases h9 : ((D.length : Int) == 0)
            all_goals
              go_wp2_with fail
              go_ret
              exact ⟨rfl, belowT HB1.out B6.out⟩
        ·
          have g2 : (f != 0) = true := by simp [hf]
          have g2' : (f == 0) = false := by simp [hf]
          have hd0 := HBD2.out hf
          subst hd0
          cases hz : (Z != 0)
          ·
            go_wp2_with fail
            go_ret
            exact ⟨rfl, belowT HB1.out B6.out⟩
          ·
            go_wp2_with fail
            go_ret
            exact ⟨rfl, belowT HB1.out B6.out⟩
      ·
        go_upto_region 6 with fail
        generalize wrap64 (lo + 300) = h9 at *
        have HCO2 := Lib.hid (HCO.out h9)
        have HWR2 := Lib.hid (HWR.out h9)
        have HSS2 := Lib.hid (HSS.out h9)
        have HBD2 := Lib.hid (HBD.out h9)
        have HLN2 := Lib.hid (HLN.out h9)
        generalize CF h9 = E at *
        obtain ⟨D, f⟩ := E
        simp only at HCO2 HWR2 HSS2 HBD2 HLN2
        clear HCO HWR HSS HBD HLN
        go_wp2_with fail
        refine (HP.out w4 B4.out).mono ?_; rintro e w5 ⟨pv, rfl, hpv, hb5⟩
        obtain ⟨pa, pc, rfl⟩ := hpv.slice
        have HPV := Lib.hid hpv
        have B5 := Lib.hid (belowT B4.out hb5)
        have HC5 := Lib.hid (HCO2.out w5 (.slice pa P.length pc) B5.out hpv)
        clear hpv hb5 x0 x1 x2 x3 x4 x5 HP B4 HCO2
        go_wp2_with fail
        refine HC5.out.mono ?_; rintro e w6 ⟨dv, rfl, hdv, hb6⟩
        obtain ⟨da, dc, rfl⟩ := hdv.slice
        have HDV : Hid (Reads w6 (.slice da D.length dc) D.length (ints D)) := hdv
        have B6 := Lib.hid (belowT B5.out hb6)
        have HP6 := Lib.hid (HPV.out.below hb6)
        clear hdv hb6 HC5 HPV
        by_cases hf : f = 0
        ·
          have g2 : (f != 0) = false := by simp [hf]
          have g2' : (f == 0) = true := by simp [hf]
          by_cases hz : Z = 0
          ·
            have g1 : (Z != 0) = false := by simp [hz]
            have hdN := HLN2.out hf
            have HWR3 := Lib.hid (HWR2.out hf)
            have HSS3 := Lib.hid (HSS2.out hf)
            subst hf hz
            rw [hdN] at HDV ⊢
            have HR6 := Lib.hid (hrl.out.below B6.out)
            have HX6 := Lib.hid (HRX.out w6 B6.out)
            clear HWR2 HSS2 HBD2 HLN2
            go_upto_region 12 with fail
            go_cut [15] from 76 to 78 (fun s15 wx => ∃ ua uc, s15 = .slice ua N uc ∧ Hid (Below w6.heap.size w6 wx) ∧ Hid (OwnK wx w6.heap.size ua N uc l D 0))
            case first =>
              have h1c := cra_one l
              have hfl : (flat CRA.cells l).length = N * 6 := by rw [flat_len (sz := 6) (fun _ => rfl), HN.out]
              have hxs : ∀ x ∈ l, (x.pts = [] ∨ ∀ j, (Value.slice x.ca x.cl x.cc).ownBlock = some j → j < w6.heap.size) := fun x hx => (HX6.out x hx).2.imp id fun h j hj => by
                have h1 := h j hj
                have h2 := B6.out.size
                omega
              obtain ⟨i0, hi, hz0, hz1, hz2⟩ := info_parts infoCR
              have BA : Below w6.heap.size w6 (w6.alloc (.cells #[] 56)) := belowA (Below.refl _ w6) _
              rcases HR6.out.1 with ⟨hn0, hcs, a, cap, hv⟩ | ⟨b, off, cap, hv, h1, h2, h3, h4⟩
              · have hn00 : N = 0 := HN.out.symm.trans hn0
                subst hn00
                simp only [Value.slice.injEq] at hv
                obtain ⟨rfl, _, rfl⟩ := hv
                cases ra with
                | none =>
                  have qn : (Builtin.append_ #[63, 63] 63 #[.slice (some ⟨w6.heap.size, 0, none⟩) 0 0, .slice none 0 rc]).run Try.prog (w6.alloc (.cells #[] 56)) = .ok (.slice (some ⟨w6.heap.size, 0, none⟩) 0 0) (w6.alloc (.cells #[] 56)) :=
                    run_append_of_nil _ w6.heap.size 63 _ 56 i0 6 Try.underlying63 hi _ 0 [] (owns_lit (Blk.new _ _ _) (Nat.le_refl _) 6 0 rfl (by decide)) rc
                  go_wp2_with (rw [qn])
                  go_meet
                  exact ⟨_, _, rfl, BA, fun h => absurd h (Nat.lt_irrefl _)⟩
                | some ad =>
                  go_wp2_with (at_builtin; refine wpList_append_own _ rfl _ _ 63 rfl w6.heap.size 56 i0 _ 6 88 Try.underlying63 hi hz0 hz1 hz2 rfl (by decide) _ 0 [] rfl (owns_lit (Blk.new _ _ _) (Nat.le_refl _) 6 0 rfl (by decide)) ad 0 rc [] rfl rfl (fun j u hj => by simp at hj) (fun u hu => by cases hu) (by unfold maxLen; omega) (by omega) (by simp) ?_; intro v' w3 hown' hgrow3 hnil3)
                  obtain ⟨a3, c3, rfl⟩ := row_slice hown'
                  go_meet
                  exact ⟨_, _, rfl, Below.grown BA hgrow3 (by simp) (fun j hj => by have : w6.heap.size = j := Option.some.inj hj; omega), fun h => absurd h (Nat.lt_irrefl _)⟩
              · simp only [Value.slice.injEq] at hv
                obtain ⟨rfl, hvn, rfl⟩ := hv
                have HC := Lib.hid h4
                clear h4 hvn
                go_wp2_with (at_builtin; refine wpList_append_own _ rfl _ _ 63 rfl w6.heap.size 56 i0 _ 6 88 Try.underlying63 hi hz0 hz1 hz2 rfl (by decide) _ 0 [] rfl (owns_lit (Blk.new _ _ _) (Nat.le_refl _) 6 0 rfl (by decide)) ⟨b, off, none⟩ N rc (flat CRA.cells l) rfl hfl (cells_add (fun j u hj => by rw [BA.cell (by exact h3)]; exact HC.out j u hj)) h1c (by unfold maxLen; omega) (by omega) (by simp) ?_; intro v' w3 hown' hgrow3 hnil3)
                obtain ⟨a3, c3, rfl⟩ := row_slice hown'
                have hb7 : Below w6.heap.size w6 w3 := Below.grown BA hgrow3 (by simp) (fun j hj => by have : w6.heap.size = j := Option.some.inj hj; omega)
                go_meet
                refine ⟨a3, c3, by rw [Nat.zero_add], hb7, ?_⟩
                show OwnK _ _ _ _ _ _ _ _
                exact OwnK.start (base := w6.heap.size) HN.out (by simpa using hown') fun x hx => ⟨(HX6.out x hx).1.below hb7, hxs x hx⟩
            case rest =>
              obtain ⟨ua, uc, rfl, hb7, how⟩ := hcut
              obtain ⟨wx, hwx⟩ : ∃ W, W = wc := ⟨_, rfl⟩
              subst hwx
              have B7 := Lib.hid (belowT B6.out hb7.out)
              have b77 := hb7
              have HRN : Hid (∀ W, Below w6.heap.size w6 W → OwnK W w6.heap.size ua N uc l D N → ∃ O, CRels W (.slice ua N uc) O ∧ Dialed l O D) := fun W hW h => h.rels HN.out hN4
              have HWN : Hid (∀ O W, Below w6.heap.size w6 W → Dialed l O D → CRels W (.slice ua N uc) O → Calls Try.prog 28 #[.slice ua N uc, .slice pa P.length pc, .int .i64 m, .int .i64 lo, .int .i64 h9] W fun e w' => e = .returned (.tuple #[.int .i64 0, .int .i64 0, .int .i64 8]) ∧ Below W.heap.size W w') := fun O W hW hd ho => HWR3.out O _ _ W hd ho (HP6.out.below hW)
              have B66 := B6
              clear HX6 HR6 hb7 B6 B5 HRX HWR3 HL hrl
              go_wp2_with fail
              go_loopw [81] (fun i wr => ∃ k : Nat, k ≤ N ∧ i = .int .i64 k ∧ Hid (Below W1.heap.size W1 wr) ∧ Hid (Below w6.heap.size w6 wr) ∧ Hid (OwnK wr w6.heap.size ua N uc l D k)) (fun i _ => N - (intOf i).toNat)
              case atStart => exact ⟨0, Nat.zero_le _, rfl, B7, b77, how⟩
              case round =>
                clear how B7 b77
                obtain ⟨k, hk, rfl, hb1, hbx, how⟩ := hrel
                by_cases hkt : k < N
                ·
                  obtain ⟨g, cur, hgb, hown, hcl, hcr⟩ := how.out (by omega)
                  obtain ⟨x, hx⟩ : ∃ x, l[k]? = some x := ⟨_, List.getElem?_eq_getElem (by rw [HN.out]; exact hkt)⟩
                  obtain ⟨cq, O, hov, hcq, hseg, hol, hoo⟩ := hown
                  simp only [Value.slice.injEq] at hov
                  obtain ⟨rfl, hov2, rfl⟩ := hov
                  clear hov2
                  obtain ⟨y, hy, hypk, hypts, hyp, hyo⟩ := hoo k x hx
                  have hyx : y.pts = x.pts := by rw [hypts, hcr k x hx, if_neg (Nat.lt_irrefl k)]
                  have HOWN : Hid (OwnR wr (.slice (some ⟨g, 0, none⟩) N uc) g g l cur) := ⟨uc, O, by rw [HN.out], hcq, hseg, hol, hoo⟩
                  have HCR := Lib.hid hcr
                  have HCL := Lib.hid hcl
                  have HX := Lib.hid hx
                  have hse := HSS3.out k x hx
                  rw [hyx] at hyp
                  obtain ⟨_, _, _, o3, _, _⟩ := cra_seg hseg hy
                  have hgl := hseg.lt
                  obtain ⟨dg, doff, dcap, dvv, _, _, hdg, dcc⟩ := (HDV.out.below hbx.out).addr (by omega)
                  simp only [Value.slice.injEq] at dvv
                  obtain ⟨rfl, _, rfl⟩ := dvv
                  have c0 := dcc k _ (ints_get (by omega))
                  have HSC := Lib.hid (scale_c2 (.slice y.ca y.cl y.cc) x.pts (D.getD k 0) wr.drew (hyp.below (show Below wr.heap.size wr wr.drew from ⟨rfl, rfl, rfl, Nat.le_refl _, fun _ _ => rfl⟩)))
                  obtain ⟨SQ, hSQ⟩ : ∃ c, x.pts.scaled (D.getD k 0) = c := ⟨_, rfl⟩
                  have HSQ : Hid (∀ i, i = k → x.pts.scaled (D.getD i 0) = SQ) := fun i hi => by rw [hi]; exact hSQ
                  have HSY : Hid (∀ e w', ScaleIs2 x.pts (D.getD k 0) wr.drew e w' → ∃ a n c, e = .returned (.tuple #[.slice a n c, .int .i64 0]) ∧ Below wr.heap.size wr.drew w' ∧ PVal w' (.slice a n c) SQ ∧ (∀ j, (Value.slice a n c).ownBlock = some j → wr.heap.size ≤ j)) := fun e w' h => by
                    obtain ⟨v, a1, a2, _, a4, a5⟩ := h
                    rw [hse] at a1
                    have a6 := a4 hse
                    obtain ⟨a, n, c, rfl⟩ := a6.slice
                    rw [hSQ] at a6
                    exact ⟨a, n, c, a1, a2, a6, a5⟩
                  have HO3 := Lib.hid o3
                  have HC0 := Lib.hid c0
                  generalize D.getD k 0 = dk at *
                  generalize y.ca = yca at *
                  generalize y.cl = ycl at *
                  generalize y.cc = ycc at *
                  clear hcl hcr hx hoo hy hypk hypts hyo hyx hse hol hyp dcc hSQ hcq
                  have of3 := hseg.free (k * 6 + 3)
                  clear hseg
                  have D0 : Hid (Below wr.heap.size wr wr.drew) := ⟨rfl, rfl, rfl, Nat.le_refl _, fun _ _ => rfl⟩
                  have HSR : Hid (∀ W, Below wr.heap.size wr W → W.cell? ⟨g, k * 6 + 3, none⟩ = some (.slice yca ycl ycc) ∧ W.cell? ⟨dg, doff + k, none⟩ = some (.int .i64 dk)) := fun W hW =>
                    ⟨(hW.cell (p := ⟨g, k * 6 + 3, none⟩) hgl).trans HO3.out, (hW.cell (p := ⟨dg, doff + k, none⟩) hdg).trans HC0.out⟩
                  clear o3 c0 of3
                  go_wp2_with fail
                  go_cut [17, 18] from 84 to 96 (fun s17 s18 wc => ∃ a n c, s17 = .slice a n c ∧ s18 = .int .i64 0 ∧ Hid (Below wr.heap.size wr wc) ∧ Hid (PVal wc (.slice a n c) SQ) ∧ Hid (∀ j, (Value.slice a n c).ownBlock = some j → wr.heap.size ≤ j))
                  case first =>
                    go_region_held3 (fun W => W.cell? ⟨g, k * 6 + 3, none⟩ = some (.slice yca ycl ycc) ∧ W.cell? ⟨dg, doff + k, none⟩ = some (.int .i64 dk))
                      (first
                        | with_reducible exact HSR.out _ D0.out
                        | with_reducible exact HSR.out _ D1.out)
                      ((go_at_call 24; refine HSC.out.mono ?_; intro e w7 hsc; obtain ⟨va, vn, vc, rfl, hb7, hv1, hv2⟩ := HSY.out e w7 hsc; have D1 := Lib.hid (belowT D0.out hb7); have HV1 := Lib.hid hv1; have HV2 := Lib.hid hv2; clear hb7 hv1 hv2 hsc))
                    all_goals
                      go_simp
                      go_wp2_with fail
                      go_meet
                      exact ⟨va, vn, vc, rfl, rfl, D1, HV1, HV2⟩
                  case rest =>
                    obtain ⟨va, vn, vc, rfl, rfl, hbc, hv1, hv2⟩ := hcut
                    have BWC := Lib.hid (belowT hb1.out hbc.out)
                    have BXC := Lib.hid (belowT hbx.out hbc.out)
                    have OWC := Lib.hid (HOWN.out.below hbc.out)
                    have HNE : Hid ((Value.slice va vn vc).ownBlock ≠ some g) := fun e => by have := hv2.out _ e; omega
                    have HON := Lib.hid (OWC.out.put (k := k) (by rw [HCL.out]) (by rw [HN.out]; exact hkt) hv1.out ⟨HNE.out, HNE.out⟩)
                    have HKN : Hid (OwnK (wc.setCell ⟨g, k * 6 + 3, none⟩ (.slice va vn vc)) w6.heap.size (some ⟨g, 0, none⟩) N uc l D (k + 1)) := fun _ => by
                      refine ⟨g, cur.set k SQ, hgb, HON.out, by rw [List.length_set]; exact HCL.out, fun i z hz => ?_⟩
                      by_cases hik : i = k
                      · subst hik
                        have e1 : z = x := Option.some.inj (hz.symm.trans HX.out)
                        have : i < cur.length := by rw [HCL.out, HN.out]; exact hkt
                        rw [if_pos (Nat.lt_succ_self i), e1, HSQ.out i rfl]; simp [this]
                      · have e2 := HCR.out i z hz
                        have e3 : (cur.set k SQ).getD i [] = cur.getD i [] := by simp [List.getD_eq_getElem?_getD, List.getElem?_set_ne (Ne.symm hik)]
                        rw [e3, e2]
                        by_cases hlt : i < k
                        · rw [if_pos hlt, if_pos (by omega)]
                        · rw [if_neg hlt, if_neg (by omega)]
                    obtain ⟨cq, O, hov, hcq, hseg, hol, hoo⟩ := OWC.out
                    obtain ⟨y, hy, _⟩ := hoo k _ HX.out
                    have o3 := (cra_seg hseg hy).2.2.2.1
                    have of3 := hseg.free (k * 6 + 3)
                    have BWF := Lib.hid (below_set BWC.out (show W1.heap.size ≤ g by have := B66.out.size; omega) (k * 6 + 3) (.slice va vn vc))
                    have BXF := Lib.hid (below_set BXC.out hgb (k * 6 + 3) (.slice va vn vc))
                    clear hseg hoo hol hy OWC BWC BXC hv1 hv2 HNE hcq hov
                    go_wp2_with fail
                    go_roundw
                    case rel => exact ⟨k + 1, hkt, by go_num, BWF, BXF, HKN⟩
                    case measure => simp [intOf]; omega
                ·
                  have hkN : k = N := by omega
                  subst hkN
                  obtain ⟨O, ho1, ho2⟩ := HRN.out wr hbx.out how.out
                  have HC := Lib.hid (HWN.out O wr hbx.out ho2 ho1)
                  clear ho1 ho2 how
                  go_wp2_with fail
                  refine HC.out.mono ?_; rintro e w8 ⟨rfl, hb8⟩
                  go_wp2_with fail
                  go_ret
                  exact ⟨rfl, belowT HB1.out (belowT hb1.out hb8)⟩
          ·
            have g1 : (Z != 0) = true := by simp [hz]
            go_upto_region 9 with fail
            cases h9 : ((D.length : Int) == 0)
            all_goals
              go_wp2_with fail
              go_ret
              exact ⟨rfl, belowT HB1.out B6.out⟩
        ·
          have g2 : (f != 0) = true := by simp [hf]
          have g2' : (f == 0) = false := by simp [hf]
          have hd0 := HBD2.out hf
          subst hd0
          cases hz : (Z != 0)
          ·
            go_wp2_with fail
            go_ret
            exact ⟨rfl, belowT HB1.out B6.out⟩
          ·
            go_wp2_with fail
            go_ret
            exact ⟨rfl, belowT HB1.out B6.out⟩
end Go.Proofs.Ytplebibabcdipaa
