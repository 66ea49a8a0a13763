/- choose: Isolated, the walk. -/
import Derived.Test.YtplebibabcdipaaCho17
namespace Go.Proofs.Ytplebibabcdipaa
open Go.RowKit

set_option maxHeartbeats 1000000 in
theorem pr3_c (c : CNet) (X : Nat) (ea : Option Addr) (ec : Nat) (sa : Option Addr) (sc : Nat) (s : ByteArray) (xb fb : Nat) (w : World) (hn : NetC w X c ea ec sa sc) (c0 : w.cell? ⟨xb, 0, none⟩ = some (.pointer (some ⟨X, 0, none⟩))) (hxb : xb < w.heap.size)
    (c1 : w.cell? ⟨fb, 0, none⟩ = some (.func (.func 69) #[] #[.pointer (some ⟨xb, 0, none⟩)])) :
    Calls Try.prog 76 #[.string s, .pointer (some ⟨fb, 0, none⟩)] w fun e w' => e = .returned (.bool (!brkN c s)) ∧ Below w.heap.size w w' := by
  have HC := Lib.hid (pr1_c c X ea ec sa sc s xb w hn c0 hxb)
  generalize brkN c s = E at *
  clear hn c0 hxb
  go_enter Try.func76, Try.ntmps76
  go_wp2_with fail
  refine HC.out.mono ?_; rintro e w2 ⟨rfl, hb2⟩
  have HB2 := Lib.hid hb2
  clear hb2
  go_wp2_with fail
  go_ret
  exact ⟨rfl, HB2.out⟩
theorem all_drop2 {P : ByteArray → Bool} {l : List ByteArray} {k : Nat} {x : ByteArray} (h : l[k]? = some x) : (l.drop k).all P = (P x && (l.drop (k + 1)).all P) := by
  obtain ⟨hk, hx⟩ := List.getElem?_eq_some_iff.1 h
  rw [List.drop_eq_getElem_cons hk, hx]; rfl
set_option maxHeartbeats 8000000 in
set_option maxRecDepth 100000 in
theorem isol_c (x0 : NAddr) (n : Net) (op : List ByteArray) (ov : Value) (br : ByteArray) (pt : Int) (w : World) (hr : NetR w x0 n) (hwf : n.Wf) (hop : SVal w ov op) :
    Calls Try.prog 32 #[x0.val n, ov, .agg #[.string br, .int .i64 pt]] w fun e w' => e = .returned (.tuple #[.bool (isolE n op ⟨br, pt⟩).1, .int .i64 (isolE n op ⟨br, pt⟩).2]) ∧ Below w.heap.size w w' := by
  obtain ⟨oa, oc, rfl⟩ := hop.slice
  have HP := Lib.hid (fun W (hb : Below w.heap.size w W) => place_c x0 n br pt W (hr.below hb) hwf)
  have HBU := Lib.hid (fun W (hb : Below w.heap.size w W) (h2 : n.Ok2) => build_c x0 n br pt W (hr.below hb) h2)
  have HSW : Hid (∀ (W : World) (s : ByteArray) (nb : Nat), Below w.heap.size w W → nb < W.heap.size → W.cell? ⟨nb, 0, none⟩ = some (.string s) →
      Calls Try.prog 64 #[.slice x0.sa n.sws.length x0.sc, .func (.func 65) #[] #[.pointer (some ⟨nb, 0, none⟩)]] W fun e w' => e = .returned (.bool (n.sws.any fun x => sameB x.name s)) ∧ Below W.heap.size W w') := fun W s nb hb hnb hc =>
    contSw_c _ n.sws (fun x => sameB x.name s) _ _ W (hr.sws.below hb) (fun a w' => enters_of Try.func65 (by kernel_rfl) rfl a w')
      (fun a W' _ hW => (iso1_c a s nb W' (by rw [hW.cell (p := ⟨nb, 0, none⟩) hnb]; exact hc) (Nat.lt_of_lt_of_le hnb hW.size)).mono fun e w' ⟨he, hw⟩ => ⟨he, hW.trans (hw.mono hW.size)⟩)
  have HE : Hid (isolE n op ⟨br, pt⟩ = if placeE n ⟨br, pt⟩ ≠ 0 then (false, placeE n ⟨br, pt⟩) else if knownS n op = true then (isoC (buildC n ⟨br, pt⟩) (fun e => hasS e.name op), 0) else (false, 6)) := rfl
  have HOK : Hid (placeE n ⟨br, pt⟩ = 0 → n.Ok2 ∧ (buildC n ⟨br, pt⟩).Ok) := fun h => ⟨netE_ok2 (placeE_net h), (build_ok (placeE_net h)).1⟩
  have HKN : Hid ((op.drop 0).all (fun s => n.sws.any fun x => sameB x.name s) = knownS n op) := rfl
  generalize isolE n op ⟨br, pt⟩ = LE at *
  generalize placeE n ⟨br, pt⟩ = PE at *
  generalize buildC n ⟨br, pt⟩ = c at *
  generalize knownS n op = KN at *
  obtain ⟨PS, hPS⟩ : ∃ p : ByteArray → Bool, (fun s => n.sws.any fun x => sameB x.name s) = p := ⟨_, rfl⟩
  have hps : ∀ s, (n.sws.any fun x => sameB x.name s) = PS s := fun s => by rw [← hPS]
  simp only [hps] at HSW
  rw [hPS] at HKN
  have HSV : Hid (Reads w (.slice oa op.length oc) op.length (strs op)) := hop
  obtain ⟨on, hON⟩ : ∃ k, op.length = k := ⟨_, rfl⟩
  have HON := Lib.hid hON
  have hon : on ≤ 9223372036854775807 := by
    rcases hop with ⟨h, _⟩ | ⟨_, _, _, _, _, h, _⟩ <;> omega
  rw [hON] at HSV ⊢
  clear hr hwf hPS hps hop hON
  obtain ⟨na, nc, sa, sc, ba, bc, ga, gc, la, lc, ta, tc⟩ := x0
  obtain ⟨nl, sws, brs, gens, loads, stores⟩ := n
  simp only [NAddr.val] at HP HBU HSW ⊢
  generalize nl.length = nn at *
  generalize sws.length = sn at *
  generalize brs.length = bn at *
  generalize gens.length = gn at *
  generalize loads.length = ln at *
  generalize stores.length = tn at *
  have B2 := Lib.hid (belowA (belowA (belowA (Below.refl w.heap.size w) (.cells #[.slice na nn nc, .slice sa sn sc, .slice ba bn bc, .slice ga gn gc, .slice la ln lc, .slice ta tn tc] 29)) (.cells #[.slice oa on oc] 22)) (.cells #[.string br, .int .i64 pt] 31))
  have K1 := ((Blk.new w #[.slice na nn nc, .slice sa sn sc, .slice ba bn bc, .slice ga gn gc, .slice la ln lc, .slice ta tn tc] 29).alloc (.cells #[.slice oa on oc] 22)).alloc (.cells #[.string br, .int .i64 pt] 31)
  have K2 := (Blk.new2 w (.cells #[.slice na nn nc, .slice sa sn sc, .slice ba bn bc, .slice ga gn gc, .slice la ln lc, .slice ta tn tc] 29) #[.slice oa on oc] 22).alloc (.cells #[.string br, .int .i64 pt] 31)
  have K3 : Blk (((w.alloc (.cells #[.slice na nn nc, .slice sa sn sc, .slice ba bn bc, .slice ga gn gc, .slice la ln lc, .slice ta tn tc] 29)).alloc (.cells #[.slice oa on oc] 22)).alloc (.cells #[.string br, .int .i64 pt] 31)) (w.heap.size + 1 + 1) #[.string br, .int .i64 pt] 31 := by
    have := Blk.new ((w.alloc (.cells #[.slice na nn nc, .slice sa sn sc, .slice ba bn bc, .slice ga gn gc, .slice la ln lc, .slice ta tn tc] 29)).alloc (.cells #[.slice oa on oc] 22)) #[.string br, .int .i64 pt] 31
    rw [World.size_alloc, World.size_alloc] at this; exact this
  have hs2 : w.heap.size + 1 + 1 < (((w.alloc (.cells #[.slice na nn nc, .slice sa sn sc, .slice ba bn bc, .slice ga gn gc, .slice la ln lc, .slice ta tn tc] 29)).alloc (.cells #[.slice oa on oc] 22)).alloc (.cells #[.string br, .int .i64 pt] 31)).heap.size := by rw [World.size_alloc, World.size_alloc, World.size_alloc]; omega
  generalize hW2 : ((w.alloc (.cells #[.slice na nn nc, .slice sa sn sc, .slice ba bn bc, .slice ga gn gc, .slice la ln lc, .slice ta tn tc] 29)).alloc (.cells #[.slice oa on oc] 22)).alloc (.cells #[.string br, .int .i64 pt] 31) = W2 at *
  have HW2 := Lib.hid hW2
  clear hW2
  have x0 := K1.cell 0 rfl
  have x1 := K1.cell 1 rfl
  have x2 := K1.cell 2 rfl
  have x3 := K1.cell 3 rfl
  have x4 := K1.cell 4 rfl
  have x5 := K1.cell 5 rfl
  have y0 := K3.cell 0 rfl
  have y1 := K3.cell 1 rfl
  go_enter Try.func32, Try.ntmps32
  go_upto_region 1 with fail
  rw [HW2.out]
  go_wp2_with fail
  refine (HP.out _ B2.out).mono ?_; rintro e w3 ⟨rfl, hb3⟩
  have HB3 := Lib.hid (belowT B2.out hb3)
  have hs3 : w.heap.size + 1 + 1 < w3.heap.size := by have := hb3.size; omega
  have K1' := Lib.hid (below_blk hb3 K1 K1.lt)
  have K2' := Lib.hid (below_blk hb3 K2 K2.lt)
  have K3' := Lib.hid (below_blk hb3 K3 K3.lt)
  clear x0 x1 x2 x3 x4 x5 y0 y1 K1 K2 K3 hb3 HP hs2
  by_cases hp : PE = 0
  ·
    obtain ⟨ho2, hcok⟩ := HOK.out hp
    have HE2 := Lib.hid (HE.out.trans (if_neg (fun h => h hp)))
    have z0 := K2'.out.cell 0 rfl
    subst hp
    clear HE HOK
    go_wp2_with fail
    go_loopw [19] (fun i wr => ∃ k : Nat, k ≤ on ∧ i = .int .i64 k ∧ Hid ((op.drop k).all PS = KN) ∧ Hid (Below w3.heap.size w3 wr)) (fun i _ => on - (intOf i).toNat)
    case atStart => exact ⟨0, Nat.zero_le _, rfl, HKN, Below.refl _ _⟩
    case round =>
      clear HKN z0
      obtain ⟨k, hk, rfl, hkn, hb⟩ := hrel
      have HBW := Lib.hid (belowT HB3.out hb.out)
      by_cases hlt : k < on
      ·
        obtain ⟨s, hs⟩ : ∃ x, op[k]? = some x := ⟨_, List.getElem?_eq_getElem (by rw [HON.out]; exact hlt)⟩
        have hd := all_drop2 (P := PS) hs
        rw [hd] at hkn
        obtain ⟨g', off, cap', hvv, _, _, _, hcc⟩ := (HSV.out.below HBW.out).addr (by omega)
        simp only [Value.slice.injEq] at hvv
        obtain ⟨rfl, _, rfl⟩ := hvv
        have c0 := hcc k (.string s) (by unfold strs; rw [List.getElem?_map, hs]; rfl)
        have x1 := (below_blk hb.out K1'.out (by omega)).cell 1 rfl
        have EN := Blk.new wr #[.string s] 9
        have x1 := ((below_blk hb.out K1'.out (by omega)).alloc (.cells #[.string s] 9)).cell 1 rfl
        have HC := Lib.hid (HSW.out (wr.alloc (.cells #[.string s] 9)) s wr.heap.size (belowA HBW.out _) EN.lt (EN.cell 0 rfl))
        have B4 := Lib.hid (belowA hb.out (.cells #[.string s] 9))
        clear hcc hs hd EN
        cases hq : PS s
        ·
          rw [hq] at HC hkn
          have HKF : Hid (KN = false) := by show _ = _; rw [← hkn.out]; rfl
          have HL := Lib.hid (HE2.out.trans (if_neg (by rw [HKF.out]; decide)))
          clear hq hkn
          go_wp2_with fail
          refine HC.out.mono ?_; rintro ee w4 ⟨rfl, hb4⟩
          have HB5 := Lib.hid (belowT HB3.out (belowT B4.out hb4))
          clear hb4
          go_wp2_with fail
          go_ret2
          exact ⟨by rw [HL.out]; rfl, HB5.out⟩
        ·
          rw [hq] at HC hkn
          have HK2 : Hid ((op.drop (k + 1)).all PS = KN) := by show _ = _; rw [← hkn.out]; rfl
          clear hq hkn
          go_wp2_with fail
          refine HC.out.mono ?_; rintro ee w4 ⟨rfl, hb4⟩
          have HB5 := Lib.hid (belowT B4.out hb4)
          clear hb4 c0
          go_wp2_with fail
          go_roundw
          case rel => exact ⟨k + 1, hlt, by go_num, HK2, HB5⟩
          case measure => simp [intOf]; omega
      ·
        have hn0 : op.drop k = [] := List.drop_eq_nil_of_le (by rw [HON.out]; omega)
        have HKT : Hid (KN = true) := by show _ = _; rw [← hkn.out, hn0]; rfl
        have HL := Lib.hid (HE2.out.trans (if_pos HKT.out))
        have K1 := below_blk hb.out K1'.out (by omega)
        have K3 := below_blk hb.out K3'.out (by omega)
        have x0 := K1.cell 0 rfl
        have x1 := K1.cell 1 rfl
        have x2 := K1.cell 2 rfl
        have x3 := K1.cell 3 rfl
        have x4 := K1.cell 4 rfl
        have x5 := K1.cell 5 rfl
        have y0 := K3.cell 0 rfl
        have y1 := K3.cell 1 rfl
        clear hn0 hkn K1 K3
        go_wp2_with fail
        refine (HBU.out _ HBW.out ho2).mono ?_; rintro e w4 ⟨X, ea, ec, xa, xc, rfl, hn, hb4⟩
        have HB4 := Lib.hid (belowT HBW.out hb4)
        have K2 := below_blk (hb.out.trans (hb4.mono hb.out.size)) K2'.out (by omega)
        have hs4 : w.heap.size + 1 < w4.heap.size := by have h1 := hb4.size; have h2 := hb.out.size; omega
        have HIS := Lib.hid (isolated_c c hcok X ea ec xa xc 67 #[.pointer (some ⟨w.heap.size + 1, 0, none⟩)] (fun e => hasS e.name op) w4 hn (fun a w' => enters_of Try.func67 (by kernel_rfl) rfl a w')
          (fun a W _ hW => by
            have h1 := iso2_c a op oa oc (w.heap.size + 1) W (by rw [HON.out, hW.cell (p := ⟨w.heap.size + 1, 0, none⟩) hs4]; exact K2.cell 0 rfl) (Nat.lt_of_lt_of_le hs4 hW.size) (by show Reads _ _ _ _; rw [HON.out]; exact HSV.out.below (HB4.out.trans (hW.mono HB4.out.size)))
            exact h1))
        clear x0 x1 x2 x3 x4 x5 y0 y1 HBU hn hb4 K2
        go_wp2_with fail
        refine HIS.out.mono ?_; rintro e w5 ⟨rfl, hb5⟩
        have HB5 := Lib.hid (belowT HB4.out hb5)
        clear hb5
        go_wp2_with fail
        go_ret2
        exact ⟨by rw [HL.out]; rfl, HB5.out⟩
  ·
    have HL := Lib.hid (HE.out.trans (if_pos hp))
    have g1 : (PE != 0) = true := by simpa using hp
    clear HE HOK HBU hp
    go_wp2_with fail
    go_ret2
    exact ⟨by rw [HL.out]; rfl, HB3.out⟩
end Go.Proofs.Ytplebibabcdipaa
