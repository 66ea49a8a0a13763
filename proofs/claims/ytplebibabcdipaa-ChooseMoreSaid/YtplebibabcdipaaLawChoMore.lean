/- The law ChooseMore walked. -/
import Derived.Test.YtplebibabcdipaaLawChoSmall
import Derived.Deep.AppendSrc
namespace Go.Proofs.Ytplebibabcdipaa
open Go.RowKit

theorem step_append_told {P : Program} {w w0 : World} {ops : Array Oper} {o : Oper} {a : Act} {K : Act → World → Prop} {Q : Exit → Act → World → Prop} {E : Prop} (hgd : o.guard = none) (s x : Operand) (t : TypeId)
    (ho : o.op = .call { callee := .builtin .append, args := #[s, x], argTypes := #[t, t] }) (v xv : Value) (hs : a.eval s = v) (hx : a.eval x = xv) (v' : Value) (w' : World)
    (hrun : ∀ ty, (Builtin.append_ #[t, t] ty #[v, xv]).run P w0 = .ok v' w') (hw0 : w = w0) (h : K (a.put o.dst v') w') :
    if Region.wanted o (yielded ops a.tmps) = true then Oper.wp P o a w K Q else E := by
  subst hw0
  have hw : Region.wanted o (yielded ops a.tmps) = true := by simp [Region.wanted, hgd]
  rw [if_pos hw]
  unfold Oper.wp
  simp [execOp, ho, resolve, invoke, builtin, hs, hx, hrun, Result.andThen]
  exact h
/-- 'append(l, s)', the result in its form. -/
theorem app_own2 {base n : Nat} {W : World} {v : Value} {l : List ByteArray} (h : W.ownsRow base 9 1 v n (strs l)) (hb : base ≤ W.heap.size) (hn : l.length = n) (s : ByteArray) (lb : Nat) (hx : W.cell? ⟨lb, 0, none⟩ = some (.string s)) (hl : n ≤ 2000) :
    ∃ a c W', (∀ ty, (Builtin.append_ #[22, 22] ty #[v, .slice (some ⟨lb, 0, none⟩) 1 1]).run Try.prog W = .ok (.slice a (n + 1) c) W') ∧ SVal W' (.slice a (n + 1) c) (l ++ [s]) ∧ Below base W W' := by
  subst hn
  obtain ⟨v', W', h1, h2, h3⟩ := row_app h hb s lb hx hl
  obtain ⟨a, c, rfl⟩ := row_slice h2
  rw [List.length_append] at h1
  have hr := Reads.of_owns h2 (by rw [List.length_append]; simp; omega)
  refine ⟨a, c, W', fun ty => h1, ?_, h3⟩
  show Reads _ _ _ _
  rw [List.length_append] at hr ⊢
  exact hr
theorem app_from {base e : Nat} {W : World} {l : List ByteArray} {n c0 : Nat} (h : W.ownsRow base 9 1 (.slice (some ⟨e, 0, none⟩) 0 c0) 0 []) (hb : base ≤ W.heap.size) {oa : Option Addr} {oc : Nat} (hn : l.length = n) (hs : Reads W (.slice oa n oc) n (strs l)) (hl : n ≤ 2000) :
    ∃ a c W', (∀ ty, (Builtin.append_ #[22, 22] ty #[.slice (some ⟨e, 0, none⟩) 0 c0, .slice oa n oc]).run Try.prog W = .ok (.slice a n c) W') ∧ W'.ownsRow base 9 1 (.slice a n c) n (strs l) ∧ Below base W W' ∧ W.grownBy W' (some e) := by
  obtain ⟨i0, hi0, hz0, hz1, hz2⟩ := info_parts infoStrL
  have he : base ≤ e := row_own h e rfl
  have key : ∀ (ad : Addr), oa = some ad → (∀ j u, (strs l)[j]? = some u → W.cell? (ad.add j) = some u) → ∃ a c W', (∀ ty, (Builtin.append_ #[22, 22] ty #[.slice (some ⟨e, 0, none⟩) 0 c0, .slice oa n oc]).run Try.prog W = .ok (.slice a n c) W') ∧ W'.ownsRow base 9 1 (.slice a n c) n (strs l) ∧ Below base W W' ∧ W.grownBy W' (some e) := by
    intro ad hoa hc
    subst hoa
    obtain ⟨v', w', h1, h2, h3, _⟩ := run_append_own (P := Try.prog) W base 22 22 9 i0 (.string ByteArray.empty) 1 16 Try.underlying22 hi0 hz0 hz1 hz2 rfl (by decide) (.slice (some ⟨e, 0, none⟩) 0 c0) 0 [] h ad n oc (strs l) (by rw [strs_len]; omega) hc (strs_one l) (by unfold maxLen; omega) (by omega) hb
    rw [Nat.zero_add] at h2
    obtain ⟨a, c, rfl⟩ := row_slice h2
    exact ⟨a, c, w', fun ty => h1, h2, Below.grown ⟨rfl, rfl, rfl, Nat.le_refl _, fun _ _ => rfl⟩ h3 hb (fun k hk => by cases hk; exact he), h3⟩
  rcases hs with ⟨rfl, hc, a', cap, hv⟩ | ⟨b, off, cap, hv, _, _, _, hcc⟩
  · cases oa with
    | some ad => exact key ad rfl (fun j u hj => by rw [hc] at hj; simp at hj)
    | none =>
      have hr := fun ty => run_append_room_src (P := Try.prog) W 22 22 ty 9 i0 Try.underlying22 hi0 e 0 0 c0 (.slice none 0 oc) 0 [] (Src.ofNil W (e' := 9) Try.underlying22 oc) (Nat.zero_le _) (fun j hj => absurd hj (Nat.not_lt_zero _)) (fun j hj => absurd hj (Nat.not_lt_zero _))
      exact ⟨some ⟨e, 0, none⟩, c0, W, hr, by rw [hc]; exact h, ⟨rfl, rfl, rfl, Nat.le_refl _, fun _ _ => rfl⟩, ⟨rfl, rfl, rfl, Nat.le_refl _, fun _ _ _ => rfl⟩⟩
  · cases hv
    exact key ⟨b, off, none⟩ rfl (cells_add hcc)
set_option maxHeartbeats 8000000 in
set_option maxRecDepth 100000 in
theorem chooseMore_c (x0 : NAddr) (n : Net) (br : ByteArray) (pt : Int) (ov : Value) (op0 : List ByteArray) (more : ByteArray) (w : World) (hr : NetR w x0 n) (hwf : n.Wf) (hop : SVal w ov op0) :
    Calls Try.prog 12 #[x0.val n, .agg #[.string br, .int .i64 pt], ov, .string more] w fun e w' => e = .returned (.bool true) ∧ Below w.heap.size w w' := by
  obtain ⟨oa, oc, rfl⟩ := hop.slice
  have HIS := Lib.hid (fun W op ov (hb : Below w.heap.size w W) (ho : SVal W ov op) => isol_c x0 n op ov br pt W (hr.below hb) hwf ho)
  obtain ⟨N0, hN0⟩ : ∃ k, op0.length = k := ⟨_, rfl⟩
  have HN0 := Lib.hid hN0
  have HSV : Hid (Reads w (.slice oa N0 oc) N0 (strs op0)) := by show Reads _ _ _ _; rw [← hN0]; exact hop
  have hcap : 0 < N0 → N0 ≤ oc := fun h => by
    obtain ⟨_, _, _, hv, h1, _⟩ := HSV.out.addr h
    cases hv; exact h1
  have hmx : N0 ≤ 9223372036854775807 := by
    rcases HSV.out with ⟨h, _⟩ | ⟨_, _, _, _, _, h, _⟩ <;> omega
  rw [hN0]
  have HLW := Lib.hid (fun op op' h => law_more n ⟨br, pt⟩ op op' h)
  obtain ⟨IS, hIS⟩ : ∃ f : List ByteArray → Bool × Int, (fun op => isolE n op ⟨br, pt⟩) = f := ⟨_, rfl⟩
  have hie : ∀ op, isolE n op ⟨br, pt⟩ = IS op := fun op => by rw [← hIS]
  simp only [hie] at HIS HLW
  clear hr hwf hN0 hIS hie hop
  obtain ⟨na, nc, sa, sc, ba, bc, ga, gc, la, lc, ta, tc⟩ := x0
  obtain ⟨nl, sws, brs, gens, loads, stores⟩ := n
  simp only [NAddr.val] at HIS ⊢
  generalize nl.length = nn at *
  generalize sws.length = sn at *
  generalize brs.length = bn at *
  generalize gens.length = gn at *
  generalize loads.length = ln at *
  generalize stores.length = tn at *
  have B2 := Lib.hid (belowA (belowA (Below.refl w.heap.size w) (.cells #[.slice na nn nc, .slice sa sn sc, .slice ba bn bc, .slice ga gn gc, .slice la ln lc, .slice ta tn tc] 29)) (.cells #[.string br, .int .i64 pt] 31))
  have K2 := Lib.hid ((Blk.new w #[.slice na nn nc, .slice sa sn sc, .slice ba bn bc, .slice ga gn gc, .slice la ln lc, .slice ta tn tc] 29).alloc (.cells #[.string br, .int .i64 pt] 31))
  have K3 := Lib.hid (Blk.new2 w (.cells #[.slice na nn nc, .slice sa sn sc, .slice ba bn bc, .slice ga gn gc, .slice la ln lc, .slice ta tn tc] 29) #[.string br, .int .i64 pt] 31)
  have hs2 : w.heap.size + 1 < ((w.alloc (.cells #[.slice na nn nc, .slice sa sn sc, .slice ba bn bc, .slice ga gn gc, .slice la ln lc, .slice ta tn tc] 29)).alloc (.cells #[.string br, .int .i64 pt] 31)).heap.size := by rw [World.size_alloc, World.size_alloc]; omega
  generalize hW2 : (w.alloc (.cells #[.slice na nn nc, .slice sa sn sc, .slice ba bn bc, .slice ga gn gc, .slice la ln lc, .slice ta tn tc] 29)).alloc (.cells #[.string br, .int .i64 pt] 31) = W2 at *
  have HW2 := Lib.hid hW2
  clear hW2
  go_enter Try.func12, Try.ntmps12
  go_upto_region 1 with fail
  rw [HW2.out]
  go_cut [2] from 13 to 17 (fun s2 wx => ∃ (l : List ByteArray) (N : Nat), l.length = N ∧ N ≤ 8 ∧ s2 = .slice oa N oc ∧ Hid (Reads W2 (.slice oa N oc) N (strs l)) ∧ W2 = wx)
  case first =>
    by_cases h6 : 8 < N0
    ·
      have hc6 : 8 ≤ oc := by have := hcap (by omega); omega
      have hm8 : (min (N0 : Int) 8).toNat = 8 := by omega
      have hlen : (op0.take 8).length = 8 := by rw [List.length_take, HN0.out]; omega
      have ht := (sval_take HSV.out HN0.out (Nat.le_of_lt h6)).below B2.out
      have HT : Hid (Reads W2 (.slice oa 8 oc) 8 (strs (op0.take 8))) := by
        have h2 : Reads W2 (.slice oa 8 oc) (op0.take 8).length (strs (op0.take 8)) := ht
        rw [hlen] at h2; exact h2
      clear ht
      go_wp2_with fail
      go_meet
      exact ⟨op0.take 8, 8, hlen, by omega, rfl, HT, rfl⟩
    ·
      have hcc : N0 ≤ oc := by
        rcases Nat.eq_zero_or_pos N0 with h | h
        · omega
        · exact hcap h
      have HT := Lib.hid (HSV.out.below B2.out)
      have hm8 : (min (N0 : Int) 8).toNat = N0 := by omega
      go_wp2_with fail
      go_meet
      exact ⟨op0, N0, HN0.out, by omega, rfl, HT, rfl⟩
  case rest =>
    obtain ⟨op, N, hN, hN8, rfl, HOP, rfl⟩ := hcut
    have HN := Lib.hid hN
    have HOS : Hid (SVal W2 (.slice oa N oc) op) := by show Reads _ _ _ _; rw [hN]; exact HOP.out
    have HIS2 := Lib.hid (fun W (hb : Below W2.heap.size W2 W) => HIS.out W op (.slice oa N oc) (belowT B2.out hb) (HOS.out.below hb))
    have hlw := HLW.out op (op ++ [more]) (fun s hs => List.mem_append_left _ hs)
    have HIM := Lib.hid (fun W v (hb : Below W2.heap.size W2 W) (hv : SVal W v (op ++ [more])) => HIS.out W (op ++ [more]) v (belowT B2.out hb) hv)
    obtain ⟨IE, hIE⟩ : ∃ r, IS op = r := ⟨_, rfl⟩
    obtain ⟨IE2, hIE2⟩ : ∃ r, IS (op ++ [more]) = r := ⟨_, rfl⟩
    rw [hIE] at HIS2 hlw
    rw [hIE2] at HIM hlw
    have HLW2 := Lib.hid hlw
    obtain ⟨IB, IER⟩ := IE
    obtain ⟨IB2, IER2⟩ := IE2
    simp only at HIS2 HIM HLW2
    clear hN hIE hIE2 hlw HIS HLW hcap hmx HSV HN0
    go_wp2_with fail
    refine (chooseWorks_c W2).mono ?_; rintro e w3 ⟨rfl, hb3⟩
    have C3 := Lib.hid hb3
    have B3 := Lib.hid (belowT B2.out hb3)
    have x0 := (below_blk hb3 K2.out K2.out.lt).cell 0 rfl
    have x1 := (below_blk hb3 K2.out K2.out.lt).cell 1 rfl
    have x2 := (below_blk hb3 K2.out K2.out.lt).cell 2 rfl
    have x3 := (below_blk hb3 K2.out K2.out.lt).cell 3 rfl
    have x4 := (below_blk hb3 K2.out K2.out.lt).cell 4 rfl
    have x5 := (below_blk hb3 K2.out K2.out.lt).cell 5 rfl
    have y0 := (below_blk hb3 K3.out K3.out.lt).cell 0 rfl
    have y1 := (below_blk hb3 K3.out K3.out.lt).cell 1 rfl
    clear hb3
    go_wp2_with fail
    refine (HIS2.out w3 C3.out).mono ?_; rintro e w4 ⟨rfl, hb4⟩
    have C4 := Lib.hid (belowT C3.out hb4)
    clear x0 x1 x2 x3 x4 x5 y0 y1 hb4 HIS2
    have HSB : Hid (∀ W, Below W2.heap.size W2 W → (W.cell? ⟨w.heap.size, 0, none⟩ = some (.slice na nn nc) ∧ W.cell? ⟨w.heap.size, 1, none⟩ = some (.slice sa sn sc) ∧ W.cell? ⟨w.heap.size, 2, none⟩ = some (.slice ba bn bc) ∧ W.cell? ⟨w.heap.size, 3, none⟩ = some (.slice ga gn gc) ∧ W.cell? ⟨w.heap.size, 4, none⟩ = some (.slice la ln lc) ∧ W.cell? ⟨w.heap.size, 5, none⟩ = some (.slice ta tn tc)) ∧ W.cell? ⟨w.heap.size + 1, 0, none⟩ = some (.string br) ∧ W.cell? ⟨w.heap.size + 1, 1, none⟩ = some (.int .i64 pt)) := fun W hW => by
      have k := below_blk hW K2.out K2.out.lt
      have l := below_blk hW K3.out K3.out.lt
      exact ⟨⟨k.cell 0 rfl, k.cell 1 rfl, k.cell 2 rfl, k.cell 3 rfl, k.cell 4 rfl, k.cell 5 rfl⟩, l.cell 0 rfl, l.cell 1 rfl⟩
    have D0 : Hid (Below W2.heap.size W2 w4.drew) := ⟨C4.out.os, C4.out.tape, C4.out.output, C4.out.size, C4.out.block⟩
    have hz4 : W2.heap.size ≤ w4.heap.size := C4.out.size
    have HOL : Hid (op.length ≤ 8) := by show _ ≤ _; have := HN.out; omega
    have DE : Hid (Below W2.heap.size W2 (w4.alloc (.cells #[] 9)).drew) := (below_drewN (C4.out.alloc C4.out.size (.cells #[] 9)) 1)
    have DM : Hid (Below W2.heap.size W2 (w4.alloc (.cells #[.string more] 9)).drew) := (below_drewN (C4.out.alloc C4.out.size (.cells #[.string more] 9)) 1)
    have DB : Hid (Below W2.heap.size W2 ((w4.alloc (.cells #[] 9)).alloc (.cells #[.string more] 9)).drew) := (below_drewN ((C4.out.alloc C4.out.size (.cells #[] 9)).alloc (C4.out.alloc C4.out.size (.cells #[] 9)).size (.cells #[.string more] 9)) 1)
    have DC : Hid (Below W2.heap.size W2 ((w4.alloc (.cells #[.string more] 9)).alloc (.cells #[] 9)).drew) := (below_drewN ((C4.out.alloc C4.out.size (.cells #[.string more] 9)).alloc (C4.out.alloc C4.out.size (.cells #[.string more] 9)).size (.cells #[] 9)) 1)
    have zE : ((w4.alloc (.cells #[] 9)).drew.heap.size) = w4.heap.size + 1 := World.size_alloc _ _
    have zM : ((w4.alloc (.cells #[.string more] 9)).drew.heap.size) = w4.heap.size + 1 := World.size_alloc _ _
    have hOPd : ∀ W, Below W2.heap.size W2 W → Reads W (.slice oa N oc) N (strs op) := fun W hW => HOP.out.below hW
    have hEA : Blk (w4.alloc (.cells #[] 9)).drew w4.heap.size #[] 9 := (Blk.new w4 _ _).drew
    have rEA := owns_lit (base := w4.heap.size) hEA (Nat.le_refl _) 1 0 rfl (by decide)
    obtain ⟨aA, cA, uA, hapA, oA, bA, gA⟩ := app_from rEA (by rw [zE]; omega) HN.out (hOPd _ DE.out) (by omega)
    have hMA := Blk.new uA #[.string more] 9
    have sA := bA.size
    obtain ⟨aA2, cA2, uA2, hapA2, vA2, bA2⟩ := app_own2 (row_alloc oA (.cells #[.string more] 9)) (by rw [World.size_alloc]; rw [zE] at sA; omega) HN.out more uA.heap.size (hMA.cell 0 rfl) (by omega)
    have zB : (((w4.alloc (.cells #[] 9)).alloc (.cells #[.string more] 9)).drew.heap.size) = w4.heap.size + 1 + 1 := by show (World.alloc _ _).heap.size = _; rw [World.size_alloc, World.size_alloc]
    have zC : (((w4.alloc (.cells #[.string more] 9)).alloc (.cells #[] 9)).drew.heap.size) = w4.heap.size + 1 + 1 := by show (World.alloc _ _).heap.size = _; rw [World.size_alloc, World.size_alloc]
    have hEB : Blk ((w4.alloc (.cells #[] 9)).alloc (.cells #[.string more] 9)).drew w4.heap.size #[] 9 := ((Blk.new w4 #[] 9).alloc _).drew
    have rEB := owns_lit (base := w4.heap.size) hEB (Nat.le_refl _) 1 0 rfl (by decide)
    obtain ⟨aB, cB, uB, hapB, oB, bB, gB⟩ := app_from rEB (by rw [zB]; omega) HN.out (hOPd _ DB.out) (by omega)
    have hMB : Blk ((w4.alloc (.cells #[] 9)).alloc (.cells #[.string more] 9)).drew (w4.heap.size + 1) #[.string more] 9 := (Blk.new2 w4 (.cells #[] 9) #[.string more] 9).drew
    have hMuB := hMB.gro gB (by simp)
    have sB := bB.size
    obtain ⟨aB2, cB2, uB2, hapB2, vB2, bB2⟩ := app_own2 oB (by rw [zB] at sB; omega) HN.out more (w4.heap.size + 1) (hMuB.cell 0 rfl) (by omega)
    have hMC : Blk ((w4.alloc (.cells #[.string more] 9)).alloc (.cells #[] 9)).drew w4.heap.size #[.string more] 9 := ((Blk.new w4 #[.string more] 9).alloc _).drew
    have hEC : Blk ((w4.alloc (.cells #[.string more] 9)).alloc (.cells #[] 9)).drew (w4.heap.size + 1) #[] 9 := (Blk.new2 w4 (.cells #[.string more] 9) #[] 9).drew
    have rEC := owns_lit (base := w4.heap.size) hEC (Nat.le_succ _) 1 0 rfl (by decide)
    obtain ⟨aC, cC, uC, hapC, oC, bC, gC⟩ := app_from rEC (by rw [zC]; omega) HN.out (hOPd _ DC.out) (by omega)
    have hMuC := hMC.gro gC (by simp)
    have sC := bC.size
    obtain ⟨aC2, cC2, uC2, hapC2, vC2, bC2⟩ := app_own2 oC (by rw [zC] at sC; omega) HN.out more w4.heap.size (hMuC.cell 0 rfl) (by omega)
    have EA1 := Lib.hid (DE.out.trans (bA.mono hz4))
    have EA2 := Lib.hid (EA1.out.alloc EA1.out.size (.cells #[.string more] 9))
    have EA3 := Lib.hid (EA2.out.trans (bA2.mono hz4))
    have EB1 := Lib.hid (DB.out.trans (bB.mono hz4))
    have EB3 := Lib.hid (EB1.out.trans (bB2.mono hz4))
    have EC1 := Lib.hid (DC.out.trans (bC.mono hz4))
    have EC3 := Lib.hid (EC1.out.trans (bC2.mono hz4))
    have CA := Lib.hid (HIM.out uA2 _ EA3.out vA2)
    have CB := Lib.hid (HIM.out uB2 _ EB3.out vB2)
    have CC := Lib.hid (HIM.out uC2 _ EC3.out vC2)
    have PA := Lib.hid hapA
    have PA2 := Lib.hid hapA2
    have PB := Lib.hid hapB
    have PB2 := Lib.hid hapB2
    have PC := Lib.hid hapC
    have PC2 := Lib.hid hapC2
    clear hEA rEA hMA hEB rEB hMB hMuB hMC hEC rEC hMuC oA oB oC bA bA2 bB bB2 bC bC2 gA gB gC vA2 vB2 vC2 hapA hapA2 hapB hapB2 hapC hapC2 zE zM zB zC sA sB sC HIM hOPd
    go_upto_region 5 with fail
    go_cut [11, 12] from 27 to 38 (fun s11 s12 wx => s11 = .bool IB2 ∧ s12 = .int .i64 IER2 ∧ Hid (Below W2.heap.size W2 wx))
    case first =>
      clear HLW2
      go_region_held_law (fun W => (W.cell? ⟨w.heap.size, 0, none⟩ = some (.slice na nn nc) ∧ W.cell? ⟨w.heap.size, 1, none⟩ = some (.slice sa sn sc) ∧ W.cell? ⟨w.heap.size, 2, none⟩ = some (.slice ba bn bc) ∧ W.cell? ⟨w.heap.size, 3, none⟩ = some (.slice ga gn gc) ∧ W.cell? ⟨w.heap.size, 4, none⟩ = some (.slice la ln lc) ∧ W.cell? ⟨w.heap.size, 5, none⟩ = some (.slice ta tn tc)) ∧ W.cell? ⟨w.heap.size + 1, 0, none⟩ = some (.string br) ∧ W.cell? ⟨w.heap.size + 1, 1, none⟩ = some (.int .i64 pt))
        ((refine HSB.out _ ?_; first | (with_reducible exact D0.out) | (with_reducible exact DE.out) | (with_reducible exact DM.out) | (with_reducible exact DB.out) | (with_reducible exact DC.out) | (with_reducible exact EA1.out) | (with_reducible exact EA2.out) | (with_reducible exact EA3.out) | (with_reducible exact EB1.out) | (with_reducible exact EB3.out) | (with_reducible exact EC1.out) | (with_reducible exact EC3.out) | (with_reducible exact Dend.out)))
        (first
          | (refine step_append_told rfl (.tmp 29) (.tmp 30) 22 rfl (.slice (some ⟨w4.heap.size, 0, none⟩) 0 0) (.slice oa N oc) rfl rfl (.slice aA N cA) uA PA.out (by with_reducible rfl) ?_)
          | (refine step_append_told rfl (.tmp 29) (.tmp 30) 22 rfl (.slice (some ⟨w4.heap.size, 0, none⟩) 0 0) (.slice oa N oc) rfl rfl (.slice aB N cB) uB PB.out (by with_reducible rfl) ?_)
          | (refine step_append_told rfl (.tmp 29) (.tmp 30) 22 rfl (.slice (some ⟨w4.heap.size + 1, 0, none⟩) 0 0) (.slice oa N oc) rfl rfl (.slice aC N cC) uC PC.out (by with_reducible rfl) ?_)
          | (refine step_append_told rfl (.tmp 31) (.tmp 33) 22 rfl (.slice aA N cA) (.slice (some ⟨uA.heap.size, 0, none⟩) 1 1) rfl rfl (.slice aA2 (N + 1) cA2) uA2 PA2.out (by with_reducible rfl) ?_)
          | (refine step_append_told rfl (.tmp 31) (.tmp 33) 22 rfl (.slice aB N cB) (.slice (some ⟨w4.heap.size + 1, 0, none⟩) 1 1) rfl rfl (.slice aB2 (N + 1) cB2) uB2 PB2.out (by with_reducible rfl) ?_)
          | (refine step_append_told rfl (.tmp 31) (.tmp 33) 22 rfl (.slice aC N cC) (.slice (some ⟨w4.heap.size, 0, none⟩) 1 1) rfl rfl (.slice aC2 (N + 1) cC2) uC2 PC2.out (by with_reducible rfl) ?_)
          | (go_simp; go_at_call 32; (with_reducible refine CA.out.mono ?_); rintro e w6 ⟨rfl, hb6⟩; have Dend := Lib.hid (belowT EA3.out hb6); clear hb6)
          | (go_simp; go_at_call 32; (with_reducible refine CB.out.mono ?_); rintro e w6 ⟨rfl, hb6⟩; have Dend := Lib.hid (belowT EB3.out hb6); clear hb6)
          | (go_simp; go_at_call 32; (with_reducible refine CC.out.mono ?_); rintro e w6 ⟨rfl, hb6⟩; have Dend := Lib.hid (belowT EC3.out hb6); clear hb6))
      all_goals
        go_simp
        go_wp2_with fail
        go_meet
        exact ⟨rfl, rfl, Dend⟩
    case rest =>
      obtain ⟨rfl, rfl, hc6⟩ := hcut
      clear PA PA2 PB PB2 PC PC2 CA CB CC EA1 EA2 EA3 EB1 EB3 EC1 EC3 DE DM DB DC D0 HSB
      by_cases hz : IER = 0
      ·
        rcases HLW2.out.2 hz with ⟨h1, h2⟩ | ⟨h1, h2⟩
        · subst h2; subst hz
          have g1 : (IER2 != 0) = true := by simpa using h1
          clear HLW2 h1
          go_wp2_with fail
          go_ret
          exact ⟨rfl, belowT B2.out hc6.out⟩
        · subst h1; subst hz
          cases IB
          ·
            clear HLW2 h2
            go_wp2_with fail
            go_ret
            exact ⟨rfl, belowT B2.out hc6.out⟩
          ·
            have h3 := h2 rfl
            subst h3
            clear HLW2 h2
            go_wp2_with fail
            go_ret
            exact ⟨rfl, belowT B2.out hc6.out⟩
      ·
        have h1 := HLW2.out.1 hz
        subst h1
        have g1 : (IER != 0) = true := by simpa using hz
        clear HLW2 hz
        go_wp2_with fail
        go_ret
        exact ⟨rfl, belowT B2.out hc6.out⟩
end Go.Proofs.Ytplebibabcdipaa
