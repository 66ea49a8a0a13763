/- choose: Ways, the walk. -/
import Derived.Test.YtplebibabcdipaaCho14
import Derived.Test.YtplebibabcdipaaCho15
namespace Go.Proofs.Ytplebibabcdipaa
open Go.RowKit

/-- Lists of names in memory. -/
def RLL (W : World) (v : Value) (ls : List (List ByteArray)) : Prop :=
  ∃ hs : List Value, hs.length = ls.length ∧ Reads W v ls.length hs ∧ ∀ (i : Nat) (h : Value) (l : List ByteArray), hs[i]? = some h → ls[i]? = some l → Reads W h l.length (strs l)
theorem RLL.below {W W' : World} {v : Value} {ls : List (List ByteArray)} (h : RLL W v ls) (k : Below W.heap.size W W') : RLL W' v ls := by
  obtain ⟨hs, h1, h2, h3⟩ := h
  exact ⟨hs, h1, h2.below k, fun i u l hu hl => (h3 i u l hu hl).below k⟩
theorem RLL.nil (W : World) : RLL W (.slice none 0 0) [] := ⟨[], rfl, Or.inl ⟨rfl, rfl, none, 0, rfl⟩, fun i h l hh => by simp at hh⟩
/-- .. and in rows of the call's own. -/
def OLL (W : World) (base : Nat) (v : Value) (ls : List (List ByteArray)) : Prop :=
  ∃ hs : List Value, hs.length = ls.length ∧ W.ownsRow base 22 1 v ls.length hs ∧ (∀ u ∈ hs, u.oneCell' = true) ∧ ∀ (i : Nat) (h : Value) (l : List ByteArray), hs[i]? = some h → ls[i]? = some l → l.length ≤ 1000000000 ∧ W.ownsRow base 9 1 h l.length (strs l)
theorem OLL.nil (W : World) (base : Nat) : OLL W base (.slice none 0 0) [] := ⟨[], rfl, ⟨rfl, Or.inl ⟨rfl, rfl⟩⟩, (fun u hu => by cases hu), fun i h l hh => by simp at hh⟩
theorem OLL.but {W W' : World} {base b : Nat} {v : Value} {ls : List (List ByteArray)} (h : OLL W base v ls) (k : But b W W') (hb : b < base) : OLL W' base v ls := by
  obtain ⟨hs, h1, h2, h3, h4⟩ := h
  exact ⟨hs, h1, row_kept h2 k hb, h3, fun i u l hu hl => ⟨(h4 i u l hu hl).1, row_kept (h4 i u l hu hl).2 k hb⟩⟩
theorem OLL.alloc {W : World} {base : Nat} {v : Value} {ls : List (List ByteArray)} (h : OLL W base v ls) (o : Obj) : OLL (W.alloc o) base v ls := by
  obtain ⟨hs, h1, h2, h3, h4⟩ := h
  exact ⟨hs, h1, row_alloc h2 o, h3, fun i u l hu hl => ⟨(h4 i u l hu hl).1, row_alloc (h4 i u l hu hl).2 o⟩⟩
theorem row_gro {W W' : World} {base : Nat} {e : TypeId} {sz n : Nat} {v : Value} {xs : List Value} {r : Option Nat} (h : W.ownsRow base e sz v n xs) (k : W.grownBy W' r) (hne : ∀ g, v.ownBlock = some g → r ≠ some g) : W'.ownsRow base e sz v n xs := by
  obtain ⟨h1, h2⟩ := h
  refine ⟨h1, h2.imp id ?_⟩
  rintro ⟨g, cap, cur, rfl, e2, e3, e4⟩
  refine ⟨g, cap, cur, rfl, e2, ?_, e4⟩
  rw [k.block g (by have := (Array.getElem?_eq_some_iff.1 e3).1; exact this) (fun e => hne g rfl e.symm)]
  exact e3
theorem row_type {W : World} {base base' : Nat} {e e' : TypeId} {sz sz' n n' : Nat} {v v' : Value} {xs xs' : List Value} (h : W.ownsRow base e sz v n xs) (h' : W.ownsRow base' e' sz' v' n' xs') (hne : e ≠ e') : ∀ g, v.ownBlock = some g → v'.ownBlock ≠ some g := by
  obtain ⟨_, h2⟩ := h
  obtain ⟨_, h2'⟩ := h'
  intro g hg hg'
  rcases h2 with ⟨rfl, _⟩ | ⟨g1, c1, cur1, rfl, _, e3, _⟩
  · cases hg
  · rcases h2' with ⟨rfl, _⟩ | ⟨g2, c2, cur2, rfl, _, e3', _⟩
    · cases hg'
    · cases hg; cases hg'
      rw [e3] at e3'
      injection e3' with e4
      injection e4 with _ e5 _
      exact hne e5
theorem row_le {W : World} {base base' sz n : Nat} {e : TypeId} {v : Value} {xs : List Value} (h : W.ownsRow base e sz v n xs) (hb : base' ≤ base) : W.ownsRow base' e sz v n xs :=
  ⟨h.1, h.2.imp id (fun ⟨g, cap, cur, e1, e2, e3⟩ => ⟨g, cap, cur, e1, Nat.le_trans hb e2, e3⟩)⟩
theorem infoSlS : (Try.prog.info? 22).map (fun i => (i.zero, i.size, i.bytes)) = some (some (.slice none 0 0), 1, 24) := by kernel_rfl
theorem OLL.app {base : Nat} {W : World} {v : Value} {ls : List (List ByteArray)} (h : OLL W base v ls) (hb : base ≤ W.heap.size) {u : Value} {l : List ByteArray} (hu : W.ownsRow base 9 1 u l.length (strs l)) (hll : l.length ≤ 1000000000) (lb : Nat) (hx : W.cell? ⟨lb, 0, none⟩ = some u) (hl : ls.length ≤ 2000) :
    ∃ v' W', (Builtin.append_ #[75, 75] 75 #[v, .slice (some ⟨lb, 0, none⟩) 1 1]).run Try.prog W = .ok v' W' ∧ OLL W' base v' (ls ++ [l]) ∧ Below base W W' := by
  obtain ⟨i0, hi0, hz0, hz1, hz2⟩ := info_parts infoSlS
  obtain ⟨hs, h1, h2, h3, h4⟩ := h
  have hu1 : u.oneCell' = true := by
    rcases hu.2 with ⟨rfl, _⟩ | ⟨g, c, cur, rfl, _⟩ <;> rfl
  obtain ⟨v', w', q1, q2, q3, _⟩ := run_append_own (P := Try.prog) W base 75 75 22 i0 (.slice none 0 0) 1 24 Try.underlying75 hi0 hz0 hz1 hz2 rfl (by decide) v ls.length hs h2 ⟨lb, 0, none⟩ 1 1 [u] rfl
    (fun j x hj => by
      cases j with
      | zero => simp at hj; subst hj; simpa [Addr.add] using hx
      | succ j => simp at hj) (fun x hx => by rw [List.mem_singleton] at hx; subst hx; exact hu1) (by unfold maxLen; omega) (by omega) hb
  have hkeep : ∀ {h : Value} {l : List ByteArray}, W.ownsRow base 9 1 h l.length (strs l) → w'.ownsRow base 9 1 h l.length (strs l) := fun hr =>
    row_gro hr q3 (row_type hr h2 (by decide))
  refine ⟨v', w', q1, ⟨hs ++ [u], by simp [h1], by rw [List.length_append]; exact q2, fun x hx => ?_, fun i h l' hh hl' => ?_⟩, Below.grown ⟨rfl, rfl, rfl, Nat.le_refl _, fun _ _ => rfl⟩ q3 hb (fun k e => row_own h2 k e)⟩
  · rcases List.mem_append.1 hx with hx | hx
    · exact h3 x hx
    · rw [List.mem_singleton] at hx; subst hx; exact hu1
  · by_cases hi : i < ls.length
    · rw [List.getElem?_append_left (by omega)] at hh
      rw [List.getElem?_append_left hi] at hl'
      exact ⟨(h4 i h l' hh hl').1, hkeep (h4 i h l' hh hl').2⟩
    · rw [List.getElem?_append_right (by omega)] at hh hl'
      rw [h1] at hh
      have : i - ls.length = 0 := by
        have := (List.getElem?_eq_some_iff.1 hl').1
        simp at this; omega
      rw [this] at hh hl'
      simp at hh hl'
      subst hh; subst hl'
      exact ⟨hll, hkeep hu⟩
theorem OLL.reads {W : World} {base : Nat} {v : Value} {ls : List (List ByteArray)} (h : OLL W base v ls) (hl : ls.length ≤ 2000) : RLL W v ls := by
  obtain ⟨hs, h1, h2, h3, h4⟩ := h
  exact ⟨hs, h1, Reads.of_owns h2 (by omega), fun i u l hu hl' => Reads.of_owns (h4 i u l hu hl').2 (by have := (h4 i u l hu hl').1; omega)⟩
def WaysP (w : World) (ls : List (List ByteArray)) (er : Int) (e : Ending) (w' : World) : Prop :=
  ∃ v, e = .returned (.tuple #[v, .int .i64 er]) ∧ RLL w' v ls ∧ Below w.heap.size w w'
theorem wayF_len (c : CNet) : ∀ (n at_ : Nat) (l : List ByteArray) (f : List Int), (wayF c n at_ l f).1.length ≤ l.length + n := by
  intro n
  induction n with
  | zero => intro at_ l f; exact Nat.le_refl _
  | succ n ih =>
    intro at_ l f
    unfold wayF
    split
    · simp only; omega
    · split
      · simp only [List.length_cons]; omega
      · refine Nat.le_trans (ih _ _ _) ?_
        simp only [List.length_cons]; omega
theorem wayC_len {c : CNet} {f : List Int} (hc : c.Ok) (hf : FlowB c f) : (wayC c f).1.length ≤ 1000000000 := by
  have h1 := wayF_len c (sumA f + 1) c.at_ [] f
  have h2 := sumA_le f (fun k => ⟨hf.lo k, hf.hi k⟩)
  have h3 : 1000 * f.length ≤ 1000 * 1000 := Nat.mul_le_mul_left _ (by rw [hf.len]; exact hc.m)
  have h4 : (wayC c f).1.length = (wayF c (sumA f + 1) c.at_ [] f).1.length := rfl
  simp only [List.length_nil] at h1
  omega
set_option maxHeartbeats 8000000 in
set_option maxRecDepth 100000 in
theorem ways_c (x0 : NAddr) (n : Net) (br : ByteArray) (pt : Int) (w : World) (hr : NetR w x0 n) (hwf : n.Wf) :
    Calls Try.prog 31 #[x0.val n, .agg #[.string br, .int .i64 pt]] w (WaysP w (waysE n ⟨br, pt⟩).1 (waysE n ⟨br, pt⟩).2) := by
  have HP := Lib.hid (fun W (hb : Below w.heap.size w W) => place_c x0 n br pt W (hr.below hb) hwf)
  have HBU := Lib.hid (fun W (hb : Below w.heap.size w W) (h2 : n.Ok2) => build_c x0 n br pt W (hr.below hb) h2)
  have HE : Hid (waysE n ⟨br, pt⟩ = if placeE n ⟨br, pt⟩ ≠ 0 then ([], placeE n ⟨br, pt⟩) else if (largC (buildC n ⟨br, pt⟩)).2 = 1000 then ([], 8) else (waysC (buildC n ⟨br, pt⟩) (largC (buildC n ⟨br, pt⟩)).2 (largC (buildC n ⟨br, pt⟩)).1, 0)) := rfl
  have HOK : Hid (placeE n ⟨br, pt⟩ = 0 → n.Ok2 ∧ (buildC n ⟨br, pt⟩).Ok ∧ NoLoop (buildC n ⟨br, pt⟩)) := fun h => ⟨netE_ok2 (placeE_net h), (build_ok (placeE_net h)).1, (build_ok (placeE_net h)).2.1⟩
  generalize waysE n ⟨br, pt⟩ = LE at *
  generalize placeE n ⟨br, pt⟩ = PE at *
  generalize buildC n ⟨br, pt⟩ = c at *
  clear hr hwf
  obtain ⟨na, nc, sa, sc, ba, bc, ga, gc, la, lc, ta, tc⟩ := x0
  obtain ⟨nl, sws, brs, gens, loads, stores⟩ := n
  simp only [NAddr.val] at HP HBU ⊢
  generalize nl.length = nn at *
  generalize sws.length = sn at *
  generalize brs.length = bn at *
  generalize gens.length = gn at *
  generalize loads.length = ln at *
  generalize stores.length = tn at *
  have B2 := Lib.hid (belowA (belowA (Below.refl w.heap.size w) (.cells #[.slice na nn nc, .slice sa sn sc, .slice ba bn bc, .slice ga gn gc, .slice la ln lc, .slice ta tn tc] 29)) (.cells #[.string br, .int .i64 pt] 31))
  have K2 := (Blk.new w #[.slice na nn nc, .slice sa sn sc, .slice ba bn bc, .slice ga gn gc, .slice la ln lc, .slice ta tn tc] 29).alloc (.cells #[.string br, .int .i64 pt] 31)
  have K3 := Blk.new2 w (.cells #[.slice na nn nc, .slice sa sn sc, .slice ba bn bc, .slice ga gn gc, .slice la ln lc, .slice ta tn tc] 29) #[.string br, .int .i64 pt] 31
  have hs2 : w.heap.size + 1 < ((w.alloc (.cells #[.slice na nn nc, .slice sa sn sc, .slice ba bn bc, .slice ga gn gc, .slice la ln lc, .slice ta tn tc] 29)).alloc (.cells #[.string br, .int .i64 pt] 31)).heap.size := by rw [World.size_alloc, World.size_alloc]; omega
  generalize hW2 : (w.alloc (.cells #[.slice na nn nc, .slice sa sn sc, .slice ba bn bc, .slice ga gn gc, .slice la ln lc, .slice ta tn tc] 29)).alloc (.cells #[.string br, .int .i64 pt] 31) = W2 at *
  have HW2 := Lib.hid hW2
  clear hW2
  have x0 := K2.cell 0 rfl
  have x1 := K2.cell 1 rfl
  have x2 := K2.cell 2 rfl
  have x3 := K2.cell 3 rfl
  have x4 := K2.cell 4 rfl
  have x5 := K2.cell 5 rfl
  have y0 := K3.cell 0 rfl
  have y1 := K3.cell 1 rfl
  go_enter Try.func31, Try.ntmps31
  go_upto_region 1 with fail
  rw [HW2.out]
  go_wp2_with fail
  refine (HP.out _ B2.out).mono ?_; rintro e w3 ⟨rfl, hb3⟩
  have HB3 := Lib.hid (belowT B2.out hb3)
  have K2' := below_blk hb3 K2 K2.lt
  have K3' := below_blk hb3 K3 K3.lt
  clear x0 x1 x2 x3 x4 x5 y0 y1 K2 K3 hb3 HP
  by_cases hp : PE = 0
  ·
    obtain ⟨ho2, hcok, hnl⟩ := HOK.out hp
    have HE2 := Lib.hid (HE.out.trans (if_neg (fun h => h hp)))
    have x0 := K2'.cell 0 rfl
    have x1 := K2'.cell 1 rfl
    have x2 := K2'.cell 2 rfl
    have x3 := K2'.cell 3 rfl
    have x4 := K2'.cell 4 rfl
    have x5 := K2'.cell 5 rfl
    have y0 := K3'.cell 0 rfl
    have y1 := K3'.cell 1 rfl
    subst hp
    go_wp2_with fail
    refine (HBU.out _ HB3.out ho2).mono ?_; rintro e w4 ⟨X, ea, ec, xa, xc, rfl, hn, hb4⟩
    have HB4 := Lib.hid (belowT HB3.out hb4)
    clear x0 x1 x2 x3 x4 x5 y0 y1 K2' K3' hb4 HBU
    go_wp2_with fail
    refine (largest_c c hcok X ea ec xa xc w4 hn).mono ?_; rintro e w5 ⟨rfl, hkf, hb5⟩
    have HB5 := Lib.hid (belowT HB4.out hb5)
    have HN4 := Lib.hid hn
    have HB45 := Lib.hid hb5
    have HKF := Lib.hid hkf
    have hlk := largC_ok hcok
    obtain ⟨LG, hLG⟩ : ∃ r, largC c = r := ⟨_, rfl⟩
    rw [hLG] at HE2 HKF hlk
    rw [hLG]
    have HLK := Lib.hid hlk
    obtain ⟨FL, SZ⟩ := LG
    simp only at HE2 HKF HLK
    clear hkf hb5 hn hlk hLG HE HOK
    by_cases hs : SZ = 1000
    ·
      have HL := Lib.hid (HE2.out.trans (if_pos hs))
      subst hs
      clear HE2 HLK
      go_wp2_with fail
      go_ret2
      show WaysP w LE.1 LE.2 _ _
      rw [HL.out]
      exact ⟨_, rfl, RLL.nil _, HB5.out⟩
    ·
      have HL := Lib.hid (HE2.out.trans (if_neg hs))
      have g1 : ((SZ : Int) == 1000) = false := by rw [beq_eq_false_iff_ne]; omega
      clear HE2
      have hfn : SZ < 100 ∧ FlowN c FL SZ ∧ c.src.getD c.at_ false = false := by
        rcases HLK.out with ⟨_, h⟩ | ⟨h0, ⟨_, h⟩ | ⟨h1, h, _⟩⟩
        · exact absurd h hs
        · exact absurd h hs
        · exact ⟨h1, h, h0⟩
      obtain ⟨hsz, hfn, hsr⟩ := hfn
      obtain ⟨fb, hfb⟩ : ∃ b, w4.heap.size = b := ⟨_, rfl⟩
      rw [hfb] at HKF HB45 ⊢
      have h45 := HB45.out.size
      have HFB := Lib.hid hfb
      have hfl : fb < w5.heap.size := HKF.out.lt
      have HWC : Hid (∀ (f : List Int) (v : Nat) (W : World), FlowV c f v → Blk W fb (ints f).toArray 3 → But fb w5 W →
          Calls Try.prog 63 #[.pointer (some ⟨X, 0, none⟩), .slice (some ⟨fb, 0, none⟩) c.edges.length c.edges.length] W fun e w' => ∃ v, e = .returned v ∧ w'.ownsRow W.heap.size 9 1 v (wayC c f).1.length (strs (wayC c f).1) ∧ Blk w' fb (ints (wayC c f).2).toArray 3 ∧ But fb W w') := fun f v W hf hk hW =>
        way_c c hcok hnl X ea ec xa xc f fb W (fun W' hW' => HN4.out.below (by rw [HFB.out]; exact HB45.out.trans ((hW.bel (Nat.le_of_lt hfl)).trans hW'))) hf.B hk
      have HWL : Hid (∀ (f : List Int) (v : Nat), FlowV c f v → (wayC c f).1.length ≤ 1000000000) := fun f v hf => wayC_len hcok hf.B
      have HWO : Hid (∀ (f : List Int) (v : Nat), FlowV c f (v + 1) → FlowV c (wayC c f).2 v) := fun f v hf => (wayC_ok hnl hsr hf).1
      have HF0 : Hid (FlowV c FL (SZ - 0)) := hfn.fl
      have HWS : Hid (waysC c SZ FL = LE.1) := by show _ = _; rw [HL.out]
      obtain ⟨WS, hWS⟩ : ∃ r, LE.1 = r := ⟨_, rfl⟩
      rw [hWS] at HWS
      have HLE : Hid (LE = (WS, 0)) := by show _ = _; rw [HL.out, ← HWS.out]
      have HW0 : Hid ([] ++ waysC c (SZ - 0) FL = WS) := HWS.out
      have HO0 := Lib.hid (OLL.nil w5 w5.heap.size)
      generalize c.edges.length = m at *
      clear hfn hsr hs HLK HL HWS hWS hnl hcok hfb HB45 HN4
      go_wp2_with fail
      go_loopw [28, 10] (fun i ov wr => ∃ (k : Nat) (ls : List (List ByteArray)) (f : List Int), k ≤ SZ ∧ i = .int .i64 k ∧ ls.length = k ∧ Hid (ls ++ waysC c (SZ - k) f = WS) ∧ Hid (FlowV c f (SZ - k)) ∧ Hid (Blk wr fb (ints f).toArray 3) ∧ Hid (OLL wr w5.heap.size ov ls) ∧ Hid (But fb w5 wr)) (fun i _ _ => SZ - (intOf i).toNat)
      case atStart => exact ⟨0, [], FL, Nat.zero_le _, rfl, rfl, HW0, HF0, HKF, HO0, But.refl _ _⟩
      case round =>
        clear HW0 HF0 HKF HO0
        obtain ⟨k, ls, f, hk, rfl, hlk, hws, hf, hkf, ho, hb⟩ := hrel
        by_cases hlt : k < SZ
        ·
          have HCA := Lib.hid (HWC.out f _ wr hf.out hkf.out hb.out)
          have hle := HWL.out f _ hf.out
          have e1 : SZ - k = (SZ - (k + 1)) + 1 := by omega
          have hf1 := hf.out
          rw [e1] at hws hf1
          have HF2 := Lib.hid (HWO.out f _ hf1)
          have hw2 : ls ++ ((wayC c f).1 :: waysC c (SZ - (k + 1)) (wayC c f).2) = WS := hws.out
          generalize wayC c f = WA at *
          have HW2 : Hid ((ls ++ [WA.1]) ++ waysC c (SZ - (k + 1)) WA.2 = WS) := by show _ = _; rw [← hw2]; simp
          clear hws hf hf1 hw2 e1 hkf
          go_wp2_with fail
          refine HCA.out.mono ?_; rintro ee w6 ⟨v, rfl, hrow, hkf2, hbut⟩
          obtain ⟨va, vc, rfl⟩ := row_slice hrow
          have hlr : w5.heap.size ≤ wr.heap.size := hb.out.size
          have hsw := hbut.size
          have OL6 := ho.out.but hbut hfl
          have OL7 := OL6.alloc (.cells #[.slice va WA.1.length vc] 22)
          have RV := row_alloc (row_le hrow hlr) (.cells #[.slice va WA.1.length vc] 22)
          obtain ⟨v4, w7, hap, O4, b4⟩ := OL7.app (by rw [World.size_alloc]; omega) RV hle w6.heap.size ((Blk.new w6 #[.slice va WA.1.length vc] 22).cell 0 rfl) (by omega)
          have HO8 := Lib.hid O4
          have K8 := Lib.hid (below_blk b4 (hkf2.alloc (.cells #[.slice va WA.1.length vc] 22)) hfl)
          have B8 := Lib.hid (((hb.out.trans hbut).alloc (.cells #[.slice va WA.1.length vc] 22)).andBelow b4)
          clear hrow hkf2 hbut OL6 OL7 RV O4 b4 HCA ho
          go_wp2_with (at_builtin; refine wpList_append_told rfl (.tmp 30) (.tmp 34) 75 rfl _ _ rfl rfl v4 w7 hap ?_)
          go_roundw
          case rel => exact ⟨k + 1, ls ++ [WA.1], WA.2, hlt, by go_num, by simp [hlk], HW2, HF2, K8, HO8, B8⟩
          case measure => simp [intOf]; omega
        ·
          have hkn : k = SZ := by omega
          subst hkn
          have HWW : Hid (ls = WS) := by show _ = _; rw [← hws.out, Nat.sub_self]; simp [waysC]
          clear hws hf
          go_wp2_with fail
          go_ret2
          show WaysP w LE.1 LE.2 _ _
          rw [HLE.out, ← HWW.out]
          exact ⟨_, rfl, ho.out.reads (by omega), HB5.out.trans ((hb.out.bel (Nat.le_of_lt hfl)).mono (by have h1 := HB4.out.size; have h2 := HFB.out; omega))⟩
  ·
    have HL := Lib.hid (HE.out.trans (if_pos hp))
    have g1 : (PE != 0) = true := by simpa using hp
    clear HE HOK HBU hp
    go_wp2_with fail
    go_ret2
    show WaysP w LE.1 LE.2 _ _
    rw [HL.out]
    exact ⟨_, rfl, RLL.nil _, HB3.out⟩
end Go.Proofs.Ytplebibabcdipaa
