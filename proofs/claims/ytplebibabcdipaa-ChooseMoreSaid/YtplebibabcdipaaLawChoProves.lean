/- The law ChooseProves walked. -/
import Derived.Test.YtplebibabcdipaaCho22
namespace Go.Proofs.Ytplebibabcdipaa
open Go.RowKit

theorem wayC_len2 {c : CNet} {f : List Int} (hc : c.Ok) (hf : FlowB c f) : (wayC c f).1.length ≤ 2000000 := by
  have h1 := wayF_len c (sumA f + 1) c.at_ [] f
  have h2 := sumA_le f (fun k => ⟨hf.lo k, hf.hi k⟩)
  have h3 : 1000 * f.length ≤ 1000 * 1000 := Nat.mul_le_mul_left _ (by rw [hf.len]; exact hc.m)
  have h4 : (wayC c f).1.length = (wayF c (sumA f + 1) c.at_ [] f).1.length := rfl
  simp only [List.length_nil] at h1
  omega
theorem waysC_bd {c : CNet} (hc : c.Ok) (hl : NoLoop c) (hs : c.src.getD c.at_ false = false) : ∀ (v : Nat) (f : List Int), FlowV c f v → ∀ l ∈ waysC c v f, l.length ≤ 2000000 := by
  intro v
  induction v with
  | zero => intro f _ l h; cases h
  | succ v ih =>
    intro f hf l h
    rcases List.mem_cons.1 (show l ∈ (wayC c f).1 :: waysC c v (wayC c f).2 from h) with rfl | h
    · exact wayC_len2 hc hf.B
    · exact ih _ (wayC_ok hl hs hf).1 l h
theorem waysE_bd (n : Net) (p : Plc) : (waysE n p).1.length ≤ 1000 ∧ ∀ l ∈ (waysE n p).1, l.length ≤ 2000000 := by
  unfold waysE
  split
  · exact ⟨Nat.zero_le _, fun l h => by cases h⟩
  · rename_i hp
    split
    · exact ⟨Nat.zero_le _, fun l h => by cases h⟩
    · rename_i hs
      obtain ⟨hc, hl, _⟩ := build_ok (p := p) (placeE_net (Decidable.not_not.1 hp))
      rcases largC_ok hc with ⟨_, h⟩ | ⟨hsr, ⟨_, h⟩ | ⟨h1, h2, _⟩⟩
      · exact absurd h hs
      · exact absurd h hs
      · refine ⟨by rw [waysC_len]; omega, waysC_bd hc hl hsr _ _ h2.fl⟩
set_option maxHeartbeats 8000000 in
set_option maxRecDepth 100000 in
theorem chooseProves_c (x0 : NAddr) (n : Net) (br : ByteArray) (pt : Int) (w : World) (hr : NetR w x0 n) (hwf : n.Wf) :
    Calls Try.prog 10 #[x0.val n, .agg #[.string br, .int .i64 pt]] w fun e w' => e = .returned (.bool true) ∧ Below w.heap.size w w' := by
  have HLS := Lib.hid (fun W (hb : Below w.heap.size w W) => least_c x0 n br pt W (hr.below hb) hwf)
  have HWY := Lib.hid (fun W (hb : Below w.heap.size w W) => ways_c x0 n br pt W (hr.below hb) hwf)
  have HIS := Lib.hid (fun W ov (hb : Below w.heap.size w W) (ho : SVal W ov (leastE n ⟨br, pt⟩).1) => isol_c x0 n (leastE n ⟨br, pt⟩).1 ov br pt W (hr.below hb) hwf ho)
  have hbd := waysE_bd n ⟨br, pt⟩
  have HPR := Lib.hid (fun W ov wv (hb : Below w.heap.size w W) (ho : SVal W ov (leastE n ⟨br, pt⟩).1) (hw : RLL W wv (waysE n ⟨br, pt⟩).1) => proves_c x0 n (leastE n ⟨br, pt⟩).1 ov (waysE n ⟨br, pt⟩).1 wv br pt W (hr.below hb) hwf ho hw hbd.1 hbd.2)
  have hlaw := law_proves n ⟨br, pt⟩
  generalize waysE n ⟨br, pt⟩ = WE at *
  generalize leastE n ⟨br, pt⟩ = LE at *
  generalize hIS : isolE n LE.1 ⟨br, pt⟩ = IE at *
  generalize hPE : provesE n ⟨br, pt⟩ LE.1 WE.1 = PE at *
  obtain ⟨LL, LER⟩ := LE
  obtain ⟨WL, WER⟩ := WE
  obtain ⟨IB, IER⟩ := IE
  obtain ⟨PB, PER⟩ := PE
  simp only at HLS HWY HIS HPR hlaw
  have HLW := Lib.hid hlaw
  clear hr hwf hbd hlaw hIS hPE
  obtain ⟨na, nc, sa, sc, ba, bc, ga, gc, la, lc, ta, tc⟩ := x0
  obtain ⟨nl, sws, brs, gens, loads, stores⟩ := n
  simp only [NAddr.val] at HLS HWY HIS HPR ⊢
  generalize nl.length = nn at *
  generalize sws.length = sn at *
  generalize brs.length = bn at *
  generalize gens.length = gn at *
  generalize loads.length = ln at *
  generalize stores.length = tn at *
  have B2 := Lib.hid (belowA (belowA (Below.refl w.heap.size w) (.cells #[.slice na nn nc, .slice sa sn sc, .slice ba bn bc, .slice ga gn gc, .slice la ln lc, .slice ta tn tc] 29)) (.cells #[.string br, .int .i64 pt] 31))
  have K2 := Lib.hid ((Blk.new w #[.slice na nn nc, .slice sa sn sc, .slice ba bn bc, .slice ga gn gc, .slice la ln lc, .slice ta tn tc] 29).alloc (.cells #[.string br, .int .i64 pt] 31))
  have K3 := Lib.hid (Blk.new2 w (.cells #[.slice na nn nc, .slice sa sn sc, .slice ba bn bc, .slice ga gn gc, .slice la ln lc, .slice ta tn tc] 29) #[.string br, .int .i64 pt] 31)
  have hs2 : w.heap.size + 1 < ((w.alloc (.cells #[.slice na nn nc, .slice sa sn sc, .slice ba bn bc, .slice ga gn gc, .slice la ln lc, .slice ta tn tc] 29)).alloc (.cells #[.string br, .int .i64 pt] 31)).heap.size := by rw [World.size_alloc, World.size_alloc]; omega
  generalize hW2 : (w.alloc (.cells #[.slice na nn nc, .slice sa sn sc, .slice ba bn bc, .slice ga gn gc, .slice la ln lc, .slice ta tn tc] 29)).alloc (.cells #[.string br, .int .i64 pt] 31) = W2 at *
  have HW2 := Lib.hid hW2
  clear hW2
  have x0 := K2.out.cell 0 rfl
  have x1 := K2.out.cell 1 rfl
  have x2 := K2.out.cell 2 rfl
  have x3 := K2.out.cell 3 rfl
  have x4 := K2.out.cell 4 rfl
  have x5 := K2.out.cell 5 rfl
  have y0 := K3.out.cell 0 rfl
  have y1 := K3.out.cell 1 rfl
  go_enter Try.func10, Try.ntmps10
  go_upto_region 1 with fail
  rw [HW2.out]
  go_wp2_with fail
  refine (chooseWorks_c W2).mono ?_; rintro e w3 ⟨rfl, hb3⟩
  have B3 := Lib.hid (belowT B2.out hb3)
  have K3a := Lib.hid (below_blk hb3 K2.out K2.out.lt)
  have L3 := Lib.hid (below_blk hb3 K3.out K3.out.lt)
  clear x0 x1 x2 x3 x4 x5 y0 y1 K2 K3
  have x0 := K3a.out.cell 0 rfl
  have x1 := K3a.out.cell 1 rfl
  have x2 := K3a.out.cell 2 rfl
  have x3 := K3a.out.cell 3 rfl
  have x4 := K3a.out.cell 4 rfl
  have x5 := K3a.out.cell 5 rfl
  have y0 := L3.out.cell 0 rfl
  have y1 := L3.out.cell 1 rfl
  go_wp2_with fail
  refine (HLS.out w3 B3.out).mono ?_; rintro e w4 ⟨v1, rfl, hr1, hb4⟩
  have B4 := Lib.hid (belowT B3.out hb4)
  have K4 := Lib.hid (below_blk hb4 K3a.out K3a.out.lt)
  have L4 := Lib.hid (below_blk hb4 L3.out L3.out.lt)
  clear x0 x1 x2 x3 x4 x5 y0 y1 K3a L3
  have x0 := K4.out.cell 0 rfl
  have x1 := K4.out.cell 1 rfl
  have x2 := K4.out.cell 2 rfl
  have x3 := K4.out.cell 3 rfl
  have x4 := K4.out.cell 4 rfl
  have x5 := K4.out.cell 5 rfl
  have y0 := L4.out.cell 0 rfl
  have y1 := L4.out.cell 1 rfl
  go_wp2_with fail
  refine (HWY.out w4 B4.out).mono ?_; rintro e w5 ⟨v2, rfl, hr2, hb5⟩
  have B5 := Lib.hid (belowT B4.out hb5)
  have K5 := Lib.hid (below_blk hb5 K4.out K4.out.lt)
  have L5 := Lib.hid (below_blk hb5 L4.out L4.out.lt)
  clear x0 x1 x2 x3 x4 x5 y0 y1 K4 L4
  have HR1 := Lib.hid (hr1.below hb5)
  have HR2 := Lib.hid hr2
  obtain ⟨a1, c1, rfl⟩ := hr1.slice
  obtain ⟨hs, hhl, hhr, hhe⟩ := hr2
  obtain ⟨a2, c2, rfl⟩ := hhr.slice
  clear hr1 hb5 hb4 hb3 hhl hhr hhe
  by_cases hz : LER = 0
  ·
    obtain ⟨h1, h2, h3⟩ := HLW.out.2 hz
    cases h2
    cases h3
    subst hz
    subst h1
    clear HLW
    have x0 := K5.out.cell 0 rfl
    have x1 := K5.out.cell 1 rfl
    have x2 := K5.out.cell 2 rfl
    have x3 := K5.out.cell 3 rfl
    have x4 := K5.out.cell 4 rfl
    have x5 := K5.out.cell 5 rfl
    have y0 := L5.out.cell 0 rfl
    have y1 := L5.out.cell 1 rfl
    have HC1 := Lib.hid (HIS.out w5 _ B5.out HR1.out)
    go_wp2_with fail
    refine HC1.out.mono ?_; rintro e w6 ⟨rfl, hb6⟩
    have B6 := Lib.hid (belowT B5.out hb6)
    have K6 := Lib.hid (below_blk hb6 K5.out K5.out.lt)
    have L6 := Lib.hid (below_blk hb6 L5.out L5.out.lt)
    clear x0 x1 x2 x3 x4 x5 y0 y1 K5 L5
    have HC2 := Lib.hid (HPR.out w6 _ _ B6.out (HR1.out.below hb6) (HR2.out.below hb6))
    have x0 := K6.out.cell 0 rfl
    have x1 := K6.out.cell 1 rfl
    have x2 := K6.out.cell 2 rfl
    have x3 := K6.out.cell 3 rfl
    have x4 := K6.out.cell 4 rfl
    have x5 := K6.out.cell 5 rfl
    have y0 := L6.out.cell 0 rfl
    have y1 := L6.out.cell 1 rfl
    clear hb6 HC1
    go_wp2_with fail
    refine HC2.out.mono ?_; rintro e w7 ⟨rfl, hb7⟩
    have B7 := Lib.hid (belowT B6.out hb7)
    clear hb7 HC2
    go_wp2_with fail
    go_ret
    exact ⟨rfl, B7.out⟩
  ·
    obtain ⟨h1, h2, h3⟩ := HLW.out.1 hz
    subst h1; subst h2; subst h3
    have g1 : (WER != 0) = true := by simpa using hz
    clear HLW hz
    go_wp2_with fail
    go_ret
    exact ⟨rfl, B5.out⟩
end Go.Proofs.Ytplebibabcdipaa
