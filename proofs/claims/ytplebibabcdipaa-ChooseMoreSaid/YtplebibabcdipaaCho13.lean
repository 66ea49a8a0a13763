/- choose: largest, the walk. -/
import Derived.Test.YtplebibabcdipaaCho12
import Derived.Test.YtplebibabcdipaaChoG
namespace Go.Proofs.Ytplebibabcdipaa
open Go.RowKit

theorem make_flow (n : Nat) (hn : n ≤ 1000) (W : World) : (Instr.makeSlice 117 (.int .i64 (n : Int)) (.int .i64 (n : Int))).run Try.prog W = .ok (.slice (some ⟨W.heap.size, 0, none⟩) n n) (W.alloc (.cells (ints (List.replicate n 0)).toArray 3)) := by
  rw [← made_ints]
  exact run_make_row' 117 3 (.int .i64 0) 8 Try.underlying117 infoIntL rfl .i64 .i64 n (by omega) (by omega) W
set_option maxHeartbeats 4000000 in
set_option maxRecDepth 100000 in
theorem largest_c (c : CNet) (hc : c.Ok) (X : Nat) (ea : Option Addr) (ec : Nat) (sa : Option Addr) (sc : Nat) (w : World) (hn : NetC w X c ea ec sa sc) :
    Calls Try.prog 61 #[.pointer (some ⟨X, 0, none⟩)] w fun e w' => e = .returned (.tuple #[.slice (some ⟨w.heap.size, 0, none⟩) c.edges.length c.edges.length, .int .i64 ((largC c).2 : Int)]) ∧ Blk w' w.heap.size (ints (largC c).1).toArray 3 ∧ Below w.heap.size w w' := by
  have HZF : Hid (FlowN c (zeroF c) 0) := FlowN.zero c
  have HLC : Hid (largC c = if c.src.getD c.at_ false = true then (zeroF c, 1000) else ((largF c 100 0 (zeroF c)).1, if (largF c 100 0 (zeroF c)).2 = 100 then 1000 else (largF c 100 0 (zeroF c)).2)) := rfl
  have HAU : Hid (∀ (f : List Int) (n : Nat) (W : World), FlowN c f n → Blk W w.heap.size (ints f).toArray 3 → Below w.heap.size w W →
      Calls Try.prog 104 #[.pointer (some ⟨X, 0, none⟩), .slice (some ⟨w.heap.size, 0, none⟩) c.edges.length c.edges.length] W fun e w' => e = .returned (.bool (augC c f).isSome) ∧ Blk w' w.heap.size (ints ((augC c f).getD f)).toArray 3 ∧ Below w.heap.size W w') := fun f n W hf hk hW => by
    have := augment_c c hc X ea ec sa sc f w.heap.size W (fun W' hW' => hn.below (hW.trans hW')) hf.fl.B hk
    rw [hf.fl.len] at this
    exact this
  have HOK : Hid (∀ (f f' : List Int) (n : Nat), FlowN c f n → augC c f = some f' → FlowN c f' (n + 1)) := fun f f' n h ha => by
    obtain ⟨a1, a2⟩ := augC_ok hc h.fl ha
    exact ⟨a1, fun j => by have := h.bd j; have := a2 j; push_cast; omega⟩
  have h3 := hc.at_
  have h2 := hc.src
  have hm := hc.m
  have hat : c.at_ < c.src.length := by omega
  obtain ⟨m, hM⟩ : ∃ k, c.edges.length = k := ⟨_, rfl⟩
  have HM := Lib.hid hM
  obtain ⟨sl, hSL⟩ : ∃ k, c.src.length = k := ⟨_, rfl⟩
  have hslm : sl ≤ 1000 := by have := hc.n; omega
  rw [hM] at hm
  rw [hSL] at hat
  have x1 := hn.blk.cell 1 rfl
  rw [hM] at x1 HAU ⊢
  have hmk := make_flow m hm
  obtain ⟨LG, hLG⟩ : ∃ r, largC c = r := ⟨_, rfl⟩
  rw [hLG] at HLC ⊢
  have K0 := Blk.new w (ints (List.replicate m 0)).toArray 3
  have B0 := belowA (Below.refl w.heap.size w) (.cells (ints (List.replicate m 0)).toArray 3)
  obtain ⟨fb, hfb⟩ : ∃ b, w.heap.size = b := ⟨_, rfl⟩
  have N1 := hn.below B0
  rw [hfb] at K0 B0 HAU ⊢
  go_enter Try.func61, Try.ntmps61
  go_upto_region 2 with (rw [hmk])
  generalize w.alloc (.cells (ints (List.replicate m 0)).toArray 3) = w1 at *
  obtain ⟨sg, soff, scap, hvv, _, _, _, hcc⟩ := N1.src.addr (by omega)
  simp only [Value.slice.injEq] at hvv
  obtain ⟨rfl, _, rfl⟩ := hvv
  have s0 := hcc c.at_ _ (bools_get (by omega))
  have x2 := N1.blk.cell 2 rfl
  have x3 := N1.blk.cell 3 rfl
  rw [hSL] at x2
  have p1 : decide ((c.at_ : Int) < 0) = false := decide_eq_false (by omega)
  have p2 : decide ((sl : Int) ≤ (c.at_ : Int)) = false := decide_eq_false (by omega)
  have p3 : decide (sl ≤ c.at_) = false := decide_eq_false (by omega)
  have hz : zeroF c = List.replicate m 0 := by unfold zeroF; rw [hM]
  obtain ⟨bk, hbk⟩ : ∃ r, c.src.getD c.at_ false = r := ⟨_, rfl⟩
  rw [hbk] at s0 HLC
  rw [hz] at HLC HZF
  generalize c.at_ = at_ at *
  clear hcc hn N1 hbk h2 h3 hM hSL hLG x1 hmk hz
  cases bk
  ·
    obtain ⟨L, hL⟩ : ∃ r, largF c 100 0 (List.replicate m 0) = r := ⟨_, rfl⟩
    have HL0 : Hid (largF c (100 - 0) 0 (List.replicate m 0) = L) := hL
    have HLG : Hid (LG = (L.1, if L.2 = 100 then 1000 else L.2)) := by show _ = _; rw [HLC.out, hL]; rfl
    clear HLC hL
    refine wp_region_quiet_lit (by kernel_rfl) (by kernel_rfl) ?_
    repeat (first | go_big_quiet_step (fail) | (go_big_quiet_want; go_simp; go_big_quiet_on))
    refine wpQuiet_nil ?_
    intro _ hw'
    obtain ⟨nq, hw''⟩ := hw'
    subst hw''
    have K1 : Hid (Blk (w1.drewN nq) fb (ints (List.replicate m 0)).toArray 3) := K0
    have B1 : Hid (Below fb w (w1.drewN nq)) := below_drewN B0 _
    clear K0 B0 s0 x2 x3
    generalize w1.drewN nq = w2 at *
    go_wp2_with fail
    go_loopw [5] (fun nv wr => ∃ (n : Nat) (f : List Int), n ≤ 100 ∧ nv = .int .i64 n ∧ Hid (largF c (100 - n) n f = L) ∧ Hid (FlowN c f n) ∧ Hid (Blk wr fb (ints f).toArray 3) ∧ Hid (Below fb w wr)) (fun nv _ => 100 - (intOf nv).toNat)
    case atStart => exact ⟨0, _, by omega, rfl, HL0, HZF, K1, B1⟩
    case round =>
      clear HL0 HZF K1 B1
      obtain ⟨n, f, hnn, rfl, hl, hf, hk, hb⟩ := hrel
      by_cases hlt : n < 100
      ·
        have HA := HAU.out f n wr hf.out hk.out hb.out
        have hlu : largF c (100 - n) n f = match augC c f with
          | none => (f, n)
          | some f' => largF c (100 - (n + 1)) (n + 1) f' := by
          rw [show 100 - n = (100 - (n + 1)) + 1 by omega]; rfl
        rw [hlu] at hl
        cases ha : augC c f with
        | none =>
          rw [ha] at HA hl
          have HA2 := Lib.hid HA
          have HLL : Hid (L = (f, n)) := hl.out.symm
          have HLS : Hid (LG = (f, n)) := by show _ = _; rw [HLG.out, HLL.out]; simp only; rw [if_neg (by omega)]
          clear hlu ha HA hl
          go_wp2_with fail
          refine HA2.out.mono ?_; rintro ee w' ⟨rfl, hk2, hb2⟩
          have HK2 := Lib.hid hk2
          have HB2 := Lib.hid (hb.out.trans hb2)
          clear hk2 hb2
          have hne : ((n : Int) == 100) = false := by rw [beq_eq_false_iff_ne]; omega
          go_wp2_with fail
          go_ret2
          exact ⟨by rw [HLS.out]; rfl, by rw [HLS.out]; exact HK2.out, HB2.out⟩
        | some f' =>
          rw [ha] at HA hl
          have HA2 := Lib.hid HA
          have HF2 := Lib.hid (HOK.out f f' n hf.out ha)
          have HL2 : Hid (largF c (100 - (n + 1)) (n + 1) f' = L) := hl.out
          clear hlu ha HA hl
          go_wp2_with fail
          refine HA2.out.mono ?_; rintro ee w' ⟨rfl, hk2, hb2⟩
          have HK2 := Lib.hid hk2
          have HB2 := Lib.hid (hb.out.trans hb2)
          clear hk2 hb2
          go_wp2_with fail
          go_roundw
          case rel => exact ⟨n + 1, f', hlt, by go_num, HL2, HF2, HK2, HB2⟩
          case measure => simp [intOf]; omega
      ·
        have hn100 : n = 100 := by omega
        subst hn100
        have HLL : Hid (L = (f, 100)) := hl.out.symm
        have HLS : Hid (LG = (f, 1000)) := by show _ = _; rw [HLG.out, HLL.out]; rfl
        clear hl
        go_wp2_with fail
        go_ret2
        exact ⟨by rw [HLS.out]; rfl, by rw [HLS.out]; exact hk.out, hb.out⟩
  ·
    have HLS : Hid (LG = (List.replicate m 0, 1000)) := by show _ = _; rw [HLC.out]; rfl
    clear HLC
    refine wp_region_quiet_lit (by kernel_rfl) (by kernel_rfl) ?_
    repeat (first | go_big_quiet_step (fail) | (go_big_quiet_want; go_simp; go_big_quiet_on))
    refine wpQuiet_nil ?_
    intro _ hw'
    obtain ⟨nq, hw''⟩ := hw'
    subst hw''
    have K1 : Hid (Blk (w1.drewN nq) fb (ints (List.replicate m 0)).toArray 3) := K0
    have B1 : Hid (Below fb w (w1.drewN nq)) := below_drewN B0 _
    clear K0 B0 s0 x2 x3
    generalize w1.drewN nq = w2 at *
    go_wp2_with fail
    go_ret2
    exact ⟨by rw [HLS.out]; rfl, by rw [HLS.out]; exact K1.out, B1.out⟩
end Go.Proofs.Ytplebibabcdipaa
