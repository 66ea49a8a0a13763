/- balance: Operates. -/
import Derived.Test.YtkpalfgnfhphjaaDoorBal2
namespace Go.Proofs.YtkpalfgnfhphjaaDoor
open Go.RowKit

theorem sz_int (n : Int) (h0 : -1000000000 ≤ n) (h1 : n ≤ 1000000000) : sz ((n : Int) : Rat) ≤ 3 := by
  unfold sz
  rw [Rat.num_intCast, Rat.den_intCast]
  have h2 : ln n.natAbs ≤ 2 := ln_le (by have : pw 2 = 1000000000000000000 := by decide
                                         rw [this]; omega)
  have h3 : ln 1 = 1 := ln_one
  omega
/-- What the sum of the magnitudes is compared with. -/
def limQ (H : Rat) (least slope : Int) : Rat := ((least : Int) : Rat) + H * ((slope : Int) : Rat) / ((1000 : Int) : Rat)
theorem sz_lim {H : Rat} {least slope : Int} (hH : sz H ≤ 2000) (h0 : 0 ≤ least) (h1 : least ≤ 1000000) (h2 : 0 ≤ slope) (h3 : slope ≤ 2000) : sz (H * ((slope : Int) : Rat)) ≤ 2010 ∧ sz (H * ((slope : Int) : Rat) / ((1000 : Int) : Rat)) ≤ 2020 ∧ sz (limQ H least slope) ≤ 2030 := by
  have a1 := sz_mul H ((slope : Int) : Rat)
  have a2 := sz_int slope (by omega) (by omega)
  have a3 := sz_quo (H * ((slope : Int) : Rat)) ((1000 : Int) : Rat)
  have a4 := sz_int 1000 (by omega) (by omega)
  have a5 := sz_add ((least : Int) : Rat) (H * ((slope : Int) : Rat) / ((1000 : Int) : Rat))
  have a6 := sz_int least (by omega) (by omega)
  refine ⟨by omega, by omega, ?_⟩
  unfold limQ
  omega
set_option maxRecDepth 100000 in
set_option maxHeartbeats 2000000 in
theorem bop_bad (v : Value) (l : List ByteArray) (least slope : Int) (w : World) (hv : SVal w v l) (hsz : Hid (∀ s ∈ l, s.size ≤ 9223372036854775807)) (hc : checkB l ≠ 0) :
    Calls Tryd.prog 8 #[v, .int .i64 least, .int .i64 slope] w fun e w' => e = .returned (.tuple #[.bool false, .int .i64 (checkB l)]) ∧ Below w.heap.size w w' := by
  have HC := Lib.hid (bcheck_c v l w hv hsz)
  obtain ⟨C, hC⟩ : ∃ c, checkB l = c := ⟨_, rfl⟩
  rw [hC] at HC hc ⊢
  have g1 : (C != 0) = true := by simpa using hc
  obtain ⟨a, cap, rfl⟩ := (show Reads w v l.length (l.map Value.string) from hv).slice
  clear hC hv hsz hc
  go_enter Tryd.func8, Tryd.ntmps8
  go_wp2_with fail
  refine HC.out.mono ?_; rintro e w2 ⟨rfl, hb⟩
  have B2 := Lib.hid hb
  clear hb
  go_wp2_with fail
  go_ret2
  exact ⟨rfl, B2.out⟩
set_option maxRecDepth 100000 in
set_option maxHeartbeats 2000000 in
theorem bop_range (v : Value) (l : List ByteArray) (least slope : Int) (w : World) (hv : SVal w v l) (hsz : Hid (∀ s ∈ l, s.size ≤ 9223372036854775807)) (hc : checkB l = 0) (hr : ¬ (0 ≤ least ∧ least ≤ 1000000 ∧ 0 ≤ slope ∧ slope ≤ 2000)) :
    Calls Tryd.prog 8 #[v, .int .i64 least, .int .i64 slope] w fun e w' => e = .returned (.tuple #[.bool false, .int .i64 4]) ∧ Below w.heap.size w w' := by
  have HC := Lib.hid (bcheck_c v l w hv hsz)
  rw [hc] at HC
  obtain ⟨a, cap, rfl⟩ := (show Reads w v l.length (l.map Value.string) from hv).slice
  clear hv hsz hc
  by_cases h1 : least < 0
  · have g1 : decide (least < 0) = true := decide_eq_true h1
    clear hr h1
    go_enter Tryd.func8, Tryd.ntmps8
    go_wp2_with fail
    refine HC.out.mono ?_; rintro e w2 ⟨rfl, hb⟩
    have B2 := Lib.hid hb
    clear hb
    go_wp2_with fail
    go_ret2
    exact ⟨rfl, B2.out⟩
  · have g1 : decide (least < 0) = false := decide_eq_false h1
    by_cases h2 : 1000000 < least
    · have g2 : decide (1000000 < least) = true := decide_eq_true h2
      clear hr h1 h2
      go_enter Tryd.func8, Tryd.ntmps8
      go_wp2_with fail
      refine HC.out.mono ?_; rintro e w2 ⟨rfl, hb⟩
      have B2 := Lib.hid hb
      clear hb
      go_wp2_with fail
      go_ret2
      exact ⟨rfl, B2.out⟩
    · have g2 : decide (1000000 < least) = false := decide_eq_false h2
      by_cases h3 : slope < 0
      · have g3 : decide (slope < 0) = true := decide_eq_true h3
        clear hr h1 h2 h3
        go_enter Tryd.func8, Tryd.ntmps8
        go_wp2_with fail
        refine HC.out.mono ?_; rintro e w2 ⟨rfl, hb⟩
        have B2 := Lib.hid hb
        clear hb
        go_wp2_with fail
        go_ret2
        exact ⟨rfl, B2.out⟩
      · have g3 : decide (slope < 0) = false := decide_eq_false h3
        have g4 : decide (2000 < slope) = true := decide_eq_true (by omega)
        clear hr h1 h2 h3
        go_enter Tryd.func8, Tryd.ntmps8
        go_wp2_with fail
        refine HC.out.mono ?_; rintro e w2 ⟨rfl, hb⟩
        have B2 := Lib.hid hb
        clear hb
        go_wp2_with fail
        go_ret2
        exact ⟨rfl, B2.out⟩
set_option maxRecDepth 100000 in
set_option maxHeartbeats 2000000 in
theorem bop_ok (v : Value) (qs : List Rat) (least slope : Int) (w : World) (hv : SVal w v (txts qs)) (hf : ∀ q ∈ qs, FitQ q) (hl : qs.length ≤ 256) (h1 : FitQ (sumQ qs)) (h2 : FitQ (sumA qs / 2)) (r0 : 0 ≤ least) (r1 : least ≤ 1000000) (r2 : 0 ≤ slope) (r3 : slope ≤ 2000) :
    Calls Tryd.prog 8 #[v, .int .i64 least, .int .i64 slope] w fun e w' => e = .returned (.tuple #[.bool (decide (0 < cmpR (absQ (sumQ qs)) (limQ (sumA qs / 2) least slope))), .int .i64 0]) ∧ Below w.heap.size w w' := by
  have hlen : (txts qs).length = qs.length := by simp [txts]
  have hc := bcheck_c v (txts qs) w hv (fun s hs => by
    obtain ⟨q, hq, rfl⟩ := List.mem_map.1 hs
    have := rtxt_size (hf q hq)
    omega)
  rw [show checkB (txts qs) = 0 by unfold checkB; rw [hlen, if_neg (by omega), allE_of hf]] at hc
  have HC := Lib.hid hc
  have HS := Lib.hid (fun W (hW : Below w.heap.size w W) => sums_c v qs W (hv.below hW) hf hl)
  have HF := Lib.hid (fun g vn vd (q : Rat) W (h1 : FitQ q) (h : QC W g vn vd q) => by
    have h2 := fits_c g vn vd q W h (by have := h1.sz; omega)
    rw [fitE_ok.2 h1] at h2
    exact h2)
  have H1 := Lib.hid h1
  have H2 := Lib.hid h2
  obtain ⟨z1, z2, z3⟩ := sz_lim h2.sz r0 r1 r2 r3
  have hz1 := h1.sz
  have hz2 := h2.sz
  have HINT := Lib.hid (fun (m : Int) W (h0 : -9223372036854775807 ≤ m) (h1 : m ≤ 9223372036854775807) => int_c m W h0 h1)
  have HMUL := Lib.hid (fun np nq vp dp vq dq W (hc : QC W np vp dp (sumA qs / 2)) (hd : QC W nq vq dq ((slope : Int) : Rat)) => rmul_c np nq vp dp vq dq _ _ W hc hd (by omega) (by have := sz_int slope (by omega) (by omega); omega))
  have HQUO := Lib.hid (fun np nq vp dp vq dq W (hc : QC W np vp dp (sumA qs / 2 * ((slope : Int) : Rat))) (hd : QC W nq vq dq ((1000 : Int) : Rat)) => rquo_c np nq vp dp vq dq _ _ W hc hd (by omega) (by have := sz_int 1000 (by omega) (by omega); omega))
  have HADD := Lib.hid (fun np nq vp dp vq dq W (hc : QC W np vp dp ((least : Int) : Rat)) (hd : QC W nq vq dq (sumA qs / 2 * ((slope : Int) : Rat) / ((1000 : Int) : Rat))) => radd_c np nq vp dp vq dq _ _ W hc hd (by have := sz_int least (by omega) (by omega); omega) (by omega))
  have HABS := Lib.hid (fun g vn vd W (h : QC W g vn vd (sumQ qs)) => abs_c g vn vd (sumQ qs) W h)
  have HCMP := Lib.hid (fun np nq vp dp vq dq W (hc : QC W np vp dp (absQ (sumQ qs))) (hd : QC W nq vq dq (limQ (sumA qs / 2) least slope)) => rcmp_c np nq vp dp vq dq _ _ W hc hd (by rw [sz_abs]; omega) (by omega))
  have hlim : limQ (sumA qs / 2) least slope = ((least : Int) : Rat) + sumA qs / 2 * ((slope : Int) : Rat) / ((1000 : Int) : Rat) := rfl
  rw [← hlim] at HADD
  generalize limQ (sumA qs / 2) least slope = L at *
  generalize cmpR (absQ (sumQ qs)) L = R at *
  generalize absQ (sumQ qs) = A at *
  generalize sumA qs / 2 * ((slope : Int) : Rat) / ((1000 : Int) : Rat) = X2 at *
  generalize sumA qs / 2 * ((slope : Int) : Rat) = X1 at *
  obtain ⟨a, cap, rfl⟩ := (show Reads w v (txts qs).length ((txts qs).map Value.string) from hv).slice
  generalize sumQ qs = S at *
  generalize sumA qs / 2 = H at *
  generalize (txts qs).length = n at *
  have g1 : decide (least < 0) = false := decide_eq_false (by omega)
  have g2 : decide (1000000 < least) = false := decide_eq_false (by omega)
  have g3 : decide (slope < 0) = false := decide_eq_false (by omega)
  have g4 : decide (2000 < slope) = false := decide_eq_false (by omega)
  clear hv hf hl hc h1 h2 hlen z1 z2 z3 hz1 hz2 hlim
  go_enter Tryd.func8, Tryd.ntmps8
  go_wp2_with fail
  refine HC.out.mono ?_; rintro e w2 ⟨rfl, hb⟩
  have B2 := Lib.hid hb
  have HS2 := Lib.hid (HS.out w2 hb)
  clear hb HS HC
  go_wp2_with fail
  refine HS2.out.mono ?_; rintro e w3 ⟨⟨v1, v2, rfl, hq1, hq2⟩, hb⟩
  obtain ⟨g4', a4, m4, c4, b4, l4, k4, rfl, h4⟩ := hq1.op
  obtain ⟨g5, a5, m5, c5, b5, l5, k5, rfl, h5⟩ := hq2.op
  have B3 := Lib.hid (belowT B2.out hb)
  have M4 := Lib.hid ((QM.new h4).below (belowA (Below.refl _ _) (.cells #[.bool g5, .slice a5 m5 c5, .slice b5 l5 k5] 65)))
  have M5 := Lib.hid (QM.new (h5.below (belowA (Below.refl _ _) (.cells #[.bool g4', .slice a4 m4 c4, .slice b4 l4 k4] 65))))
  rw [World.size_alloc] at M5
  have B4 := Lib.hid (belowA (belowA B3.out (.cells #[.bool g4', .slice a4 m4 c4, .slice b4 l4 k4] 65)) (.cells #[.bool g5, .slice a5 m5 c5, .slice b5 l5 k5] 65))
  clear hb hq1 hq2 h4 h5 HS2 B2 B3
  go_upto_region 7 with fail
  generalize (w3.alloc (.cells #[.bool g4', .slice a4 m4 c4, .slice b4 l4 k4] 65)).alloc (.cells #[.bool g5, .slice a5 m5 c5, .slice b5 l5 k5] 65) = w4 at *
  generalize w3.heap.size = p4 at *
  obtain ⟨g4, a4, m4, c4, b4, l4, k4, q4, kb4⟩ := M4.out.parts
  obtain ⟨g5, a5, m5, c5, b5, l5, k5, q5, kb5⟩ := M5.out.parts
  have KB4 := Lib.hid kb4
  have KB5 := Lib.hid kb5
  have HQ4 := Lib.hid q4
  have HQ5 := Lib.hid q5
  clear kb4 kb5 q4 q5 M4 M5
  go_cut [11] from 36 to 44 (fun s wx => ∃ d1 : Nat, s = .pointer (some ⟨d1, 0, none⟩) ∧ Hid (QM wx d1 L) ∧ Hid (Below w4.heap.size w4 wx))
  case first =>
    have E0 := Lib.hid (below_drew0 w4.heap.size w4)
    have HSC : Hid (∀ W, Below w4.heap.size w4 W → (W.cell? ⟨p4 + 1, 0, none⟩ = some (.bool g5) ∧ W.cell? ⟨p4 + 1, 1, none⟩ = some (.slice a5 m5 c5) ∧ W.cell? ⟨p4 + 1, 2, none⟩ = some (.slice b5 l5 k5))) := fun W hW => by
      have k' := below_blk hW KB5.out KB5.out.lt
      exact ⟨k'.cell 0 rfl, k'.cell 1 rfl, k'.cell 2 rfl⟩
    go_region_held3 (fun W => (W.cell? ⟨p4 + 1, 0, none⟩ = some (.bool g5) ∧ W.cell? ⟨p4 + 1, 1, none⟩ = some (.slice a5 m5 c5) ∧ W.cell? ⟨p4 + 1, 2, none⟩ = some (.slice b5 l5 k5)))
      ((refine HSC.out _ ?_; first
        | with_reducible exact E0.out
        | with_reducible exact (belowA E0.out _)
        | with_reducible exact (belowA (Below.refl _ _) _).drew
        | exact (belowA (Below.refl _ _) _).drew
        | with_reducible exact E1.out
        | with_reducible exact (belowA E1.out _)
        | with_reducible exact E2.out
        | with_reducible exact (belowA E2.out _)
        | with_reducible exact E3.out
        | with_reducible exact (belowA E3.out _)
        | with_reducible exact E4.out
        | with_reducible exact (belowA E4.out _)
        | with_reducible exact E5.out
        | with_reducible exact (belowA E5.out _)
        | with_reducible exact E6.out
        | with_reducible exact (belowA E6.out _)
        | with_reducible exact ((E6.out.setCell (p := ⟨_, 0, none⟩) E0.out.size _).setCell (p := ⟨_, 1, none⟩) E0.out.size _).setCell (p := ⟨_, 2, none⟩) E0.out.size _
        | with_reducible exact ((E6.out.setCell (p := ⟨_, 0, none⟩) E1.out.size _).setCell (p := ⟨_, 1, none⟩) E1.out.size _).setCell (p := ⟨_, 2, none⟩) E1.out.size _
        | with_reducible exact ((E6.out.setCell (p := ⟨_, 0, none⟩) E2.out.size _).setCell (p := ⟨_, 1, none⟩) E2.out.size _).setCell (p := ⟨_, 2, none⟩) E2.out.size _
        | with_reducible exact ((E6.out.setCell (p := ⟨_, 0, none⟩) E3.out.size _).setCell (p := ⟨_, 1, none⟩) E3.out.size _).setCell (p := ⟨_, 2, none⟩) E3.out.size _
        | with_reducible exact ((E6.out.setCell (p := ⟨_, 0, none⟩) E4.out.size _).setCell (p := ⟨_, 1, none⟩) E4.out.size _).setCell (p := ⟨_, 2, none⟩) E4.out.size _
        | with_reducible exact ((E6.out.setCell (p := ⟨_, 0, none⟩) E5.out.size _).setCell (p := ⟨_, 1, none⟩) E5.out.size _).setCell (p := ⟨_, 2, none⟩) E5.out.size _
        | exact ((E6.out.setCell (p := ⟨_, 0, none⟩) E0.out.size _).setCell (p := ⟨_, 1, none⟩) E0.out.size _).setCell (p := ⟨_, 2, none⟩) E0.out.size _
        | exact ((E6.out.setCell (p := ⟨_, 0, none⟩) E1.out.size _).setCell (p := ⟨_, 1, none⟩) E1.out.size _).setCell (p := ⟨_, 2, none⟩) E1.out.size _
        | exact ((E6.out.setCell (p := ⟨_, 0, none⟩) E2.out.size _).setCell (p := ⟨_, 1, none⟩) E2.out.size _).setCell (p := ⟨_, 2, none⟩) E2.out.size _
        | exact ((E6.out.setCell (p := ⟨_, 0, none⟩) E3.out.size _).setCell (p := ⟨_, 1, none⟩) E3.out.size _).setCell (p := ⟨_, 2, none⟩) E3.out.size _
        | exact ((E6.out.setCell (p := ⟨_, 0, none⟩) E4.out.size _).setCell (p := ⟨_, 1, none⟩) E4.out.size _).setCell (p := ⟨_, 2, none⟩) E4.out.size _
        | exact ((E6.out.setCell (p := ⟨_, 0, none⟩) E5.out.size _).setCell (p := ⟨_, 1, none⟩) E5.out.size _).setCell (p := ⟨_, 2, none⟩) E5.out.size _))
      (first
        | (go_simp; go_at_call 23; ((with_reducible refine (HINT.out least _ (by omega) (by omega)).mono ?_); rintro e w5 ⟨⟨v5, rfl, hq⟩, hb⟩; obtain ⟨i5, aa5, mm5, cc5, bb5, ll5, kk5, rfl, h5⟩ := hq.op; have E1 : Hid (Below w4.heap.size w4 w5) := (by first | exact belowT E0.out hb | exact belowT (belowA E0.out _) hb | exact belowT (belowA (Below.refl _ _) _).drew hb); have R5 := Lib.hid h5; (first | (have NB1 := Lib.hid (below_blk hb (Blk.new _ #[.bool false, .slice none 0 0, .slice none 0 0] 65) (Blk.new _ _ _).lt)) | (have NB1 := Lib.hid (below_blk hb (Blk.new w4 #[.bool false, .slice none 0 0, .slice none 0 0] 65).drew (Blk.new w4 #[.bool false, .slice none 0 0, .slice none 0 0] 65).drew.lt)) | skip); clear hb hq h5))
        | (go_simp; go_at_call 23; ((with_reducible refine (HINT.out slope _ (by omega) (by omega)).mono ?_); rintro e w6 ⟨⟨v6, rfl, hq⟩, hb⟩; obtain ⟨i6, aa6, mm6, cc6, bb6, ll6, kk6, rfl, h6⟩ := hq.op; have E2 : Hid (Below w4.heap.size w4 w6) := (by first | exact belowT E1.out hb | exact belowT (belowA E1.out _) hb); have R6 := Lib.hid h6; have R56 : Hid (QC w6 i5 (.slice aa5 mm5 cc5) (.slice bb5 ll5 kk5) ((least : Int) : Rat)) := (by first | exact R5.out.below hb | exact (R5.out.below (belowA (Below.refl _ _) _)).below hb); (first | (have NB2 := Lib.hid (below_blk hb NB1.out NB1.out.lt)) | (have NB2 := Lib.hid (below_blk hb (Blk.new _ #[.bool false, .slice none 0 0, .slice none 0 0] 65) (Blk.new _ _ _).lt)) | skip); clear hb hq h6))
        | (go_simp; go_at_call 25; ((with_reducible refine (HMUL.out _ _ _ _ _ _ _ (by first | exact HQ5.out.below E2.out | exact HQ5.out.below (belowA E2.out _)) (by first | exact R6.out | exact R6.out.below (belowA (Below.refl _ _) _))).mono ?_); rintro e w7 ⟨⟨v7, rfl, hq⟩, hb⟩; obtain ⟨i7, aa7, mm7, cc7, bb7, ll7, kk7, rfl, h7⟩ := hq.op; have E3 : Hid (Below w4.heap.size w4 w7) := (by first | exact belowT E2.out hb | exact belowT (belowA E2.out _) hb); have R7 := Lib.hid h7; have R57 : Hid (QC w7 i5 (.slice aa5 mm5 cc5) (.slice bb5 ll5 kk5) ((least : Int) : Rat)) := (by first | exact R56.out.below hb | exact (R56.out.below (belowA (Below.refl _ _) _)).below hb); (first | (have NB3 := Lib.hid (below_blk hb NB2.out NB2.out.lt)) | (have NB3 := Lib.hid (below_blk hb (Blk.new _ #[.bool false, .slice none 0 0, .slice none 0 0] 65) (Blk.new _ _ _).lt)) | skip); clear hb hq h7))
        | (go_simp; go_at_call 23; ((with_reducible refine (HINT.out 1000 _ (by omega) (by omega)).mono ?_); rintro e w8 ⟨⟨v8, rfl, hq⟩, hb⟩; obtain ⟨i8, aa8, mm8, cc8, bb8, ll8, kk8, rfl, h8⟩ := hq.op; have E4 : Hid (Below w4.heap.size w4 w8) := (by first | exact belowT E3.out hb | exact belowT (belowA E3.out _) hb); have R8 := Lib.hid h8; have R58 : Hid (QC w8 i5 (.slice aa5 mm5 cc5) (.slice bb5 ll5 kk5) ((least : Int) : Rat)) := (by first | exact R57.out.below hb | exact (R57.out.below (belowA (Below.refl _ _) _)).below hb); have R78 : Hid (QC w8 i7 (.slice aa7 mm7 cc7) (.slice bb7 ll7 kk7) X1) := (by first | exact R7.out.below hb | exact (R7.out.below (belowA (Below.refl _ _) _)).below hb); (first | (have NB4 := Lib.hid (below_blk hb NB3.out NB3.out.lt)) | (have NB4 := Lib.hid (below_blk hb (Blk.new _ #[.bool false, .slice none 0 0, .slice none 0 0] 65) (Blk.new _ _ _).lt)) | skip); clear hb hq h8))
        | (go_simp; go_at_call 26; ((with_reducible refine (HQUO.out _ _ _ _ _ _ _ (by first | exact R78.out | exact R78.out.below (belowA (Below.refl _ _) _)) (by first | exact R8.out | exact R8.out.below (belowA (Below.refl _ _) _))).mono ?_); rintro e w9 ⟨⟨v9, rfl, hq⟩, hb⟩; obtain ⟨i9, aa9, mm9, cc9, bb9, ll9, kk9, rfl, h9⟩ := hq.op; have E5 : Hid (Below w4.heap.size w4 w9) := (by first | exact belowT E4.out hb | exact belowT (belowA E4.out _) hb); have R9 := Lib.hid h9; have R59 : Hid (QC w9 i5 (.slice aa5 mm5 cc5) (.slice bb5 ll5 kk5) ((least : Int) : Rat)) := (by first | exact R58.out.below hb | exact (R58.out.below (belowA (Below.refl _ _) _)).below hb); (first | (have NB5 := Lib.hid (below_blk hb NB4.out NB4.out.lt)) | (have NB5 := Lib.hid (below_blk hb (Blk.new _ #[.bool false, .slice none 0 0, .slice none 0 0] 65) (Blk.new _ _ _).lt)) | skip); clear hb hq h9))
        | (go_simp; go_at_call 24; ((with_reducible refine (HADD.out _ _ _ _ _ _ _ (by first | exact R59.out | exact R59.out.below (belowA (Below.refl _ _) _)) (by first | exact R9.out | exact R9.out.below (belowA (Below.refl _ _) _))).mono ?_); rintro e w10 ⟨⟨v10, rfl, hq⟩, hb⟩; obtain ⟨i10, aa10, mm10, cc10, bb10, ll10, kk10, rfl, h10⟩ := hq.op; have E6 : Hid (Below w4.heap.size w4 w10) := (by first | exact belowT E5.out hb | exact belowT (belowA E5.out _) hb); have R10 := Lib.hid h10; (first | (have NB6 := Lib.hid (below_blk hb NB5.out NB5.out.lt)) | (have NB6 := Lib.hid (below_blk hb (Blk.new _ #[.bool false, .slice none 0 0, .slice none 0 0] 65) (Blk.new _ _ _).lt)) | skip); clear hb hq h10; (first | (have v0 := NB6.out.cell 0 rfl; have v1 := NB6.out.cell 1 rfl; have v2 := NB6.out.cell 2 rfl; have f0 := NB6.out.free 0; have f1 := NB6.out.free 1; have f2 := NB6.out.free 2; have nlt := NB6.out.lt) | skip))))
    all_goals
      go_simp
      go_wp2_with fail
      go_meet
      first
        | exact ⟨_, rfl, QM.new R10.out, belowA E6.out _⟩
        | exact ⟨_, rfl, QM.put NB6.out R10.out, ((E6.out.setCell (p := ⟨_, 0, none⟩) E0.out.size _).setCell (p := ⟨_, 1, none⟩) E0.out.size _).setCell (p := ⟨_, 2, none⟩) E0.out.size _⟩
        | exact ⟨_, rfl, QM.put NB6.out R10.out, ((E6.out.setCell (p := ⟨_, 0, none⟩) E1.out.size _).setCell (p := ⟨_, 1, none⟩) E1.out.size _).setCell (p := ⟨_, 2, none⟩) E1.out.size _⟩
        | exact ⟨_, rfl, QM.put NB6.out R10.out, ((E6.out.setCell (p := ⟨_, 0, none⟩) E2.out.size _).setCell (p := ⟨_, 1, none⟩) E2.out.size _).setCell (p := ⟨_, 2, none⟩) E2.out.size _⟩
        | exact ⟨_, rfl, QM.put NB6.out R10.out, ((E6.out.setCell (p := ⟨_, 0, none⟩) E3.out.size _).setCell (p := ⟨_, 1, none⟩) E3.out.size _).setCell (p := ⟨_, 2, none⟩) E3.out.size _⟩
        | exact ⟨_, rfl, QM.put NB6.out R10.out, ((E6.out.setCell (p := ⟨_, 0, none⟩) E4.out.size _).setCell (p := ⟨_, 1, none⟩) E4.out.size _).setCell (p := ⟨_, 2, none⟩) E4.out.size _⟩
        | exact ⟨_, rfl, QM.put NB6.out R10.out, ((E6.out.setCell (p := ⟨_, 0, none⟩) E5.out.size _).setCell (p := ⟨_, 1, none⟩) E5.out.size _).setCell (p := ⟨_, 2, none⟩) E5.out.size _⟩
  case rest =>
    obtain ⟨d1, rfl, hm, hbw⟩ := hcut
    obtain ⟨g6, a6, m6, c6, b6, l6, k6, q6, kb6⟩ := hm.out.parts
    have KB6 := Lib.hid kb6
    have HQ6 := Lib.hid q6
    have k4w := below_blk hbw.out KB4.out KB4.out.lt
    have k5w := below_blk hbw.out KB5.out KB5.out.lt
    have K4 := Lib.hid k4w
    have K5 := Lib.hid k5w
    have Q4 := Lib.hid (HQ4.out.below hbw.out)
    have Q5 := Lib.hid (HQ5.out.below hbw.out)
    have B7 := Lib.hid (belowT B4.out hbw.out)
    have y0 := k4w.cell 0 rfl
    have y1 := k4w.cell 1 rfl
    have y2 := k4w.cell 2 rfl
    have hl4 := k4w.lt
    clear kb6 q6 hm k4w k5w hbw KB4 KB5 HQ4 HQ5 B4 HMUL HQUO HADD HINT
    go_wp2_with fail
    refine (HF.out _ _ _ S _ H1.out Q4.out).mono ?_; rintro e w5 ⟨rfl, hb⟩
    have E5 := Lib.hid hb
    have kk := below_blk hb K5.out K5.out.lt
    have z0 := kk.cell 0 rfl
    have z1 := kk.cell 1 rfl
    have z2 := kk.cell 2 rfl
    have hl5 := kk.lt
    clear hb kk y0 y1 y2
    go_wp2_with fail
    refine (HF.out _ _ _ H w5 H2.out (Q5.out.below E5.out)).mono ?_; rintro e w6 ⟨rfl, hb⟩
    have E6 := Lib.hid (belowT E5.out hb)
    clear hb z0 z1 z2 hl5
    have K64 := Lib.hid (below_blk E6.out K4.out K4.out.lt)
    have K66 := Lib.hid (below_blk E6.out KB6.out KB6.out.lt)
    have Q64 := Lib.hid (Q4.out.below E6.out)
    have Q66 := Lib.hid (HQ6.out.below E6.out)
    have B6 := Lib.hid (belowT B7.out E6.out)
    have E0 := Lib.hid (below_drew0 w6.heap.size w6)
    have HSC : Hid (∀ W, Below w6.heap.size w6 W → (W.cell? ⟨p4, 0, none⟩ = some (.bool g4) ∧ W.cell? ⟨p4, 1, none⟩ = some (.slice a4 m4 c4) ∧ W.cell? ⟨p4, 2, none⟩ = some (.slice b4 l4 k4) ∧ W.cell? ⟨d1, 0, none⟩ = some (.bool g6) ∧ W.cell? ⟨d1, 1, none⟩ = some (.slice a6 m6 c6) ∧ W.cell? ⟨d1, 2, none⟩ = some (.slice b6 l6 k6))) := fun W hW => by
      have k := below_blk hW K64.out K64.out.lt
      have k' := below_blk hW K66.out K66.out.lt
      exact ⟨k.cell 0 rfl, k.cell 1 rfl, k.cell 2 rfl, k'.cell 0 rfl, k'.cell 1 rfl, k'.cell 2 rfl⟩
    clear HF E5 E6 K4 K5 Q4 Q5 B7 KB6 HQ6
    go_upto_region 10 with fail
    go_region_held3 (fun W => (W.cell? ⟨p4, 0, none⟩ = some (.bool g4) ∧ W.cell? ⟨p4, 1, none⟩ = some (.slice a4 m4 c4) ∧ W.cell? ⟨p4, 2, none⟩ = some (.slice b4 l4 k4) ∧ W.cell? ⟨d1, 0, none⟩ = some (.bool g6) ∧ W.cell? ⟨d1, 1, none⟩ = some (.slice a6 m6 c6) ∧ W.cell? ⟨d1, 2, none⟩ = some (.slice b6 l6 k6)))
      (first
        | with_reducible exact HSC.out _ E0.out
        | with_reducible exact HSC.out _ E1.out
        | with_reducible exact HSC.out _ E2.out)
      (first
        | (go_at_call 28; ((with_reducible refine (HABS.out _ _ _ _ (Q64.out.below E0.out)).mono ?_); rintro e w7 ⟨⟨v7, rfl, hq⟩, hb7⟩; obtain ⟨g7, a7, m7, c7, b7, l7, k7, rfl, h7⟩ := hq.op; have E1 := Lib.hid (belowT E0.out hb7); have R7 := Lib.hid h7; clear hb7 hq h7))
        | (go_at_call 29; ((with_reducible refine (HCMP.out _ _ _ _ _ _ w7 R7.out (Q66.out.below E1.out)).mono ?_); rintro e w8 ⟨rfl, hb8⟩; have E2 := Lib.hid (belowT E1.out hb8); clear hb8)))
    all_goals
      go_simp
      go_wp2_with fail
      go_ret2
      exact ⟨rfl, belowT B6.out E2.out⟩
end Go.Proofs.YtkpalfgnfhphjaaDoor
