/- balance: Sum. -/
import Derived.Test.YtkpalfgnfhphjaaDoorBal1
namespace Go.Proofs.YtkpalfgnfhphjaaDoor
open Go.RowKit

set_option maxRecDepth 100000 in
set_option maxHeartbeats 2000000 in
theorem bsum_bad (v : Value) (l : List ByteArray) (w : World) (hv : SVal w v l) (hsz : Hid (∀ s ∈ l, s.size ≤ 9223372036854775807)) (hc : checkB l ≠ 0) :
    Calls Tryd.prog 9 #[v] w fun e w' => e = .returned (.tuple #[.string ⟨#[]⟩, .string ⟨#[]⟩, .int .i64 (checkB l)]) ∧ Below w.heap.size w w' := by
  have HC := Lib.hid (bcheck_c v l w hv hsz)
  obtain ⟨C, hC⟩ : ∃ c, checkB l = c := ⟨_, rfl⟩
  rw [hC] at HC hc ⊢
  have g1 : (C != 0) = true := by simpa using hc
  obtain ⟨a, cap, rfl⟩ := (show Reads w v l.length (l.map Value.string) from hv).slice
  clear hC hv hsz hc
  go_enter Tryd.func9, Tryd.ntmps9
  go_wp2_with fail
  refine HC.out.mono ?_; rintro e w2 ⟨rfl, hb⟩
  have B2 := Lib.hid hb
  clear hb
  go_wp2_with fail
  go_ret3
  exact ⟨rfl, B2.out⟩
set_option maxRecDepth 100000 in
set_option maxHeartbeats 2000000 in
theorem bsum_ok (v : Value) (qs : List Rat) (w : World) (hv : SVal w v (txts qs)) (hf : ∀ q ∈ qs, FitQ q) (hl : qs.length ≤ 256) (h1 : FitQ (sumQ qs)) (h2 : FitQ (sumA qs / 2)) :
    Calls Tryd.prog 9 #[v] w fun e w' => e = .returned (.tuple #[.string (bs (ratT (sumQ qs))), .string (bs (ratT (sumA qs / 2))), .int .i64 0]) ∧ Below w.heap.size w w' := by
  have hlen : (txts qs).length = qs.length := by simp [txts]
  have hc := bcheck_c v (txts qs) w hv (fun s hs => by
    obtain ⟨q, hq, rfl⟩ := List.mem_map.1 hs
    have := rtxt_size (hf q hq)
    omega)
  rw [show checkB (txts qs) = 0 by unfold checkB; rw [hlen, if_neg (by omega), allE_of hf]] at hc
  have HC := Lib.hid hc
  have HS := Lib.hid (fun W (hW : Below w.heap.size w W) => sums_c v qs W (hv.below hW) hf hl)
  have HF := Lib.hid (fun g vn vd (q : Rat) W (h1 : FitQ q) (h : QC W g vn vd q) => by
    have h2 := fits_c g vn vd q W h (by have := h1.sz; omega)
    rw [fitE_ok.2 h1] at h2
    exact h2)
  have HO := Lib.hid (fun g vn vd (q : Rat) W (h1 : FitQ q) (h : QC W g vn vd q) => out_c g vn vd q W h (by have := h1.sz; omega))
  have H1 := Lib.hid h1
  have H2 := Lib.hid h2
  obtain ⟨a, cap, rfl⟩ := (show Reads w v (txts qs).length ((txts qs).map Value.string) from hv).slice
  generalize sumQ qs = S at *
  generalize sumA qs / 2 = H at *
  generalize (txts qs).length = n at *
  clear hv hf hl hc h1 h2 hlen
  go_enter Tryd.func9, Tryd.ntmps9
  go_wp2_with fail
  refine HC.out.mono ?_; rintro e w2 ⟨rfl, hb⟩
  have B2 := Lib.hid hb
  have HS2 := Lib.hid (HS.out w2 hb)
  clear hb HS HC
  go_wp2_with fail
  refine HS2.out.mono ?_; rintro e w3 ⟨⟨v1, v2, rfl, hq1, hq2⟩, hb⟩
  obtain ⟨g4, a4, m4, c4, b4, l4, k4, rfl, h4⟩ := hq1.op
  obtain ⟨g5, a5, m5, c5, b5, l5, k5, rfl, h5⟩ := hq2.op
  have B3 := Lib.hid (belowT B2.out hb)
  have M4 := Lib.hid ((QM.new h4).below (belowA (Below.refl _ _) (.cells #[.bool g5, .slice a5 m5 c5, .slice b5 l5 k5] 65)))
  have M5 := Lib.hid (QM.new (h5.below (belowA (Below.refl _ _) (.cells #[.bool g4, .slice a4 m4 c4, .slice b4 l4 k4] 65))))
  rw [World.size_alloc] at M5
  have B4 := Lib.hid (belowA (belowA B3.out (.cells #[.bool g4, .slice a4 m4 c4, .slice b4 l4 k4] 65)) (.cells #[.bool g5, .slice a5 m5 c5, .slice b5 l5 k5] 65))
  clear hb hq1 hq2 h4 h5 HS2 B2 B3
  go_upto_region 5 with fail
  generalize (w3.alloc (.cells #[.bool g4, .slice a4 m4 c4, .slice b4 l4 k4] 65)).alloc (.cells #[.bool g5, .slice a5 m5 c5, .slice b5 l5 k5] 65) = w4 at *
  generalize w3.heap.size = p4 at *
  obtain ⟨g4, a4, m4, c4, b4, l4, k4, q4, kb4⟩ := M4.out.parts
  obtain ⟨g5, a5, m5, c5, b5, l5, k5, q5, kb5⟩ := M5.out.parts
  have KB4 := Lib.hid kb4
  have KB5 := Lib.hid kb5
  have HQ4 := Lib.hid q4
  have HQ5 := Lib.hid q5
  have y0 := kb4.cell 0 rfl
  have y1 := kb4.cell 1 rfl
  have y2 := kb4.cell 2 rfl
  have hl4 := kb4.lt
  clear kb4 kb5 q4 q5 M4 M5
  go_wp2_with fail
  refine (HF.out _ _ _ S w4 H1.out HQ4.out).mono ?_; rintro e w5 ⟨rfl, hb⟩
  have E5 := Lib.hid hb
  have kk := below_blk hb KB5.out KB5.out.lt
  have z0 := kk.cell 0 rfl
  have z1 := kk.cell 1 rfl
  have z2 := kk.cell 2 rfl
  have hl5 := kk.lt
  clear hb kk y0 y1 y2
  go_wp2_with fail
  refine (HF.out _ _ _ H w5 H2.out (HQ5.out.below E5.out)).mono ?_; rintro e w6 ⟨rfl, hb⟩
  have E6 := Lib.hid (belowT E5.out hb)
  clear hb z0 z1 z2 hl5
  have K64 := Lib.hid (below_blk E6.out KB4.out KB4.out.lt)
  have K65 := Lib.hid (below_blk E6.out KB5.out KB5.out.lt)
  have Q64 := Lib.hid (HQ4.out.below E6.out)
  have Q65 := Lib.hid (HQ5.out.below E6.out)
  have B6 := Lib.hid (belowT B4.out E6.out)
  obtain ⟨T1, hT1⟩ : ∃ T, bs (ratT S) = T := ⟨_, rfl⟩
  obtain ⟨T2, hT2⟩ : ∃ T, bs (ratT H) = T := ⟨_, rfl⟩
  have HT1 := Lib.hid hT1
  have HT2 := Lib.hid hT2
  have O1 := Lib.hid (fun W hW => HO.out g4 (.slice a4 m4 c4) (.slice b4 l4 k4) S W H1.out (Q64.out.below (w' := W) hW))
  have O2 := Lib.hid (fun W hW => HO.out g5 (.slice a5 m5 c5) (.slice b5 l5 k5) H W H2.out (Q65.out.below (w' := W) hW))
  rw [hT1] at O1
  rw [hT2] at O2
  have E0 := Lib.hid (below_drew0 w6.heap.size w6)
  have HSC : Hid (∀ W, Below w6.heap.size w6 W → (W.cell? ⟨p4, 0, none⟩ = some (.bool g4) ∧ W.cell? ⟨p4, 1, none⟩ = some (.slice a4 m4 c4) ∧ W.cell? ⟨p4, 2, none⟩ = some (.slice b4 l4 k4) ∧ W.cell? ⟨p4 + 1, 0, none⟩ = some (.bool g5) ∧ W.cell? ⟨p4 + 1, 1, none⟩ = some (.slice a5 m5 c5) ∧ W.cell? ⟨p4 + 1, 2, none⟩ = some (.slice b5 l5 k5))) := fun W hW => by
    have k := below_blk hW K64.out K64.out.lt
    have k' := below_blk hW K65.out K65.out.lt
    exact ⟨k.cell 0 rfl, k.cell 1 rfl, k.cell 2 rfl, k'.cell 0 rfl, k'.cell 1 rfl, k'.cell 2 rfl⟩
  clear hT1 hT2 HO HF E5 E6 KB4 KB5 HQ4 HQ5 B4
  go_upto_region 7 with fail
  go_region_held3 (fun W => (W.cell? ⟨p4, 0, none⟩ = some (.bool g4) ∧ W.cell? ⟨p4, 1, none⟩ = some (.slice a4 m4 c4) ∧ W.cell? ⟨p4, 2, none⟩ = some (.slice b4 l4 k4) ∧ W.cell? ⟨p4 + 1, 0, none⟩ = some (.bool g5) ∧ W.cell? ⟨p4 + 1, 1, none⟩ = some (.slice a5 m5 c5) ∧ W.cell? ⟨p4 + 1, 2, none⟩ = some (.slice b5 l5 k5)))
    (first
      | with_reducible exact HSC.out _ E0.out
      | with_reducible exact HSC.out _ E1.out
      | with_reducible exact HSC.out _ E2.out)
    (first
      | (go_at_call 30; ((with_reducible refine (O1.out _ E0.out).mono ?_); rintro e w7 ⟨rfl, hb7⟩; have E1 := Lib.hid (belowT E0.out hb7); clear hb7))
      | (go_at_call 30; ((with_reducible refine (O2.out _ E1.out).mono ?_); rintro e w8 ⟨rfl, hb8⟩; have E2 := Lib.hid (belowT E1.out hb8); clear hb8)))
  all_goals
    go_simp
    go_wp2_with fail
    go_ret3
    exact ⟨by rw [HT1.out, HT2.out]; rfl, belowT B6.out E2.out⟩
end Go.Proofs.YtkpalfgnfhphjaaDoor
