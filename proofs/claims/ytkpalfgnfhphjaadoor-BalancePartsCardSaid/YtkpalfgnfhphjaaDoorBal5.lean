/- matrix: Out, CheckVec, product, Dot. -/
import Derived.Test.YtkpalfgnfhphjaaDoorBal4
namespace Go.Proofs.YtkpalfgnfhphjaaDoor
open Go.RowKit

set_option maxRecDepth 100000 in
set_option maxHeartbeats 2000000 in
theorem vout_c (v : Value) (qs : List Rat) (w : World) (hv : QsV w v qs) (hf : ∀ q ∈ qs, FitQ q) (hl : qs.length ≤ 10000) :
    Calls Tryd.prog 35 #[v] w fun e w' => (∃ a c, e = .returned (.tuple #[.slice a qs.length c, .int .i64 0]) ∧ SVal w' (.slice a qs.length c) (txts qs)) ∧ Below w.heap.size w w' := by
  obtain ⟨a, cap, rfl⟩ : ∃ a cap, v = .slice a qs.length cap := by
    obtain ⟨cs, h1, _⟩ := hv
    exact h1.slice
  have HV := Lib.hid hv
  obtain ⟨n, hN⟩ : ∃ n, qs.length = n := ⟨_, rfl⟩
  have HN := Lib.hid hN
  have HF := Lib.hid (fun g vn vd (q : Rat) W (h0 : q ∈ qs) (h : QC W g vn vd q) => by
    have h2 := fits_c g vn vd q W h (by have := (hf q h0).sz; omega)
    rw [fitE_ok.2 (hf q h0)] at h2
    exact h2)
  have HO := Lib.hid (fun g vn vd (q : Rat) W (h0 : q ∈ qs) (h : QC W g vn vd q) => out_c g vn vd q W h (by have := (hf q h0).sz; omega))
  rw [hN] at hl HV ⊢
  clear hv hf hN
  go_enter Tryd.func35, Tryd.ntmps35
  go_wp2_with fail
  go_loopw [10, 4] (fun i ov wr => ∃ k : Nat, k ≤ n ∧ i = .int .i64 k ∧ Hid (OS w.heap.size wr ov (txts (qs.take k))) ∧ Hid (Below w.heap.size w wr)) (fun i _ _ => n - (intOf i).toNat)
  case atStart => exact ⟨0, Nat.zero_le _, rfl, ⟨rfl, Or.inl ⟨rfl, rfl⟩⟩, Below.refl _ _⟩
  case round =>
    obtain ⟨k, hk, rfl, ho, hb⟩ := hrel
    have hkl : (txts (qs.take k)).length = k := by simp [txts, HN.out]; omega
    obtain ⟨oa, oc, rfl⟩ := row_slice (show wr.ownsRow w.heap.size 37 1 _ (txts (qs.take k)).length ((txts (qs.take k)).map Value.string) from ho.out)
    rw [hkl] at ho ⊢
    by_cases hlt : k < n
    · obtain ⟨x, hx⟩ : ∃ x, qs[k]? = some x := ⟨_, List.getElem?_eq_getElem (by rw [HN.out]; exact hlt)⟩
      obtain ⟨b, off, cap', c, hvv, hbl, x0, x1, x2, hqc⟩ := (HV.out.below hb.out).at hx
      simp only [Value.slice.injEq] at hvv
      obtain ⟨rfl, hnn, rfl⟩ := hvv
      clear hnn
      obtain ⟨cg, cna, cn, cnc, cda, cdl, cdc⟩ := c
      simp only at x0 x1 x2 hqc
      have hm := List.mem_of_getElem? hx
      have Q5 := Lib.hid (hqc.below (belowA (Below.refl _ _) (.cells #[.bool cg, .slice cna cn cnc, .slice cda cdl cdc] 65)))
      have K5 := Lib.hid (Blk.new wr #[.bool cg, .slice cna cn cnc, .slice cda cdl cdc] 65)
      have B5 := Lib.hid (hb.out.alloc hb.out.size (.cells #[.bool cg, .slice cna cn cnc, .slice cda cdl cdc] 65))
      have O5 := Lib.hid (ownsRow_below ho.out (belowA (Below.refl _ _) (.cells #[.bool cg, .slice cna cn cnc, .slice cda cdl cdc] 65)))
      have HFX := Lib.hid (fun W h => HF.out cg (.slice cna cn cnc) (.slice cda cdl cdc) x W hm h)
      have HOX := Lib.hid (fun W h => HO.out cg (.slice cna cn cnc) (.slice cda cdl cdc) x W hm h)
      have HTK : Hid (txts (qs.take (k + 1)) = txts (qs.take k) ++ [bs (ratT x)]) := by
        show _ = _
        obtain ⟨h1, h2⟩ := List.getElem?_eq_some_iff.1 hx
        rw [List.take_succ_eq_append_getElem h1, h2]
        simp [txts]
      have HKL := Lib.hid hkl
      obtain ⟨T, hT⟩ : ∃ T, bs (ratT x) = T := ⟨_, rfl⟩
      rw [hT] at HTK HOX
      clear hqc hm hx ho hb hkl hT
      go_upto_region 5 with fail
      generalize wr.alloc (.cells #[.bool cg, .slice cna cn cnc, .slice cda cdl cdc] 65) = w5 at *
      generalize wr.heap.size = p5 at *
      have y0 := K5.out.cell 0 rfl
      have y1 := K5.out.cell 1 rfl
      have y2 := K5.out.cell 2 rfl
      have hl5 := K5.out.lt
      clear x0 x1 x2
      go_wp2_with fail
      refine (HFX.out _ Q5.out).mono ?_; rintro e w6 ⟨rfl, hb6⟩
      have k6 := below_blk hb6 K5.out K5.out.lt
      have z0 := k6.cell 0 rfl
      have z1 := k6.cell 1 rfl
      have z2 := k6.cell 2 rfl
      have hl6 := k6.lt
      have B6 := Lib.hid (B5.out.trans (hb6.mono B5.out.size))
      have O6 := Lib.hid (ownsRow_below O5.out hb6)
      have HO6 := Lib.hid (HOX.out w6 (Q5.out.below hb6))
      clear hb6 k6 K5 B5 O5 HFX HOX Q5 y0 y1 y2
      go_wp2_with fail
      refine HO6.out.mono ?_; rintro e w7 ⟨rfl, hb7⟩
      have B7 := B6.out.trans (hb7.mono B6.out.size)
      have O7 := ownsRow_below (ownsRow_below O6.out hb7) (belowA (Below.refl _ _) (.cells #[.string T] 37))
      have B8 := B7.alloc B7.size (.cells #[.string T] 37)
      have O8 : OS w.heap.size (w7.alloc (.cells #[.string T] 37)) (.slice oa k oc) (txts (qs.take k)) := O7
      obtain ⟨v9, W9, hr9, ho9, hb9⟩ := O8.app B8.size (Blk.new w7 _ _) (by rw [HKL.out]; omega)
      have H9 : Hid (∀ ty, (Builtin.append_ #[23, 23] ty #[.slice oa k oc, .slice (some ⟨w7.heap.size, 0, none⟩) 1 1]).run Tryd.prog (w7.alloc (.cells #[.string T] 37)) = .ok v9 W9) := hr9
      have O9 := Lib.hid ho9
      have B9 := Lib.hid (B8.trans hb9)
      clear hr9 ho9 hb9 O8 B8 O7 B7 hb7 HO6 z0 z1 z2 B6 O6
      go_wp2_with (at_builtin; refine wpList_append_told rfl (.tmp 19) (.tmp 22) 23 rfl _ _ rfl rfl _ W9 (H9.out _) ?_)
      go_roundw
      case rel => exact ⟨k + 1, hlt, by go_num, by rw [HTK.out]; exact O9.out, B9.out⟩
      case measure => simp [intOf]; omega
    · obtain rfl : k = n := by omega
      have hT : qs.take k = qs := List.take_of_length_le (by rw [HN.out]; exact Nat.le_refl _)
      have hR : Hid (SVal wr (.slice oa k oc) (txts qs)) := by
        have h := ho.out
        rw [hT] at h
        have h2 : wr.ownsRow w.heap.size 37 1 (.slice oa k oc) (txts qs).length ((txts qs).map Value.string) := h
        exact Reads.of_owns h2 (by simp [txts]; rw [HN.out]; omega)
      clear ho
      go_wp2_with fail
      go_ret2
      exact ⟨⟨_, _, rfl, hR.out⟩, hb.out⟩
theorem checkVec_ok (v : Value) (qs : List Rat) (w : World) (hv : SVal w v (txts qs)) (hf : ∀ q ∈ qs, FitQ q) (hl : qs.length ≤ 40) :
    Calls Tryd.prog 38 #[v] w fun e w' => e = .returned (.int .i64 0) ∧ Below w.heap.size w w' := by
  have hlen : (txts qs).length = qs.length := by simp [txts]
  have hck := checkAll_c v (txts qs) w hv (fun s hs => by
    obtain ⟨q, hq, rfl⟩ := List.mem_map.1 hs
    have := rtxt_size (hf q hq)
    omega)
  rw [allE_of hf] at hck
  obtain ⟨a, cap, rfl⟩ := (show Reads w v (txts qs).length ((txts qs).map Value.string) from hv).slice
  rw [hlen] at hck ⊢
  have HC := Lib.hid hck
  generalize qs.length = n at *
  have g1 : decide (40 < (n : Int)) = false := decide_eq_false (by omega)
  clear hv hf hck hlen
  go_enter Tryd.func38, Tryd.ntmps38
  go_wp2_with fail
  refine HC.out.mono ?_; rintro e w2 ⟨rfl, hb⟩
  have B2 := Lib.hid hb
  clear hb
  go_wp2_with fail
  go_ret
  exact ⟨rfl, B2.out⟩
/-- The sum of the squares. -/
abbrev sumS (l : List Rat) : Rat := sumQ (l.map fun q => q * q)
theorem sumS_take {l : List Rat} {k : Nat} {q : Rat} (h : l[k]? = some q) : sumS (l.take (k + 1)) = sumS (l.take k) + q * q := by
  unfold sumS
  rw [List.map_take, List.map_take]
  exact sumQ_take (by simp [h])
theorem sz_sumB (B : Nat) (l : List Rat) (h : ∀ q ∈ l, sz q ≤ B) : sz (sumQ l) ≤ 1 + (B + 1) * l.length := by
  induction l with
  | nil => show sz 0 ≤ _; rw [sz_zero]; omega
  | cons q l ih =>
    have h1 := ih (fun x hx => h x (List.mem_cons_of_mem _ hx))
    have h2 := h q (List.mem_cons_self ..)
    have h3 := sz_add q (sumQ l)
    show sz (q + sumQ l) ≤ _
    rw [List.length_cons, Nat.mul_add]; omega
set_option maxRecDepth 100000 in
set_option maxHeartbeats 2000000 in
theorem product_c (va vb : Value) (qs : List Rat) (w : World) (ha : QsV w va qs) (hb : QsV w vb qs) (hf : ∀ q ∈ qs, FitQ q) (hl : qs.length ≤ 256) :
    Calls Tryd.prog 39 #[va, vb] w fun e w' => (∃ v, e = .returned v ∧ QV w' v (sumS qs)) ∧ Below w.heap.size w w' := by
  obtain ⟨a, acap, rfl⟩ : ∃ a cap, va = .slice a qs.length cap := by
    obtain ⟨cs, h1, _⟩ := ha
    exact h1.slice
  obtain ⟨b, bcap, rfl⟩ : ∃ a cap, vb = .slice a qs.length cap := by
    obtain ⟨cs, h1, _⟩ := hb
    exact h1.slice
  have HA := Lib.hid ha
  have HB := Lib.hid hb
  obtain ⟨n, hN⟩ : ∃ n, qs.length = n := ⟨_, rfl⟩
  have HN := Lib.hid hN
  have HZ : Hid (∀ k, k ≤ n → sz (sumS (qs.take k)) ≤ 1100000) := fun k hk => by
    have h1 := sz_sumB 4000 ((qs.take k).map fun q => q * q) (fun q hq => by
      obtain ⟨r, hr, rfl⟩ := List.mem_map.1 hq
      have := sz_mul r r
      have := (hf r (List.mem_of_mem_take hr)).sz
      omega)
    have h2 : (qs.take k).length ≤ k := by rw [List.length_take]; omega
    rw [List.length_map] at h1
    have : (4000 + 1) * (qs.take k).length ≤ (4000 + 1) * 256 := Nat.mul_le_mul_left _ (by omega)
    unfold sumS
    omega
  have HMUL := Lib.hid (fun np nq vp dp vq dq (q : Rat) W (h : q ∈ qs) (hc : QC W np vp dp q) (hd : QC W nq vq dq q) => rmul_c np nq vp dp vq dq q q W hc hd (by have := (hf q h).sz; omega) (by have := (hf q h).sz; omega))
  have HADD := Lib.hid (fun np nq vp dp vq dq (k : Nat) (hk : k ≤ n) (q : Rat) (h : q ∈ qs) W (hc : QC W np vp dp (sumS (qs.take k))) (hd : QC W nq vq dq (q * q)) => radd_c np nq vp dp vq dq (sumS (qs.take k)) (q * q) W hc hd (by have := HZ.out k hk; omega) (by have := sz_mul q q; have := (hf q h).sz; omega))
  rw [hN] at hl HA HB ⊢
  have B0 := Lib.hid (belowA (belowA (Below.refl w.heap.size w) (.cells #[.bool false, .slice none 0 0, .slice none 0 0] 65)) (.cells #[.bool false, .slice none 0 0, .slice none 0 0] 65))
  have KR := Lib.hid ((Blk.new w #[.bool false, .slice none 0 0, .slice none 0 0] 65).alloc (.cells #[.bool false, .slice none 0 0, .slice none 0 0] 65))
  have Q0 := Lib.hid (QM.new (QC.zero (w.alloc (.cells #[.bool false, .slice none 0 0, .slice none 0 0] 65))))
  rw [World.size_alloc] at Q0
  clear ha hb hf hN
  go_enter Tryd.func39, Tryd.ntmps39
  go_upto_region 2 with fail
  generalize (w.alloc (.cells #[.bool false, .slice none 0 0, .slice none 0 0] 65)).alloc (.cells #[.bool false, .slice none 0 0, .slice none 0 0] 65) = w1 at *
  obtain ⟨p5, hp5⟩ : ∃ p, w.heap.size + 1 = p := ⟨_, rfl⟩
  have HP5 := Lib.hid hp5
  rw [hp5] at Q0 ⊢
  clear hp5
  go_wp2_with fail
  go_loopw [10] (fun i wr => ∃ k : Nat, k ≤ n ∧ i = .int .i64 k ∧ Hid (QM wr p5 (sumS (qs.take k))) ∧ Hid (Blk wr w.heap.size #[.bool false, .slice none 0 0, .slice none 0 0] 65) ∧ Hid (Below w.heap.size w wr)) (fun i _ => n - (intOf i).toNat)
  case atStart => exact ⟨0, Nat.zero_le _, rfl, Q0.out, KR.out, B0.out⟩
  case round =>
    clear Q0 KR B0
    obtain ⟨k, hk, rfl, hq5, hkr, hb⟩ := hrel
    by_cases hlt : k < n
    · obtain ⟨x, hx⟩ : ∃ x, qs[k]? = some x := ⟨_, List.getElem?_eq_getElem (by rw [HN.out]; exact hlt)⟩
      have hm := List.mem_of_getElem? hx
      obtain ⟨b1, off1, cap1, c1, hv1, _, x0, x1, x2, hc1⟩ := (HA.out.below hb.out).at hx
      obtain ⟨b2, off2, cap2, c2, hv2, hb2w', y0w, y1w, y2w, hc2w⟩ := HB.out.at hx
      simp only [Value.slice.injEq] at hv1 hv2
      obtain ⟨rfl, hnn, rfl⟩ := hv1
      obtain ⟨rfl, hnn2, rfl⟩ := hv2
      clear hnn hnn2
      have hb2 : b2 < wr.heap.size := Nat.lt_of_lt_of_le hb2w' hb.out.size
      have y0 := (hb.out.cell (p := ⟨b2, off2 + k * 3, none⟩) hb2w').trans y0w
      have y1 := (hb.out.cell (p := ⟨b2, off2 + k * 3 + 1, none⟩) hb2w').trans y1w
      have y2 := (hb.out.cell (p := ⟨b2, off2 + k * 3 + 2, none⟩) hb2w').trans y2w
      have hc2 := hc2w.below hb.out
      clear y0w y1w y2w hc2w
      obtain ⟨ag, ana, an, anc, ada, adl, adc⟩ := c1
      obtain ⟨bg, bna, bn, bnc, bda, bdl, bdc⟩ := c2
      simp only at x0 x1 x2 hc1 y0 y1 y2 hc2
      have HST : Hid (sumS (qs.take (k + 1)) = sumS (qs.take k) + x * x) := sumS_take hx
      have HMX := Lib.hid (fun np nq vp dp vq dq W hc hd => HMUL.out np nq vp dp vq dq x W hm hc hd)
      have HAX := Lib.hid (fun np nq vp dp vq dq W hc hd => HADD.out np nq vp dp vq dq k hk x hm W hc hd)
      generalize sumS (qs.take k) = S at *
      have Q7 := Lib.hid (hc1.below (belowA (Below.refl _ _) (.cells #[.bool ag, .slice ana an anc, .slice ada adl adc] 65)))
      have Q8 := Lib.hid (hc2.below (belowA (Below.refl _ _) (.cells #[.bool ag, .slice ana an anc, .slice ada adl adc] 65)))
      have K7 := Lib.hid (Blk.new wr #[.bool ag, .slice ana an anc, .slice ada adl adc] 65)
      have M5 := Lib.hid (hq5.out.below (belowA (Below.refl _ _) (.cells #[.bool ag, .slice ana an anc, .slice ada adl adc] 65)))
      have KR := Lib.hid (hkr.out.alloc (.cells #[.bool ag, .slice ana an anc, .slice ada adl adc] 65))
      have B6 := Lib.hid (hb.out.alloc hb.out.size (.cells #[.bool ag, .slice ana an anc, .slice ada adl adc] 65))
      have hlt5 := hq5.out.lt
      have CY : Hid (∀ W, Below (wr.alloc (.cells #[.bool ag, .slice ana an anc, .slice ada adl adc] 65)).heap.size (wr.alloc (.cells #[.bool ag, .slice ana an anc, .slice ada adl adc] 65)) W → (W.cell? ⟨b2, off2 + k * 3, none⟩ = some (.bool bg) ∧ W.cell? ⟨b2, off2 + k * 3 + 1, none⟩ = some (.slice bna bn bnc) ∧ W.cell? ⟨b2, off2 + k * 3 + 2, none⟩ = some (.slice bda bdl bdc))) := fun W hW => by
        have hA := belowA (Below.refl wr.heap.size wr) (.cells #[.bool ag, .slice ana an anc, .slice ada adl adc] 65)
        have hA2 := belowT hA hW
        exact ⟨(hA2.cell (p := ⟨b2, off2 + k * 3, none⟩) hb2).trans y0, (hA2.cell (p := ⟨b2, off2 + k * 3 + 1, none⟩) hb2).trans y1, (hA2.cell (p := ⟨b2, off2 + k * 3 + 2, none⟩) hb2).trans y2⟩
      clear hc1 hc2 hq5 hkr hb hm hx HMUL HADD
      go_upto_region 5 with fail
      generalize wr.alloc (.cells #[.bool ag, .slice ana an anc, .slice ada adl adc] 65) = w6 at *
      have hp57 : p5 < wr.heap.size := hlt5
      generalize wr.heap.size = p7 at *
      clear x0 x1 x2 y0 y1 y2
      obtain ⟨g5, a5, m5, c5, d5, l5, k5, q5, kb5⟩ := M5.out.parts
      have KB5 := Lib.hid kb5
      have HQ5 := Lib.hid q5
      have E0 := Lib.hid (below_drew0 w6.heap.size w6)
      have HSC : Hid (∀ W, Below w6.heap.size w6 W → (W.cell? ⟨p7, 0, none⟩ = some (.bool ag) ∧ W.cell? ⟨p7, 1, none⟩ = some (.slice ana an anc) ∧ W.cell? ⟨p7, 2, none⟩ = some (.slice ada adl adc) ∧ W.cell? ⟨b2, off2 + k * 3, none⟩ = some (.bool bg) ∧ W.cell? ⟨b2, off2 + k * 3 + 1, none⟩ = some (.slice bna bn bnc) ∧ W.cell? ⟨b2, off2 + k * 3 + 2, none⟩ = some (.slice bda bdl bdc))) := fun W hW => by
        have k7 := below_blk hW K7.out K7.out.lt
        obtain ⟨i0, i1, i2⟩ := CY.out W hW
        exact ⟨k7.cell 0 rfl, k7.cell 1 rfl, k7.cell 2 rfl, i0, i1, i2⟩
      have HSS : Hid (∀ w9 W1, Below w6.heap.size w6 w9 → But p5 w9 W1 → (W1.cell? ⟨p7, 0, none⟩ = some (.bool ag) ∧ W1.cell? ⟨p7, 1, none⟩ = some (.slice ana an anc) ∧ W1.cell? ⟨p7, 2, none⟩ = some (.slice ada adl adc) ∧ W1.cell? ⟨b2, off2 + k * 3, none⟩ = some (.bool bg) ∧ W1.cell? ⟨b2, off2 + k * 3 + 1, none⟩ = some (.slice bna bn bnc) ∧ W1.cell? ⟨b2, off2 + k * 3 + 2, none⟩ = some (.slice bda bdl bdc))) := fun w9 W1 hW h1 => by
        have k7 := h1.blk (below_blk hW K7.out K7.out.lt) (by omega)
        obtain ⟨i0, i1, i2⟩ := CY.out w9 hW
        have hsz : b2 < w9.heap.size := World.block_lt_of_cell? w9 _ i0
        have hbk := h1.block b2 hsz (by intro e; injection e with e; have := HP5.out; omega)
        exact ⟨k7.cell 0 rfl, k7.cell 1 rfl, k7.cell 2 rfl, by rw [World.cell?_of_block (w := w9) hbk]; exact i0, by rw [World.cell?_of_block (w := w9) hbk]; exact i1, by rw [World.cell?_of_block (w := w9) hbk]; exact i2⟩
      have u0 := kb5.cell 0 rfl
      have u1 := kb5.cell 1 rfl
      have u2 := kb5.cell 2 rfl
      have hl5 := kb5.lt
      clear kb5 q5 M5
      rw [show Op.load 65 (.tmp 5) = hideLoad 65 (.tmp 5) from rfl]
      go_region_held3 (fun W => (W.cell? ⟨p7, 0, none⟩ = some (.bool ag) ∧ W.cell? ⟨p7, 1, none⟩ = some (.slice ana an anc) ∧ W.cell? ⟨p7, 2, none⟩ = some (.slice ada adl adc) ∧ W.cell? ⟨b2, off2 + k * 3, none⟩ = some (.bool bg) ∧ W.cell? ⟨b2, off2 + k * 3 + 1, none⟩ = some (.slice bna bn bnc) ∧ W.cell? ⟨b2, off2 + k * 3 + 2, none⟩ = some (.slice bda bdl bdc)))
        (first
          | with_reducible exact HSC.out _ E0.out
          | with_reducible exact HSC.out _ E1.out
          | with_reducible exact HSC.out _ E2.out
          | with_reducible exact HF1.out)
        (first
          | (go_simp; go_at_call 25; ((with_reducible refine (HMX.out _ _ _ _ _ _ _ (Q7.out.below E0.out) (Q8.out.below E0.out)).mono ?_); rintro e w7 ⟨⟨v7, rfl, hq⟩, hb7⟩; obtain ⟨i7, aa7, mm7, cc7, dd7, ll7, kk7, rfl, h7⟩ := hq.op; have E1 := Lib.hid (belowT E0.out hb7); have R7 := Lib.hid h7; have kk := below_blk E1.out KB5.out KB5.out.lt; have z0 := kk.cell 0 rfl; have z1 := kk.cell 1 rfl; have z2 := kk.cell 2 rfl; have hl7 := kk.lt; clear hb7 hq h7 kk))
          | (go_simp; go_at_call 24; ((with_reducible refine (HAX.out _ _ _ _ _ _ w7 (HQ5.out.below E1.out) R7.out).mono ?_); rintro e w9 ⟨⟨v9, rfl, hq⟩, hb9⟩; obtain ⟨i9, aa9, mm9, cc9, dd9, ll9, kk9, rfl, h9⟩ := hq.op; have E2 := Lib.hid (belowT E1.out hb9); have R9 := Lib.hid h9; have n5 := below_blk E2.out KB5.out KB5.out.lt; have N5 := Lib.hid n5; have v0 := n5.cell 0 rfl; have v1 := n5.cell 1 rfl; have v2 := n5.cell 2 rfl; have s0 := n5.free 0; have s1 := n5.free 1; have s2 := n5.free 2; have hl9 := n5.lt; have HF1 := Lib.hid (HSS.out w9 _ E2.out (but_set3 w9 p5 (.bool i9) (.slice aa9 mm9 cc9) (.slice dd9 ll9 kk9))); clear hb9 hq h9 n5)))
      all_goals
        go_simp
        have hge : w.heap.size ≤ p5 := by have := HP5.out; omega
        have P5 := Lib.hid (QM.put N5.out R9.out)
        have C9 := Lib.hid ((((B6.out.trans (E2.out.mono B6.out.size)).setCell (p := ⟨p5, 0, none⟩) hge (.bool i9)).setCell (p := ⟨p5, 1, none⟩) hge (.slice aa9 mm9 cc9)).setCell (p := ⟨p5, 2, none⟩) hge (.slice dd9 ll9 kk9))
        have KR9 := Lib.hid ((but_set3 w9 p5 (.bool i9) (.slice aa9 mm9 cc9) (.slice dd9 ll9 kk9)).blk (below_blk E2.out KR.out KR.out.lt) (by have := HP5.out; omega))
        clear u0 u1 u2 z0 z1 z2 v0 v1 v2 s0 s1 s2 N5 R9 R7 HQ5 KB5 HSC HSS HF1 E0 E1 E2 B6 K7 Q7 Q8 KR CY
        go_wp2_with fail
        go_roundw
        case rel => exact ⟨k + 1, hlt, by go_num, by rw [HST.out]; exact P5.out, KR9.out, C9.out⟩
        case measure => simp [intOf]; omega
    · obtain rfl : k = n := by omega
      have hT : qs.take k = qs := List.take_of_length_le (by rw [HN.out]; exact Nat.le_refl _)
      rw [hT] at hq5
      obtain ⟨g5, a5, m5, c5, d5, l5, k5, q5, kb5⟩ := hq5.out.parts
      have HQ5 := Lib.hid q5
      have u0 := kb5.cell 0 rfl
      have u1 := kb5.cell 1 rfl
      have u2 := kb5.cell 2 rfl
      have y0 := hkr.out.cell 0 rfl
      have y1 := hkr.out.cell 1 rfl
      have y2 := hkr.out.cell 2 rfl
      have f0 := hkr.out.free 0
      have f1 := hkr.out.free 1
      have f2 := hkr.out.free 2
      have hlr := hkr.out.lt
      clear kb5 q5
      go_wp2_with fail
      (try simp only [Exit.inBlock, Exit.then])
      refine bodyPost_ret (v := .agg #[.bool g5, .slice a5 m5 c5, .slice d5 l5 k5]) ?_ rfl ⟨⟨_, rfl, _, _, _, rfl, ?_⟩, ?_⟩
      · rw [results_cell rfl]
        go_simp
      · exact HQ5.out.keepT hkr.out (by decide) (but_set3 _ _ _ _ _)
      · exact ((hb.out.setCell (p := ⟨w.heap.size, 0, none⟩) (Nat.le_refl _) _).setCell (p := ⟨w.heap.size, 1, none⟩) (Nat.le_refl _) _).setCell (p := ⟨w.heap.size, 2, none⟩) (Nat.le_refl _) _
set_option maxRecDepth 100000 in
set_option maxHeartbeats 2000000 in
theorem dot_c (v : Value) (qs : List Rat) (w : World) (hv : SVal w v (txts qs)) (hf : ∀ q ∈ qs, FitQ q) (hl : qs.length ≤ 40) (hd : FitQ (sumS qs)) :
    Calls Tryd.prog 14 #[v, v] w fun e w' => e = .returned (.tuple #[.string (bs (ratT (sumS qs))), .int .i64 0]) ∧ Below w.heap.size w w' := by
  have HC := Lib.hid (fun W (hW : Below w.heap.size w W) => checkVec_ok v qs W (hv.below hW) hf hl)
  have HR := Lib.hid (fun W (hW : Below w.heap.size w W) => row_c v qs W (hv.below hW) hf (by omega))
  have HP := Lib.hid (fun va vb W (ha : QsV W va qs) (hb : QsV W vb qs) => product_c va vb qs W ha hb hf (by omega))
  have hz : sz (sumS qs) ≤ 1000000000000 := by have := hd.sz; omega
  have HF := Lib.hid (fun g vn vd W (h : QC W g vn vd (sumS qs)) => by
    have h2 := fits_c g vn vd (sumS qs) W h hz
    rw [fitE_ok.2 hd] at h2
    exact h2)
  have HO := Lib.hid (fun g vn vd W (h : QC W g vn vd (sumS qs)) => out_c g vn vd (sumS qs) W h hz)
  obtain ⟨T, hT⟩ : ∃ T, bs (ratT (sumS qs)) = T := ⟨_, rfl⟩
  rw [hT] at HO ⊢
  have HQL : Hid (qs.length ≤ 9223372036854775807) := (by omega : qs.length ≤ 9223372036854775807)
  obtain ⟨a, cap, rfl⟩ := (show Reads w v (txts qs).length ((txts qs).map Value.string) from hv).slice
  generalize sumS qs = S at *
  generalize (txts qs).length = n at *
  clear hv hf hl hd hz hT
  go_enter Tryd.func14, Tryd.ntmps14
  go_wp2_with fail
  refine (HC.out w (Below.refl _ _)).mono ?_; rintro e w2 ⟨rfl, hb⟩
  have B2 := Lib.hid hb
  have HC2 := Lib.hid (HC.out w2 hb)
  clear hb HC
  go_wp2_with fail
  refine HC2.out.mono ?_; rintro e w3 ⟨rfl, hb⟩
  have B3 := Lib.hid (belowT B2.out hb)
  have HR3 := Lib.hid (HR.out w3 B3.out)
  clear hb HC2 B2
  go_wp2_with fail
  refine HR3.out.mono ?_; rintro e w4 ⟨⟨v4, rfl, ho4⟩, hb⟩
  have B4 := Lib.hid (belowT B3.out hb)
  have V4 := Lib.hid (ho4.reads HQL.out)
  have HR4 := Lib.hid (HR.out w4 B4.out)
  clear hb HR3 B3 ho4 HR
  go_wp2_with fail
  refine HR4.out.mono ?_; rintro e w5 ⟨⟨v5, rfl, ho5⟩, hb⟩
  have B5 := Lib.hid (belowT B4.out hb)
  have HP5 := Lib.hid (HP.out v4 v5 w5 (V4.out.below hb) (ho5.reads HQL.out))
  clear hb HR4 B4 ho5 HP V4
  go_wp2_with fail
  refine HP5.out.mono ?_; rintro e w6 ⟨⟨v6, rfl, hq⟩, hb⟩
  obtain ⟨ig, ia, im, ic, ja, jl, jc, rfl, hi⟩ := hq.op
  have B6 := Lib.hid (belowA (belowT B5.out hb) (.cells #[.bool ig, .slice ia im ic, .slice ja jl jc] 65))
  have Q6 := Lib.hid (hi.below (belowA (Below.refl _ _) (.cells #[.bool ig, .slice ia im ic, .slice ja jl jc] 65)))
  have K6 := Lib.hid (Blk.new w6 #[.bool ig, .slice ia im ic, .slice ja jl jc] 65)
  clear hb HP5 B5 hi hq
  go_upto_region 10 with fail
  generalize w6.alloc (.cells #[.bool ig, .slice ia im ic, .slice ja jl jc] 65) = w7 at *
  generalize w6.heap.size = p7 at *
  have y0 := K6.out.cell 0 rfl
  have y1 := K6.out.cell 1 rfl
  have y2 := K6.out.cell 2 rfl
  have hl6 := K6.out.lt
  go_wp2_with fail
  refine (HF.out _ _ _ w7 Q6.out).mono ?_; rintro e w8 ⟨rfl, hb⟩
  have B8 := Lib.hid (belowT B6.out hb)
  have k8 := below_blk hb K6.out K6.out.lt
  have z0 := k8.cell 0 rfl
  have z1 := k8.cell 1 rfl
  have z2 := k8.cell 2 rfl
  have hl8 := k8.lt
  have HO8 := Lib.hid (HO.out _ _ _ w8 (Q6.out.below hb))
  clear hb k8 y0 y1 y2 HF HO
  go_wp2_with fail
  refine HO8.out.mono ?_; rintro e w9 ⟨rfl, hb⟩
  have B9 := Lib.hid (belowT B8.out hb)
  clear hb
  go_wp2_with fail
  go_ret2
  exact ⟨rfl, B9.out⟩
end Go.Proofs.YtkpalfgnfhphjaaDoor
