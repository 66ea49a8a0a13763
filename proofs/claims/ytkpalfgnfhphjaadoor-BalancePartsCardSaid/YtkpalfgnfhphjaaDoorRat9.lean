/- rat.Sum; sums of numbers. -/
import Derived.Test.YtkpalfgnfhphjaaDoorRat8
import Derived.Deep.RegionHeld3
namespace Go.Proofs.YtkpalfgnfhphjaaDoor
open Go.RowKit

/-- A load that go_region_held3 shall not try to take first. -/
abbrev hideLoad (t : TypeId) (o : Operand) : Op := Op.load t o
/-- The sum of a list. -/
def sumQ : List Rat → Rat
  | [] => 0
  | q :: qs => q + sumQ qs
theorem sumQ_append (l m : List Rat) : sumQ (l ++ m) = sumQ l + sumQ m := by
  induction l with
  | nil => show sumQ m = 0 + sumQ m; rw [Rat.zero_add]
  | cons q l ih => show q + sumQ (l ++ m) = q + sumQ l + sumQ m; rw [ih, Rat.add_assoc]
theorem sumQ_take {l : List Rat} {k : Nat} {q : Rat} (h : l[k]? = some q) : sumQ (l.take (k + 1)) = sumQ (l.take k) + q := by
  obtain ⟨hk, hx⟩ := List.getElem?_eq_some_iff.1 h
  rw [List.take_succ_eq_append_getElem hk, hx, sumQ_append]
  show _ + (q + 0) = _
  rw [Rat.add_zero]
theorem txts_get {l : List Rat} {k : Nat} {q : Rat} (h : l[k]? = some q) : ((txts l).map Value.string)[k]? = some (.string (bs (ratT q))) := by
  simp [txts, h]
set_option maxRecDepth 100000 in
set_option maxHeartbeats 4000000 in
theorem ratSum_c (v : Value) (qs : List Rat) (w : World) (hv : SVal w v (txts qs)) (hf : ∀ q ∈ qs, FitQ q) (hl : qs.length ≤ 256) (hp : ∀ k, k ≤ qs.length → FitQ (sumQ (qs.take k))) :
    Calls Tryd.prog 13 #[v] w fun e w' => e = .returned (.tuple #[.string (bs (ratT (sumQ qs))), .int .i64 0]) ∧ Below w.heap.size w w' := by
  have hlen : (txts qs).length = qs.length := by simp [txts]
  obtain ⟨a, cap, rfl⟩ := (show Reads w v (txts qs).length ((txts qs).map Value.string) from hv).slice
  have hck := checkAll_c _ (txts qs) w hv (fun s hs => by
    obtain ⟨q, hq, rfl⟩ := List.mem_map.1 hs
    have := rtxt_size (hf q hq)
    omega)
  rw [allE_of hf] at hck
  rw [hlen] at hv hck ⊢
  have HCK := Lib.hid hck
  obtain ⟨n, hN⟩ : ∃ n, qs.length = n := ⟨_, rfl⟩
  have HN := Lib.hid hN
  have HV : Hid (Reads w (.slice a n cap) n ((txts qs).map Value.string)) := by
    show Reads _ _ _ _
    have h : Reads w (.slice a qs.length cap) (txts qs).length ((txts qs).map Value.string) := hv
    rw [hlen, hN] at h; exact h
  have HFQ := Lib.hid hf
  have HPQ := Lib.hid hp
  have HIN := Lib.hid (fun (q : Rat) (h : FitQ q) W => rin_c q W h)
  have HADD := Lib.hid (fun np nq vp dp vq dq (p q : Rat) W (h1 : FitQ p) (h2 : FitQ q) (hc : QC W np vp dp p) (hd : QC W nq vq dq q) => radd_c np nq vp dp vq dq p q W hc hd (by have := h1.sz; omega) (by have := h2.sz; omega))
  have HFI := Lib.hid (fun g vn vd (q : Rat) W (h1 : FitQ q) (h : QC W g vn vd q) => by
    have h2 := fits_c g vn vd q W h (by have := h1.sz; omega)
    rw [fitE_ok.2 h1] at h2
    exact h2)
  have HTO := Lib.hid (fun g vn vd (q : Rat) W (h1 : FitQ q) (h : QC W g vn vd q) => by
    have h2 := told_c g vn vd q W h (by have := h1.sz; omega)
    rw [show toldE q = (bs (ratT q), 0) from if_pos h1] at h2
    exact h2)
  have g1 : decide (256 < (n : Int)) = false := decide_eq_false (by omega)
  have hn256 : n ≤ 256 := by omega
  rw [hN] at HCK ⊢
  clear hv hck hf hp hl hN hlen
  go_enter Tryd.func13, Tryd.ntmps13
  go_wp2_with fail
  refine HCK.out.mono ?_; rintro e w2 ⟨rfl, hb⟩
  have B2 := Lib.hid hb
  clear hb HCK
  have Q0 := Lib.hid (QM.new (QC.zero w2))
  have B3 := Lib.hid (belowA B2.out (.cells #[.bool false, .slice none 0 0, .slice none 0 0] 65))
  go_upto_region 7 with fail
  generalize w2.alloc (.cells #[.bool false, .slice none 0 0, .slice none 0 0] 65) = w3 at *
  have hge : w.heap.size ≤ w2.heap.size := B2.out.size
  clear B2
  generalize w2.heap.size = ab at *
  go_wp2_with fail
  go_loopw [18] (fun i wr => ∃ k : Nat, k ≤ n ∧ i = .int .i64 k ∧ Hid (QM wr ab (sumQ (qs.take k))) ∧ Hid (Below w.heap.size w wr)) (fun i _ => n - (intOf i).toNat)
  case atStart => exact ⟨0, Nat.zero_le _, rfl, Q0.out, B3.out⟩
  case round =>
    clear Q0 B3
    obtain ⟨k, hk, rfl, hq, hb⟩ := hrel
    obtain ⟨ng, na, m, nc, da, dl, dc, hqc, hbk⟩ := hq.out.parts
    by_cases hlt : k < n
    · obtain ⟨b, off, cap', hvv, _, _, hbl, hc⟩ := (HV.out.below hb.out).addr (by omega)
      simp only [Value.slice.injEq] at hvv
      obtain ⟨rfl, _, rfl⟩ := hvv
      obtain ⟨x, hx⟩ : ∃ x, qs[k]? = some x := ⟨_, List.getElem?_eq_getElem (by rw [HN.out]; exact hlt)⟩
      have x0 : wr.cell? ⟨b, off + k, none⟩ = some (.string (bs (ratT x))) := hc k _ (txts_get hx)
      have hfx := HFQ.out x (List.mem_of_getElem? hx)
      have hfk := HPQ.out k (by rw [HN.out]; omega)
      have hfs := HPQ.out (k + 1) (by rw [HN.out]; omega)
      rw [sumQ_take hx] at hfs
      have HIX := Lib.hid (HIN.out x hfx)
      have HAX := Lib.hid (fun np nq vp dp vq dq W hc hd => HADD.out np nq vp dp vq dq (sumQ (qs.take k)) x W hfk hfx hc hd)
      have HFX := Lib.hid (fun g vn vd W => HFI.out g vn vd (sumQ (qs.take k) + x) W hfs)
      have HST : Hid (sumQ (qs.take (k + 1)) = sumQ (qs.take k) + x) := sumQ_take hx
      generalize bs (ratT x) = T at *
      generalize sumQ (qs.take k) = S at *
      have E0 := Lib.hid (below_drew0 wr.heap.size wr)
      have HBK := Lib.hid hbk
      have HQC := Lib.hid hqc
      have y0 := hbk.cell 0 rfl
      have y1 := hbk.cell 1 rfl
      have y2 := hbk.cell 2 rfl
      have hab := hbk.lt
      clear hc hx hfx hfk hfs hq hbk hqc HIN HADD HFI
      go_upto_region 10 with fail
      rw [show Op.load 65 (.tmp 5) = hideLoad 65 (.tmp 5) from rfl]
      go_region_held3 (fun _ => True)
        (exact trivial)
        (first
          | (go_at_call 32; ((with_reducible refine (HIX.out _).mono ?_); rintro e w4 ⟨⟨v4, rfl, ig, iv, id, rfl, hqi⟩, hb4⟩; have B4 := Lib.hid (belowT E0.out hb4); have HQI := Lib.hid hqi; have k4 := below_blk B4.out HBK.out HBK.out.lt; have HK4 := Lib.hid k4; have z0 := k4.cell 0 rfl; have z1 := k4.cell 1 rfl; have z2 := k4.cell 2 rfl; have hl4 := k4.lt; clear hb4 hqi k4))
          | (go_at_call 24; ((with_reducible refine (HAX.out _ _ _ _ _ _ w4 (HQC.out.below B4.out) HQI.out).mono ?_); rintro e w5 ⟨⟨v5, rfl, rg, rn, rd, rfl, hqr⟩, hb5⟩; obtain ⟨ra, rc, rda, rdl, rdc, rfl, rfl, _⟩ := hqr.parts; obtain ⟨rl, hrl⟩ : ∃ r, ln (S + x).num.natAbs = r := ⟨_, rfl⟩; rw [hrl] at hqr ⊢; have B5 := Lib.hid (belowT B4.out hb5); have HQR := Lib.hid hqr; have k5 := below_blk B5.out HBK.out HBK.out.lt; have HK5 := Lib.hid k5; have u0 := k5.cell 0 rfl; have u1 := k5.cell 1 rfl; have u2 := k5.cell 2 rfl; have r0 := k5.free 0; have r1 := k5.free 1; have r2 := k5.free 2; have hl5 := k5.lt; clear hb5 hqr k5 hrl)))
      all_goals
        go_upto_region 11 with fail
        have HQ6 : Hid (QM (((w5.setCell ⟨ab, 0, none⟩ (.bool rg)).setCell ⟨ab, 1, none⟩ (.slice ra rl rc)).setCell ⟨ab, 2, none⟩ (.slice rda rdl rdc)) ab (S + x)) := QM.put HK5.out HQR.out
        have B6 : Hid (Below w.heap.size w (((w5.setCell ⟨ab, 0, none⟩ (.bool rg)).setCell ⟨ab, 1, none⟩ (.slice ra rl rc)).setCell ⟨ab, 2, none⟩ (.slice rda rdl rdc))) := (((hb.out.trans (B5.out.mono hb.out.size)).setCell (p := ⟨ab, 0, none⟩) hge _).setCell (p := ⟨ab, 1, none⟩) hge _).setCell (p := ⟨ab, 2, none⟩) hge _
        generalize ((w5.setCell ⟨ab, 0, none⟩ (.bool rg)).setCell ⟨ab, 1, none⟩ (.slice ra rl rc)).setCell ⟨ab, 2, none⟩ (.slice rda rdl rdc) = w6 at *
        clear y0 y1 y2 z0 z1 z2 u0 u1 u2 r0 r1 r2 HQR HK5 HK4 B5 B4 HQI HQC HBK hb HIX HAX E0 x0
        obtain ⟨ng6, na6, m6, nc6, da6, dl6, dc6, hq6, hb6⟩ := HQ6.out.parts
        have x0 := hb6.cell 0 rfl
        have x1 := hb6.cell 1 rfl
        have x2 := hb6.cell 2 rfl
        have HF6 := Lib.hid (HFX.out _ _ _ _ hq6)
        clear hb6 hq6 HFX
        go_wp2_with fail
        refine HF6.out.mono ?_; rintro e w7 ⟨rfl, hb7⟩
        have HQ7 := Lib.hid (HQ6.out.below hb7)
        have B7 := Lib.hid (belowT B6.out hb7)
        clear hb7 HQ6 B6 HF6 x0 x1 x2
        go_wp2_with fail
        go_roundw
        case rel => exact ⟨k + 1, hlt, by go_num, by rw [HST.out]; exact HQ7.out, B7.out⟩
        case measure => simp [intOf]; omega
    · obtain rfl : k = n := by omega
      have hfk := HPQ.out k (by rw [HN.out]; omega)
      have HST : Hid (sumQ (qs.take k) = sumQ qs) := by show _ = _; rw [List.take_of_length_le (by rw [HN.out]; omega)]
      rw [HST.out] at hqc hfk
      have HT6 := Lib.hid (HTO.out _ _ _ _ wr hfk hqc)
      have y0 := hbk.cell 0 rfl
      have y1 := hbk.cell 1 rfl
      have y2 := hbk.cell 2 rfl
      obtain ⟨T, hT⟩ : ∃ T, bs (ratT (sumQ qs)) = T := ⟨_, rfl⟩
      have HTT := Lib.hid hT
      rw [hT] at HT6
      clear hT hq hqc hfk hbk HTO HFI HADD HIN
      go_wp2_with fail
      refine HT6.out.mono ?_; rintro e w7 ⟨rfl, hb7⟩
      have B7 := Lib.hid (belowT hb.out hb7)
      clear hb7
      go_wp2_with fail
      go_ret2
      exact ⟨by rw [HTT.out]; rfl, B7.out⟩
end Go.Proofs.YtkpalfgnfhphjaaDoor
