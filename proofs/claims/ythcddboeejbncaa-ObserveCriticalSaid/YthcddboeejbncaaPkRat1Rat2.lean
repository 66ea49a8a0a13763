/- Rational numbers in memory: whole, low, Int. rat: Int, Sign, Neg. -/
import Derived.Test.YthcddboeejbncaaPzRatP
import Derived.Test.YthcddboeejbncaaPzNat10
import Derived.Laws.ResultCell
namespace Go.Proofs.Ythcddboeejbncaa
open Go.RowKit

/-- A rational number that may be read: its three cells. -/
def QC (w : World) (ng : Bool) (vn vd : Value) (q : Rat) : Prop :=
  ng = decide (q.num < 0) ∧ NV w vn q.num.natAbs ∧ (NV w vd q.den ∨ (q = 0 ∧ NV w vd 0))
def QV (w : World) (v : Value) (q : Rat) : Prop := ∃ ng vn vd, v = .agg #[.bool ng, vn, vd] ∧ QC w ng vn vd q
theorem QC.below {w w' : World} {ng : Bool} {vn vd : Value} {q : Rat} (h : QC w ng vn vd q) (k : Below w.heap.size w w') : QC w' ng vn vd q :=
  ⟨h.1, h.2.1.below k, h.2.2.imp (fun x => x.below k) (fun x => ⟨x.1, x.2.below k⟩)⟩
theorem QV.below {w w' : World} {v : Value} {q : Rat} (h : QV w v q) (k : Below w.heap.size w w') : QV w' v q := by
  obtain ⟨ng, vn, vd, e, h⟩ := h
  exact ⟨ng, vn, vd, e, h.below k⟩
theorem QC.zero (w : World) : QC w false (.slice none 0 0) (.slice none 0 0) 0 := ⟨rfl, NV.zero w, Or.inr ⟨rfl, NV.zero w⟩⟩
theorem QC.parts {w : World} {ng : Bool} {vn vd : Value} {q : Rat} (h : QC w ng vn vd q) : ∃ na nc da dl dc, vn = .slice na (ln q.num.natAbs) nc ∧ vd = .slice da dl dc ∧ ((dl = ln q.den ∧ NV w vd q.den) ∨ (dl = 0 ∧ q = 0 ∧ NV w vd 0)) := by
  obtain ⟨na, nc, rfl⟩ := h.2.1.slice
  rcases h.2.2 with h1 | ⟨h1, h2⟩
  · obtain ⟨da, dc, rfl⟩ := h1.slice
    exact ⟨na, nc, da, _, dc, rfl, rfl, Or.inl ⟨rfl, h1⟩⟩
  · obtain ⟨da, dc, rfl⟩ := h2.slice
    exact ⟨na, nc, da, _, dc, rfl, rfl, Or.inr ⟨ln_zero, h1, h2⟩⟩
theorem num_zero {q : Rat} : q.num.natAbs = 0 ↔ q = 0 := by rw [Int.natAbs_eq_zero, Rat.num_eq_zero]
set_option maxHeartbeats 1000000 in
theorem whole_c (ng : Bool) (vn vd : Value) (q : Rat) (w : World) (h : QC w ng vn vd q) :
    Calls Try.prog 91 #[.agg #[.bool ng, vn, vd]] w fun e w' => (∃ v, e = .returned v ∧ NV w' v q.den) ∧ Below w.heap.size w w' := by
  obtain ⟨na, nc, da, dl, dc, rfl, rfl, hd⟩ := h.parts
  have hb := belowA (Below.refl w.heap.size w) (.cells #[.bool ng, .slice na (ln q.num.natAbs) nc, .slice da dl dc] 80)
  rcases hd with ⟨hd, hv⟩ | ⟨rfl, h0, hv⟩
  · have hp := ln_pos (den_pos q)
    rw [← hd] at hp
    have q1 : ((dl : Int) == 0) = false := by rw [beq_eq_false_iff_ne]; omega
    have HV := Lib.hid (hv.below hb)
    have HB := Lib.hid hb
    clear hd hv hb h
    go_enter Try.func91, Try.ntmps91
    go_wp2_with fail
    go_ret
    exact ⟨⟨_, rfl, HV.out⟩, HB.out⟩
  · have HQ : Hid (q.den = 1) := by show _ = _; rw [h0]; rfl
    have HOF := Lib.hid (fun W => nof_c 1 W (by omega))
    have HB := Lib.hid hb
    clear h0 hv hb h
    go_enter Try.func91, Try.ntmps91
    go_wp2_with fail
    refine (HOF.out _).mono ?_; rintro e w2 ⟨⟨v, rfl, hn⟩, hb2⟩
    have HV := Lib.hid hn.nv
    have HB2 := Lib.hid (belowT HB.out hb2)
    clear hn hb2
    go_wp2_with fail
    go_ret
    exact ⟨⟨_, rfl, by rw [HQ.out]; exact HV.out⟩, HB2.out⟩
/-- Cells that are no digits. -/
def NoDig (cs : Array Value) : Prop := ∀ (i : Nat) (z : Int), cs[i]? ≠ some (.int .u32 z)
theorem NV.keep {W W' : World} {v : Value} {n b : Nat} {cs : Array Value} {T : TypeId} (h : NV W v n) (k : Blk W b cs T) (hc : NoDig cs) (hb : But b W W') : NV W' v n := by
  refine ⟨?_, fun g off len cap e hl => ?_⟩
  rotate_left
  · obtain ⟨cur, hcu⟩ := h.2 g off len cap e hl
    refine ⟨cur, hb.blk hcu (fun e' => ?_)⟩
    subst e'
    obtain ⟨a, c, hs⟩ := h.slice
    rw [e] at hs
    injection hs with hs1 hs2
    obtain ⟨g1, o1, c1, q1, _, q2⟩ := h.at rfl (j := 0) (by omega)
    rw [e] at q1
    injection q1 with q3
    injection q3 with q3
    injection q3 with q3 q4
    subst q3; subst q4
    have hk := k
    unfold Blk at hk
    simp only [World.cell?, hk] at q2
    exact hc _ _ q2
  rcases h.1 with h1 | ⟨g, off, cap, e1, e2, e3, e4, e5⟩
  · exact Or.inl h1
  · rcases Nat.eq_zero_or_pos (ln n) with hz | hz
    · rw [hz] at e1
      exact Or.inl ⟨hz, List.eq_nil_of_length_eq_zero (by rw [u32s_len]; exact hz), _, _, e1⟩
    · refine Or.inr ⟨g, off, cap, e1, e2, e3, Nat.lt_of_lt_of_le e4 hb.size, fun j u hj => ?_⟩
      have hgb : g ≠ b := by
        rintro rfl
        have h0 := e5 0 _ (u32s_get hz)
        have hk := k
        unfold Blk at hk
        simp only [World.cell?, hk] at h0
        exact hc _ _ h0
      rw [World.cell?_of_block (w := W) (hb.block g e4 (fun e => hgb (by cases e; rfl)))]
      exact e5 j u hj
/-- A change in a block of another type. -/
theorem NV.keepT {W W' : World} {v : Value} {n b : Nat} {cs : Array Value} {T : TypeId} (h : NV W v n) (k : Blk W b cs T) (hT : T ≠ 123) (hb : But b W W') : NV W' v n := by
  have hne : ∀ g off len cap, v = .slice (some ⟨g, off, none⟩) len cap → 0 < len → g ≠ b := by
    intro g off len cap e hl e'
    obtain ⟨cur, hc⟩ := h.2 g off len cap e hl
    subst e'
    unfold Blk at hc k
    rw [hc] at k
    injection k with k1
    injection k1 with _ k2
    exact hT k2.symm
  refine ⟨?_, fun g off len cap e hl => ?_⟩
  · rcases h.1 with h1 | ⟨g, off, cap, e1, e2, e3, e4, e5⟩
    · exact Or.inl h1
    · rcases Nat.eq_zero_or_pos (ln n) with hz | hz
      · rw [hz] at e1
        exact Or.inl ⟨hz, List.eq_nil_of_length_eq_zero (by rw [u32s_len]; exact hz), _, _, e1⟩
      · refine Or.inr ⟨g, off, cap, e1, e2, e3, Nat.lt_of_lt_of_le e4 hb.size, fun j u hj => ?_⟩
        have hgb := hne g off _ cap e1 hz
        rw [World.cell?_of_block (w := W) (hb.block g e4 (fun e => hgb (by cases e; rfl)))]
        exact e5 j u hj
  · obtain ⟨cur, hc⟩ := h.2 g off len cap e hl
    exact ⟨cur, hb.blk hc (hne g off len cap e hl)⟩
theorem noDig_q (a : Bool) (b : Option Addr) (c d : Nat) (e : Option Addr) (f g : Nat) : NoDig #[.bool a, .slice b c d, .slice e f g] := by
  intro i z
  rcases i with _ | _ | _ | i <;> simp
theorem results_cell {fn : Func} {p : Tmp} {ty : TypeId} (h : fn.results = #[.cell p ty]) (tmps : Array Value) (P : Program) (w : World) :
    (results fn tmps).run P w = ((asAddr (tmps.getD p undef)).run P w).andThen fun a w₁ => (loadVar ty a).run P w₁ := by
  simp [results, h, Sem.run_bind, Result.andThen]
set_option maxHeartbeats 1000000 in
theorem low_c (ng : Bool) (vx vd : Value) (x d : Nat) (w : World) (hx : NV w vx x) (hd : NV w vd d) (sx : ln x ≤ 10000000000000) (sd : ln d ≤ 10000000000000) (hd0 : 0 < d) :
    Calls Try.prog 89 #[.bool ng, vx, vd] w fun e w' => (∃ v, e = .returned v ∧ QV w' v (mkRat (sg ng x) d)) ∧ Below w.heap.size w w' := by
  obtain ⟨xa, xc, rfl⟩ := hx.slice
  obtain ⟨da, dc, rfl⟩ := hd.slice
  have K0 := Blk.new w #[.bool false, .slice none 0 0, .slice none 0 0] 80
  have B0 := belowA (Below.refl w.heap.size w) (.cells #[.bool false, .slice none 0 0, .slice none 0 0] 80)
  have hs0 : (w.alloc (.cells #[.bool false, .slice none 0 0, .slice none 0 0] 80)).heap.size = w.heap.size + 1 := by rw [World.size_alloc]
  rcases Nat.eq_zero_or_pos x with h0 | h0
  · subst h0
    have q1 : ((ln 0 : Int) == 0) = true := by rw [ln_zero]; rfl
    have hl := ln_zero
    have HB := Lib.hid B0
    clear K0 B0 hs0 hx hd
    go_enter Try.func89, Try.ntmps89
    go_wp2_with fail
    refine bodyPost_ret (v := .agg #[.bool false, .slice none 0 0, .slice none 0 0]) ?_ rfl ⟨⟨_, rfl, _, _, _, rfl, ?_⟩, HB.out⟩
    · rw [results_cell rfl]
      go_simp
    · rw [sg_zero, Rat.zero_mkRat]; exact QC.zero _
  · have hlx := ln_pos h0
    have q1 : ((ln x : Int) == 0) = false := by rw [beq_eq_false_iff_ne]; omega
    have HG := Lib.hid (ngcd_c _ _ x d _ (hx.below B0) (hd.below B0) sx sd)
    obtain ⟨hp1, hp2, hp3⟩ := low_parts ng x d hd0 h0
    have hg0 : 0 < Nat.gcd x d := Nat.gcd_pos_of_pos_left _ h0
    have hgl : ln (Nat.gcd x d) ≤ 10000000000000 := Nat.le_trans (ln_mono (Nat.gcd_le_left d h0)) sx
    obtain ⟨g, hg⟩ : ∃ g, Nat.gcd x d = g := ⟨_, rfl⟩
    rw [hg] at HG hp1 hp2 hg0 hgl
    obtain ⟨Q, hQ⟩ : ∃ q, mkRat (sg ng x) d = q := ⟨_, rfl⟩
    rw [hQ] at hp1 hp2 hp3 ⊢
    obtain ⟨n, hn⟩ : ∃ n, ln x = n := ⟨_, rfl⟩
    obtain ⟨m, hm⟩ : ∃ n, ln d = n := ⟨_, rfl⟩
    have HX0 := Lib.hid hx
    have HD0 := Lib.hid hd
    have HMM := Lib.hid hm
    rw [hn] at q1 hlx HG ⊢
    rw [hm] at HG ⊢
    have HP1 := Lib.hid hp1
    have HP2 := Lib.hid hp2
    have HP3 := Lib.hid hp3
    have HB0 := Lib.hid B0
    have HK0 := Lib.hid K0
    have HSN : Hid (ln x ≤ 10000000000000) := sx
    have HSM : Hid (ln d ≤ 10000000000000) := sd
    have HNN := Lib.hid hn
    have HOF := Lib.hid (fun W => nof_c 1 W (by omega))
    clear hx hd K0 B0 hp1 hp2 hp3 hg hQ hn hm sx sd h0 hs0
    go_enter Try.func89, Try.ntmps89
    go_wp2_with fail
    generalize w.alloc (.cells #[.bool false, .slice none 0 0, .slice none 0 0] 80) = w1 at *
    refine HG.out.mono ?_; rintro e w2 ⟨⟨vg, rfl, hng⟩, hb2⟩
    obtain ⟨ga, gc, rfl⟩ := hng.slice
    have HN2 := Lib.hid hng
    have HB2 := Lib.hid hb2
    clear hng hb2 HG
    go_wp2_with fail
    refine (HOF.out w2).mono ?_; rintro e w3 ⟨⟨v1, rfl, hn1⟩, hb3⟩
    have HB3 := Lib.hid (belowT HB2.out hb3)
    have HN3 := Lib.hid (HN2.out.below hb3)
    have HC := Lib.hid (ncmp_c _ _ g 1 w3 HN3.out hn1.nv)
    clear hn1 hb3
    go_wp2_with fail
    refine HC.out.mono ?_; rintro e w4 ⟨rfl, hb4⟩
    have HB4 := Lib.hid (belowT HB3.out hb4)
    have HN4 := Lib.hid (HN3.out.below hb4)
    clear hb4 HC HN2 HN3 HB2 HB3
    by_cases hg1 : g = 1
    · have hcm : cmpN g 1 = 0 := by rw [hg1]; rfl
      have q2 : decide (0 < cmpN g 1) = false := by rw [hcm]; rfl
      have HG1 := Lib.hid hg1
      clear hcm hg1
      have hbs := below_blk HB4.out HK0.out HK0.out.lt
      have y0 := hbs.cell 0 rfl
      have y1 := hbs.cell 1 rfl
      have y2 := hbs.cell 2 rfl
      have f0 := hbs.free 0
      have f1 := hbs.free 1
      have f2 := hbs.free 2
      have hzr := hbs.lt
      have HB5 : Hid (Below w.heap.size w (((w4.setCell ⟨w.heap.size, 0, none⟩ (.bool ng)).setCell ⟨w.heap.size, 1, none⟩ (.slice xa n xc)).setCell ⟨w.heap.size, 2, none⟩ (.slice da m dc))) := (((HB0.out.trans (HB4.out.mono HB0.out.size)).setCell (Nat.le_refl _) _).setCell (Nat.le_refl _) _).setCell (Nat.le_refl _) _
      clear hbs
      go_wp2_with fail
      (try simp only [Exit.inBlock, Exit.then])
      refine bodyPost_ret (v := .agg #[.bool ng, .slice xa n xc, .slice da m dc]) ?_ rfl ⟨⟨_, rfl, _, _, _, rfl, HP3.out.symm, ?_, Or.inl ?_⟩, ?_⟩
      · rw [results_cell rfl]
        go_simp
      · rw [HP1.out, HG1.out, Nat.div_one]
        have h := HX0.out.below HB5.out
        rwa [HNN.out] at h
      · rw [HP2.out, HG1.out, Nat.div_one]
        have h := HD0.out.below HB5.out
        rwa [HMM.out] at h
      · exact HB5.out
    · have hcm : cmpN g 1 = 1 := by unfold cmpN; rw [if_neg (by omega), if_pos (by omega)]
      have q2 : decide (0 < cmpN g 1) = true := by rw [hcm]; rfl
      have hbx : Below w.heap.size w w4 := HB0.out.trans (HB4.out.mono HB0.out.size)
      have HD1 := Lib.hid (ndiv_c (.slice xa n xc) _ x g w4 (by have h := HX0.out.below hbx; rwa [HNN.out] at h) HN4.out HSN.out hg0)
      clear hcm hg1
      go_wp2_with fail
      refine HD1.out.mono ?_; rintro e w5 ⟨⟨v5, v6, rfl, hn5, hn6⟩, hb5⟩
      obtain ⟨a5, c5, rfl⟩ := hn5.slice
      have HQ5 := Lib.hid hn5
      have HB5 := Lib.hid (belowT HB4.out hb5)
      have hbx5 : Below w.heap.size w w5 := HB0.out.trans (HB5.out.mono HB0.out.size)
      have HD2 := Lib.hid (ndiv_c (.slice da m dc) _ d g w5 (by have h := HD0.out.below hbx5; rwa [HMM.out] at h) (HN4.out.below hb5) HSM.out hg0)
      clear hn5 hn6 hb5 HD1
      go_wp2_with fail
      refine HD2.out.mono ?_; rintro e w6 ⟨⟨v7, v8, rfl, hn7, hn8⟩, hb6⟩
      obtain ⟨a7, c7, rfl⟩ := hn7.slice
      have HQ6 := Lib.hid (HQ5.out.below hb6)
      have HQ7 := Lib.hid hn7
      have HB6 := Lib.hid (belowT HB5.out hb6)
      clear hn7 hn8 hb6 HD2
      have hbs := below_blk HB6.out HK0.out HK0.out.lt
      have HBS := Lib.hid hbs
      have y0 := hbs.cell 0 rfl
      have y1 := hbs.cell 1 rfl
      have y2 := hbs.cell 2 rfl
      have f0 := hbs.free 0
      have f1 := hbs.free 1
      have f2 := hbs.free 2
      have hzr := hbs.lt
      have HBU : Hid (But w.heap.size w6 (((w6.setCell ⟨w.heap.size, 0, none⟩ (.bool ng)).setCell ⟨w.heap.size, 1, none⟩ (.slice a5 (ln (x / g)) c5)).setCell ⟨w.heap.size, 2, none⟩ (.slice a7 (ln (d / g)) c7))) := (((But.refl _ _).set 0 _).set 1 _).set 2 _
      clear hbs
      go_wp2_with fail
      (try simp only [Exit.inBlock, Exit.then])
      refine bodyPost_ret (v := .agg #[.bool ng, .slice a5 (ln (x / g)) c5, .slice a7 (ln (d / g)) c7]) ?_ rfl ⟨⟨_, rfl, _, _, _, rfl, HP3.out.symm, ?_, Or.inl ?_⟩, ?_⟩
      · rw [results_cell rfl]
        go_simp
      · rw [HP1.out]
        exact HQ6.out.keep HBS.out (noDig_q _ _ _ _ _ _ _) HBU.out
      · rw [HP2.out]
        exact HQ7.out.keep HBS.out (noDig_q _ _ _ _ _ _ _) HBU.out
      · exact (((HB0.out.trans (HB6.out.mono HB0.out.size)).setCell (Nat.le_refl _) _).setCell (Nat.le_refl _) _).setCell (Nat.le_refl _) _
end Go.Proofs.Ythcddboeejbncaa
namespace Go.Proofs.Ythcddboeejbncaa
open Go.RowKit

def signR (q : Rat) : Int := if q = 0 then 0 else if q.num < 0 then -1 else 1
set_option maxHeartbeats 1000000 in
theorem sign_c (ng : Bool) (vn vd : Value) (q : Rat) (w : World) (h : QC w ng vn vd q) :
    Calls Try.prog 63 #[.agg #[.bool ng, vn, vd]] w fun e w' => e = .returned (.int .i64 (signR q)) ∧ Below w.heap.size w w' := by
  obtain ⟨na, nc, da, dl, dc, rfl, rfl, _⟩ := h.parts
  have HB := Lib.hid (belowA (Below.refl w.heap.size w) (.cells #[.bool ng, .slice na (ln q.num.natAbs) nc, .slice da dl dc] 80))
  have HNG := Lib.hid h.1
  obtain ⟨n, hn⟩ : ∃ n, ln q.num.natAbs = n := ⟨_, rfl⟩
  rw [hn] at HB ⊢
  by_cases h0 : q = 0
  · have hz : n = 0 := by rw [← hn, num_zero.2 h0]; exact ln_zero
    subst hz
    have HS : Hid (signR q = 0) := if_pos h0
    clear hn h h0 HNG
    go_enter Try.func63, Try.ntmps63
    go_wp2_with fail
    go_ret
    exact ⟨ret_int HS.out.symm, HB.out⟩
  · have hz : 0 < n := by rw [← hn]; exact ln_pos (Nat.pos_of_ne_zero fun h => h0 (num_zero.1 h))
    have q1 : ((n : Int) == 0) = false := by rw [beq_eq_false_iff_ne]; omega
    cases ng with
    | true =>
      have HS : Hid (signR q = -1) := by
        have : q.num < 0 := of_decide_eq_true HNG.out.symm
        show _ = _; unfold signR; rw [if_neg h0, if_pos this]
      clear hn h h0 HNG
      go_enter Try.func63, Try.ntmps63
      go_wp2_with fail
      go_ret
      exact ⟨ret_int HS.out.symm, HB.out⟩
    | false =>
      have HS : Hid (signR q = 1) := by
        have : ¬ q.num < 0 := of_decide_eq_false HNG.out.symm
        show _ = _; unfold signR; rw [if_neg h0, if_neg this]
      clear hn h h0 HNG
      go_enter Try.func63, Try.ntmps63
      go_wp2_with fail
      go_ret
      exact ⟨ret_int HS.out.symm, HB.out⟩
theorem QC.neg {w : World} {ng : Bool} {vn vd : Value} {q : Rat} (h : QC w ng vn vd q) (h0 : q ≠ 0) : QC w (!ng) vn vd (-q) := by
  obtain ⟨h1, h2, h3⟩ := h
  have hn : q.num ≠ 0 := fun h => h0 (Rat.num_eq_zero.1 h)
  refine ⟨?_, by rw [Rat.neg_num, Int.natAbs_neg]; exact h2, Or.inl ?_⟩
  · rw [h1, Rat.neg_num]
    by_cases h : q.num < 0
    · rw [decide_eq_true h, decide_eq_false (by omega)]; rfl
    · rw [decide_eq_false h, decide_eq_true (by omega)]; rfl
  · rcases h3 with h3 | ⟨h3, _⟩
    · exact h3
    · exact absurd h3 h0
set_option maxHeartbeats 1000000 in
theorem neg_c (ng : Bool) (vn vd : Value) (q : Rat) (w : World) (h : QC w ng vn vd q) :
    Calls Try.prog 92 #[.agg #[.bool ng, vn, vd]] w fun e w' => (∃ v, e = .returned v ∧ QV w' v (-q)) ∧ Below w.heap.size w w' := by
  have H := Lib.hid h
  obtain ⟨na, nc, da, dl, dc, rfl, rfl, _⟩ := h.parts
  obtain ⟨n, hn⟩ : ∃ n, ln q.num.natAbs = n := ⟨_, rfl⟩
  rw [hn] at H ⊢
  by_cases h0 : q = 0
  · have hz : n = 0 := by rw [← hn, num_zero.2 h0]; exact ln_zero
    subst hz
    have HQ0 := Lib.hid h0
    clear hn h h0
    go_enter Try.func92, Try.ntmps92
    go_wp2_with fail
    (try simp only [Exit.inBlock, Exit.then])
    refine bodyPost_ret (v := .agg #[.bool ng, .slice na 0 nc, .slice da dl dc]) ?_ rfl ⟨⟨_, rfl, _, _, _, rfl, ?_⟩, ?_⟩
    · rw [results_cell rfl]
      go_simp
    · have h1 := HQ0.out
      subst h1
      exact H.out.below (belowA (belowA (Below.refl _ _) _) _)
    · exact belowA (belowA (Below.refl _ _) _) _
  · have hz : 0 < n := by rw [← hn]; exact ln_pos (Nat.pos_of_ne_zero fun h => h0 (num_zero.1 h))
    have q1 : ((n : Int) == 0) = false := by rw [beq_eq_false_iff_ne]; omega
    have HQ0 := Lib.hid h0
    clear hn h h0
    go_enter Try.func92, Try.ntmps92
    go_wp2_with fail
    (try simp only [Exit.inBlock, Exit.then])
    refine bodyPost_ret (v := .agg #[.bool !ng, .slice na n nc, .slice da dl dc]) ?_ rfl ⟨⟨_, rfl, _, _, _, rfl, ?_⟩, ?_⟩
    · rw [results_cell rfl]
      go_simp
    · exact (H.out.neg HQ0.out).below (belowA (belowA (Below.refl _ _) _) _)
    · exact belowA (belowA (Below.refl _ _) _) _
theorem QC.ofInt {w : World} {vn vd : Value} {n : Int} (h : NV w vn n.natAbs) (k : NV w vd 1) : QC w (decide (n < 0)) vn vd (n : Rat) :=
  ⟨by rw [Rat.num_intCast], by rw [Rat.num_intCast]; exact h, Or.inl (by rw [Rat.den_intCast]; exact k)⟩
set_option maxHeartbeats 1000000 in
theorem int_c (n : Int) (w : World) (h0 : -9223372036854775807 ≤ n) (h1 : n ≤ 9223372036854775807) :
    Calls Try.prog 34 #[.int .i64 n] w fun e w' => (∃ v, e = .returned v ∧ QV w' v (n : Rat)) ∧ Below w.heap.size w w' := by
  have HOF := Lib.hid (fun m W (h : m ≤ 9223372036854775807) => nof_c m W h)
  have K0 := Lib.hid (Blk.new w #[.bool false, .slice none 0 0, .slice none 0 0] 80)
  have B0 := Lib.hid (belowA (Below.refl w.heap.size w) (.cells #[.bool false, .slice none 0 0, .slice none 0 0] 80))
  by_cases hn : n < 0
  · obtain ⟨m, hm⟩ : ∃ m : Nat, -n = m := ⟨(-n).toNat, by omega⟩
    have hmb : m ≤ 9223372036854775807 := by omega
    have q1 : decide (n < 0) = true := decide_eq_true hn
    have HM : Hid (n.natAbs = m ∧ decide (n < 0) = true) := ⟨by omega, q1⟩
    have e1 : IntKind.i64.wrap (-n) = m := by rw [hm]; exact IntWalk.i64_in _ (by omega)
    clear hn
    go_enter Try.func34, Try.ntmps34
    go_wp2_with fail
    generalize w.alloc (.cells #[.bool false, .slice none 0 0, .slice none 0 0] 80) = w1 at *
    refine (HOF.out m w1 hmb).mono ?_; rintro e w2 ⟨⟨v1, rfl, hn1⟩, hb1⟩
    obtain ⟨a1, c1, rfl⟩ := hn1.nv.slice
    have HN1 := Lib.hid hn1.nv
    have HB1 := Lib.hid hb1
    clear hn1 hb1
    go_wp2_with fail
    refine (HOF.out 1 w2 (by omega)).mono ?_; rintro e w3 ⟨⟨v2, rfl, hn2⟩, hb2⟩
    obtain ⟨a2, c2, rfl⟩ := hn2.nv.slice
    have HQ1 := Lib.hid (HN1.out.below hb2)
    have HQ2 := Lib.hid hn2.nv
    have HB2 := Lib.hid (belowT HB1.out hb2)
    clear hn2 hb2
    have hbs := below_blk HB2.out K0.out K0.out.lt
    have HBS := Lib.hid hbs
    have y0 := hbs.cell 0 rfl
    have y1 := hbs.cell 1 rfl
    have y2 := hbs.cell 2 rfl
    have f0 := hbs.free 0
    have f1 := hbs.free 1
    have f2 := hbs.free 2
    have hzr := hbs.lt
    have HBU : Hid (But w.heap.size w3 (((w3.setCell ⟨w.heap.size, 0, none⟩ (.bool true)).setCell ⟨w.heap.size, 1, none⟩ (.slice a1 (ln m) c1)).setCell ⟨w.heap.size, 2, none⟩ (.slice a2 (ln 1) c2))) := (((But.refl _ _).set 0 _).set 1 _).set 2 _
    clear hbs
    go_wp2_with fail
    (try simp only [Exit.inBlock, Exit.then])
    refine bodyPost_ret (v := .agg #[.bool true, .slice a1 (ln m) c1, .slice a2 (ln 1) c2]) ?_ rfl ⟨⟨_, rfl, _, _, _, rfl, ?_⟩, (((B0.out.trans (HB2.out.mono B0.out.size)).setCell (Nat.le_refl _) _).setCell (Nat.le_refl _) _).setCell (Nat.le_refl _) _⟩
    · rw [results_cell rfl]
      go_simp
    have hq := QC.ofInt (n := n) (by rw [HM.out.1]; exact HQ1.out.keep HBS.out (noDig_q _ _ _ _ _ _ _) HBU.out) (HQ2.out.keep HBS.out (noDig_q _ _ _ _ _ _ _) HBU.out)
    rw [HM.out.2] at hq
    exact hq
  · obtain ⟨m, rfl⟩ : ∃ m : Nat, n = m := ⟨n.toNat, by omega⟩
    have hmb : m ≤ 9223372036854775807 := by omega
    have q1 : decide ((m : Int) < 0) = false := decide_eq_false hn
    have HM : Hid ((m : Int).natAbs = m ∧ decide ((m : Int) < 0) = false) := ⟨by omega, q1⟩
    clear hn h0 h1
    go_enter Try.func34, Try.ntmps34
    go_wp2_with fail
    generalize w.alloc (.cells #[.bool false, .slice none 0 0, .slice none 0 0] 80) = w1 at *
    refine (HOF.out m w1 hmb).mono ?_; rintro e w2 ⟨⟨v1, rfl, hn1⟩, hb1⟩
    obtain ⟨a1, c1, rfl⟩ := hn1.nv.slice
    have HN1 := Lib.hid hn1.nv
    have HB1 := Lib.hid hb1
    clear hn1 hb1
    go_wp2_with fail
    refine (HOF.out 1 w2 (by omega)).mono ?_; rintro e w3 ⟨⟨v2, rfl, hn2⟩, hb2⟩
    obtain ⟨a2, c2, rfl⟩ := hn2.nv.slice
    have HQ1 := Lib.hid (HN1.out.below hb2)
    have HQ2 := Lib.hid hn2.nv
    have HB2 := Lib.hid (belowT HB1.out hb2)
    clear hn2 hb2
    have hbs := below_blk HB2.out K0.out K0.out.lt
    have HBS := Lib.hid hbs
    have y0 := hbs.cell 0 rfl
    have y1 := hbs.cell 1 rfl
    have y2 := hbs.cell 2 rfl
    have f0 := hbs.free 0
    have f1 := hbs.free 1
    have f2 := hbs.free 2
    have hzr := hbs.lt
    have HBU : Hid (But w.heap.size w3 (((w3.setCell ⟨w.heap.size, 0, none⟩ (.bool false)).setCell ⟨w.heap.size, 1, none⟩ (.slice a1 (ln m) c1)).setCell ⟨w.heap.size, 2, none⟩ (.slice a2 (ln 1) c2))) := (((But.refl _ _).set 0 _).set 1 _).set 2 _
    clear hbs
    go_wp2_with fail
    (try simp only [Exit.inBlock, Exit.then])
    refine bodyPost_ret (v := .agg #[.bool false, .slice a1 (ln m) c1, .slice a2 (ln 1) c2]) ?_ rfl ⟨⟨_, rfl, _, _, _, rfl, ?_⟩, (((B0.out.trans (HB2.out.mono B0.out.size)).setCell (Nat.le_refl _) _).setCell (Nat.le_refl _) _).setCell (Nat.le_refl _) _⟩
    · rw [results_cell rfl]
      go_simp
    have hq := QC.ofInt (n := (m : Int)) (by rw [HM.out.1]; exact HQ1.out.keep HBS.out (noDig_q _ _ _ _ _ _ _) HBU.out) (HQ2.out.keep HBS.out (noDig_q _ _ _ _ _ _ _) HBU.out)
    rw [HM.out.2] at hq
    exact hq
end Go.Proofs.Ythcddboeejbncaa
