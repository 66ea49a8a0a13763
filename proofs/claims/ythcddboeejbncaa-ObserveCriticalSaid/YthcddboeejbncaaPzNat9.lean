/- nat.Div. -/
import Derived.Test.YthcddboeejbncaaPkNat8NatE
import Derived.Deep.RegionHeld3
namespace Go.Proofs.Ythcddboeejbncaa
open Go.RowKit

theorem dg_one {Y : Nat} (h0 : 0 < Y) (h1 : Y < 1000000000) : dg Y = [(Y : Int)] := by
  rw [dg_pos h0, Nat.mod_eq_of_lt h1, Nat.div_eq_of_lt h1, dg_zero]
theorem NV.one {W : World} {g Y : Nat} (h : Blk W g #[.int .u32 (Y : Int)] 123) (h0 : 0 < Y) (h1 : Y < 1000000000) : NV W (.slice (some ⟨g, 0, none⟩) 1 1) Y := by
  have hd := dg_one h0 h1
  unfold NV ln
  rw [hd]
  refine ⟨?_, fun g' off len cap e _ => by
    injection e with e1
    injection e1 with e1
    injection e1 with e1
    subst e1
    exact ⟨_, h⟩⟩
  refine Or.inr ⟨g, 0, 1, rfl, by simp, by simp, h.lt, fun j u hj => ?_⟩
  cases j with
  | zero => simp [u32s] at hj; subst hj; simpa using h.cell 0 rfl
  | succ j => simp [u32s] at hj
theorem RO.lt {base : Nat} {W : World} {v : Value} {l : List Int} (h : RO base W v l) : ∀ j, v.ownBlock = some j → j < W.heap.size := by
  intro j hj
  obtain ⟨_, hv | ⟨g, cap, cur, rfl, _, e3, _⟩⟩ := h
  · rw [hv.1] at hj; cases hj
  · cases hj; exact (Array.getElem?_eq_some_iff.1 e3).1
theorem ln_small {Y : Nat} (h : Y < 1000000000) : ln Y ≤ 1 := ln_le (by
  have e : pw 1 = 1000000000 := by decide
  rw [e]; omega)
theorem ln_one_lt {b : Nat} (h : ln b = 1) : b < 1000000000 := by
  have := lt_ln b; rw [h] at this
  have e : pw 1 = 1000000000 := by decide
  omega
theorem RO.nv {base : Nat} {w : World} {v : Value} {l : List Int} {n : Nat} (h : RO base w v l) (e : l = dg n) : NV w v n := by subst e; exact NO.nv h
theorem ln_mul_ge (a Y : Nat) (h : 0 < Y) : ln a ≤ ln (a * Y) := ln_mono (Nat.le_mul_of_pos_right a h)
theorem val_pad (a : Nat) : val (dg a ++ [0]) = a := by rw [val_snoc, dg_val]; simp
theorem RO.succ {base : Nat} {W : World} {v : Value} {l : List Int} (h : RO base W v l) (hl : 0 < l.length) : ∃ g cap, v = .slice (some ⟨g, 0, none⟩) l.length cap ∧ base ≤ g := by
  obtain ⟨_, hv | ⟨g, cap, cur, rfl, h2, _⟩⟩ := h
  · have := hv.2; omega
  · exact ⟨g, cap, rfl, h2⟩
theorem RO.but {base b : Nat} {w w' : World} {v : Value} {l : List Int} (h : RO base w v l) (k : But b w w') (hs : ∀ j, v.ownBlock = some j → j ≠ b) : RO base w' v l := by
  obtain ⟨h1, h2⟩ := h
  refine ⟨h1, h2.imp id ?_⟩
  rintro ⟨g, cap, cur, rfl, e2, e3, e4⟩
  exact ⟨g, cap, cur, rfl, e2, k.blk (show Blk w g cur _ from e3) (hs g rfl), e4⟩
theorem drewN_two (w : World) (a b : Nat) : (w.drewN a).drewN b = w.drewN (a + b) := by unfold World.drewN; simp [Nat.add_assoc]
theorem pred_mul (a b : Int) : (a - 1) * b = a * b - b := by rw [Int.sub_mul, Int.one_mul]
set_option maxRecDepth 100000 in
set_option maxHeartbeats 8000000 in
theorem ndiv_c (va vb : Value) (a b : Nat) (w : World) (ha : NV w va a) (hb : NV w vb b) (sa : ln a ≤ 10000000000000) (hb0 : 0 < b) :
    Calls Try.prog 86 #[va, vb] w fun e w' => (∃ v1 v2, e = .returned (.tuple #[v1, v2]) ∧ NV w' v1 (a / b) ∧ NV w' v2 (a % b)) ∧ Below w.heap.size w w' := by
  have HC := Lib.hid (ncmp_c va vb a b w ha hb)
  obtain ⟨aa, ca, rfl⟩ := ha.slice
  obtain ⟨ab, cb, rfl⟩ := hb.slice
  have HA := Lib.hid ha
  have HB := Lib.hid hb
  by_cases hab : a < b
  · have hcmp : cmpN a b = -1 := if_pos hab
    rw [hcmp] at HC
    clear ha hb hcmp
    go_enter Try.func86, Try.ntmps86
    go_wp2_with fail
    refine HC.out.mono ?_; rintro e w1 ⟨rfl, hb1⟩
    have HB1 := Lib.hid hb1
    clear hb1
    go_wp2_with fail
    go_ret2
    refine ⟨⟨_, _, rfl, ?_, ?_⟩, HB1.out⟩
    · rw [Nat.div_eq_of_lt hab]; exact NV.zero _
    · rw [Nat.mod_eq_of_lt hab]; exact HA.out.below HB1.out
  · have hcm : ¬ cmpN a b < 0 := by unfold cmpN; rw [if_neg hab]; split <;> decide
    obtain ⟨cm, hcmE⟩ : ∃ c, cmpN a b = c := ⟨_, rfl⟩
    rw [hcmE] at HC hcm
    have q0 : decide (cm < 0) = false := decide_eq_false hcm
    clear ha hb hcmE hcm
    have hlb := ln_pos hb0
    have hmn := ln_mono (show b ≤ a by omega)
    obtain ⟨n, hn⟩ : ∃ n, ln a = n := ⟨_, rfl⟩
    obtain ⟨m, hm⟩ : ∃ m, ln b = m := ⟨_, rfl⟩
    have HN := Lib.hid hn
    have HM := Lib.hid hm
    have HAB := Lib.hid hab
    rw [hn] at sa HA HC hmn ⊢
    rw [hm] at HB HC hmn hlb ⊢
    clear hn hm hab
    by_cases h1 : m = 1
    · have hbl : b < 1000000000 := ln_one_lt (HM.out.trans h1)
      obtain ⟨g2, o2, c2, e2, _, x2⟩ := HB.out.at HM.out (j := 0) (by omega)
      cases e2
      rw [dg_one hb0 hbl] at x2
      have x3 : w.cell? ⟨g2, o2, none⟩ = some (.int .u32 (b : Int)) := x2
      have HSH := Lib.hid (fun W (hW : Below w.heap.size w W) => nshort_c _ a b W (HA.out.below hW) (by rw [HN.out]; omega) hb0 hbl)
      subst h1
      clear x2 hbl
      go_enter Try.func86, Try.ntmps86
      go_wp2_with fail
      refine HC.out.mono ?_; rintro e w1 ⟨rfl, hb1⟩
      have HB1 := Lib.hid hb1
      have x4 : w1.cell? ⟨g2, o2, none⟩ = some (.int .u32 (b : Int)) := by
        obtain ⟨g3, o3, c3, e3, _, x5⟩ := (HB.out.below hb1).at HM.out (j := 0) (by omega)
        cases e3
        rw [dg_one hb0 (ln_one_lt HM.out)] at x5
        exact x5
      clear hb1 x3
      go_wp2_with fail
      refine (HSH.out w1 HB1.out).mono ?_; rintro e w2 ⟨⟨v1, v2, rfl, hn1, hn2⟩, hb2⟩
      have HN1 := Lib.hid hn1
      have HN2 := Lib.hid hn2
      have HB2 := Lib.hid (belowT HB1.out hb2)
      clear hn1 hn2 hb2
      go_wp2_with fail
      go_ret2
      exact ⟨⟨_, _, rfl, HN1.out.nv, HN2.out.nv⟩, HB2.out⟩
    · have q1 : ((m : Int) == 1) = false := by rw [beq_eq_false_iff_ne]; omega
      go_enter Try.func86, Try.ntmps86
      go_wp2_with fail
      refine HC.out.mono ?_; rintro e w1 ⟨rfl, hb1⟩
      have HB1 := Lib.hid hb1
      obtain ⟨x, hx⟩ : ∃ x, (dg b).getD (m - 1) 0 = x := ⟨_, rfl⟩
      have hxr := (dg_ok b).getD (m - 1)
      have hx0 : x ≠ 0 := by rw [← hx, ← HM.out]; exact dg_last hb0
      rw [hx] at hxr
      obtain ⟨g2, o2, c2, e2, _, x2⟩ := (HB.out.below hb1).at HM.out (j := m - 1) (by omega)
      cases e2
      rw [hx] at x2
      have e3 : ((m : Int) - 1).toNat = m - 1 := by omega
      have e4 : decide ((m : Int) - 1 < 0) = false := decide_eq_false (by omega)
      have e5 : decide ((m : Int) ≤ (m : Int) - 1) = false := decide_eq_false (by omega)
      obtain ⟨Y, hY⟩ : ∃ Y : Nat, (1000000000 : Int) / (x + 1) = Y := ⟨((1000000000 : Int) / (x + 1)).toNat, (Int.toNat_of_nonneg (Int.ediv_nonneg (by omega) (by omega))).symm⟩
      have hY0 : 0 < Y := by
        have : 1 ≤ (1000000000 : Int) / (x + 1) := (Int.le_ediv_iff_mul_le (by omega)).2 (by omega)
        omega
      have hY1 : Y < 1000000000 := by
        have : (1000000000 : Int) / (x + 1) < 1000000000 := Int.ediv_lt_of_lt_mul (by omega) (by omega)
        omega
      have e6 : x + 1 ≠ 0 := by omega
      have HXT : Hid ((dg b).getD (m - 1) 0 = x) := hx
      clear hb1 hx
      have K1 := Blk.new w1 #[.int .u32 (Y : Int)] 123
      have hs1 : w.heap.size ≤ w1.heap.size := HB1.out.size
      have HBa : Hid (Below w.heap.size w (w1.alloc (.cells #[.int .u32 (Y : Int)] 123))) := HB1.out.alloc hs1 _
      have HM1 := Lib.hid (nmul_c _ _ a Y _ (HA.out.below HBa.out) (NV.one K1 hY0 hY1) (by rw [HN.out]; omega) (by have := ln_small hY1; omega))
      clear K1
      go_wp2_with fail
      refine HM1.out.mono ?_; rintro e w2 ⟨⟨v1, rfl, hno1⟩, hb2⟩
      have HB2 := Lib.hid (belowT HBa.out hb2)
      have hs2 : w.heap.size ≤ w2.heap.size := HB2.out.size
      have HU0 : Hid (RO w.heap.size w2 v1 (dg (a * Y))) := RO.le hno1 HBa.out.size
      have hlu : ln (a * Y) ≤ 10000000000001 := by
        have h1 := ln_mul a Y
        have h2 := ln_small hY1
        have := HN.out
        omega
      clear hno1 hb2 HM1 HBa
      obtain ⟨v2, w3, hap, hro, hb3⟩ := (HU0.out.alloc (.cells #[.int .u32 0] 123)).app (by rw [World.size_alloc]; omega) 0 w2.heap.size ((Blk.new _ _ _).cell 0 rfl) (by show ln (a * Y) ≤ _; omega)
      have HU1 := Lib.hid hro
      have HB3 := Lib.hid ((HB2.out.alloc hs2 _).trans hb3)
      have hs3 : w.heap.size ≤ w3.heap.size := HB3.out.size
      clear hro hb3 HU0
      obtain ⟨gu, cu, rfl, hgu⟩ := HU1.out.succ (by simp)
      have hgl := HU1.out.lt gu rfl
      have K3 := Blk.new w3 #[.int .u32 (Y : Int)] 123
      have HBb : Hid (Below w.heap.size w (w3.alloc (.cells #[.int .u32 (Y : Int)] 123))) := HB3.out.alloc hs3 _
      have HM2 := Lib.hid (nmul_c _ _ b Y _ (HB.out.below HBb.out) (NV.one K3 hY0 hY1) (by rw [HM.out]; omega) (by have := ln_small hY1; omega))
      clear K3
      obtain ⟨N, hN⟩ : ∃ N, (dg (a * Y) ++ [0]).length = N := ⟨_, rfl⟩
      have HNl : Hid (N = ln (a * Y) + 1) := by show _ = _; rw [← hN]; simp [ln]
      have hN1 : N ≤ ln (a * Y) + 1 := by rw [HNl.out]; exact Nat.le_refl _
      have hN2 : ln (a * Y) + 1 ≤ N := by rw [HNl.out]; exact Nat.le_refl _
      have HNN := Lib.hid hN
      rw [hN] at HU1 hap
      clear hN
      go_wp2_with (at_builtin; refine wpList_append_told rfl (.tmp 45) (.tmp 46) 78 rfl _ _ rfl rfl (.slice (some ⟨gu, 0, none⟩) N cu) w3 (hap _) ?_)
      refine HM2.out.mono ?_; rintro e w4 ⟨⟨v3, rfl, hno3⟩, hb4⟩
      have HB4 := Lib.hid (belowT HBb.out hb4)
      have hs4 : w.heap.size ≤ w4.heap.size := HB4.out.size
      have hl4 : (w3.alloc (.cells #[.int .u32 (Y : Int)] 123)).heap.size ≤ w4.heap.size := hb4.size
      rw [World.size_alloc] at hl4
      have HU4 : Hid (RO w.heap.size w4 (.slice (some ⟨gu, 0, none⟩) N cu) (dg (a * Y) ++ [0])) := (HU1.out.alloc _).below hb4
      have hV0 : 0 < b * Y := Nat.mul_pos hb0 hY0
      have hmV := ln_mul_ge b Y hY0
      have hVU : ln (b * Y) ≤ ln (a * Y) := ln_mono (Nat.mul_le_mul_right _ (by have := HAB.out; omega))
      have hnU := ln_mul_ge a Y hY0
      rw [HM.out] at hmV
      rw [HN.out] at hnU
      obtain ⟨gv, cv, hv3, hgv⟩ := (show RO _ _ _ _ from hno3).succ (ln_pos hV0)
      rw [World.size_alloc] at hgv
      obtain ⟨V, hV⟩ : ∃ V, b * Y = V := ⟨_, rfl⟩
      rw [hV] at hno3 hV0 hmV hVU hv3
      obtain ⟨q, hq⟩ : ∃ q, ln V = q := ⟨_, rfl⟩
      change v3 = .slice _ (ln V) _ at hv3
      rw [hq] at hmV hVU hv3
      subst hv3
      have hgvl := (show RO _ _ _ _ from hno3).lt gv rfl
      have HV4 : Hid (NV w4 (.slice (some ⟨gv, 0, none⟩) q cv) V) := NO.nv hno3
      have HVB := Lib.hid hV
      have HQ := Lib.hid hq
      clear hno3 hb4 HM2 HBb hV hq HU1
      have r1 : decide ((N : Int) ≤ (n : Int)) = false := decide_eq_false (by omega)
      obtain ⟨M, hM⟩ : ∃ M, N = M + q := ⟨N - q, by omega⟩
      have r2 : (N : Int) - q = M := by omega
      have HMM := Lib.hid hM
      have hMb : M ≤ 10000000000002 := by omega
      have hM1 : 1 ≤ M := by omega
      clear hM
      have hmk := make_full M (by omega) w4
      go_wp2_with fail
      go_loop [7] (fun u => u = .slice (some ⟨gu, 0, none⟩) N cu) (fun _ => 0)
      case atStart => rfl
      case round =>
        subst hrel
        go_wp2_with (rw [hmk])
        have K5 := Lib.hid (Blk.new w4 (u32s (List.replicate M 0)).toArray 123)
        have B5 := Lib.hid (HB4.out.alloc hs4 (.cells (u32s (List.replicate M 0)).toArray 123))
        have HU5 := Lib.hid (HU4.out.alloc (.cells (u32s (List.replicate M 0)).toArray 123))
        have HV5 := Lib.hid (HV4.out.below (belowA (Below.refl _ _) (.cells (u32s (List.replicate M 0)).toArray 123)))
        generalize w4.alloc (.cells (u32s (List.replicate M 0)).toArray 123) = w5 at *
        obtain ⟨go, hgo⟩ : ∃ g, w4.heap.size = g := ⟨_, rfl⟩
        rw [hgo] at K5 hgvl ⊢
        have hgo0 : w.heap.size ≤ go := by omega
        have hgug : gu < go := by omega
        have HD0 : Hid (divI ((a * Y : Nat) : Int) (V : Int) M N M (List.replicate M 0) (dg (a * Y) ++ [0])) := by
          refine ⟨List.length_replicate, DgOk.replicate _, fun j _ => replicate_getD _ _, HNN.out, (dg_ok _).append (DgOk.cons (by omega) (by omega) DgOk.nil), ?_, ?_⟩
          · rw [val_replicate, val_pad]; omega
          · rw [val_pad]
            have h1 := lt_ln (a * Y)
            have h2 := ln_le_pw hV0
            rw [HQ.out] at h2
            have h3 : pw (ln (a * Y)) ≤ pw ((q - 1) + M) := pw_mono (by have := HMM.out; omega)
            rw [pw_add] at h3
            have h4 : pw (q - 1) * pw M ≤ (V : Int) * pw M := Int.mul_le_mul_of_nonneg_right h2 (by have := pw_pos M; omega)
            omega
        clear hgo HU4 HV4 hmk HB4
        go_loopw [11] (fun i wr => ∃ (k : Nat) (z : Int) (ds U : List Int), k ≤ M ∧ Hid (z = (k : Int) - 1) ∧ i = .int .i64 z ∧ Hid (divI ((a * Y : Nat) : Int) (V : Int) M N k ds U) ∧ Hid (RO w.heap.size wr (.slice (some ⟨gu, 0, none⟩) N cu) U) ∧ Hid (NV wr (.slice (some ⟨gv, 0, none⟩) q cv) V) ∧ Hid (Blk wr go (u32s ds).toArray 123) ∧ Hid (Below w.heap.size w wr)) (fun i _ => (intOf i + 1).toNat)
        case atStart => exact ⟨M, _, _, _, Nat.le_refl _, rfl, rfl, HD0, HU5, HV5, K5, B5⟩
        case round =>
          clear HD0 HU5 HV5 K5 B5
          obtain ⟨k, z, ds, U, hk, hz, rfl, hdi, hu, hv, hk0, hb⟩ := hrel
          rcases k with _ | j
          · obtain rfl : z = -1 := by have := hz.out; omega
            obtain ⟨hd1, hd2, hd3, hd4⟩ := div_end hdi.out
            obtain ⟨Q, hQe⟩ : ∃ Q : Nat, val ds = Q := ⟨(val ds).toNat, by omega⟩
            obtain ⟨R, hRe⟩ : ∃ R : Nat, val U = R := ⟨(val U).toNat, by omega⟩
            rw [hQe, hRe] at hd1
            rw [hRe] at hd3
            have hdN : Q * (b * Y) + R = a * Y := by
              rw [HVB.out]
              have h7 : ((Q * V + R : Nat) : Int) = ((a * Y : Nat) : Int) := by rw [← hd1]; push_cast; rfl
              exact Int.ofNat.inj h7
            have HRES := Lib.hid (div_result (a := a) (b := b) (by' := Y) (q := Q) (r := R) hb0 hY0 hdN (by rw [HVB.out]; omega))
            have HT1 := ntrim_c w.heap.size _ U wr (by have := hu.out; exact this) hdi.out.2.2.2.2.1
            rw [hRe] at HT1
            have HT1' := Lib.hid HT1
            have hRV : R ≤ V := by omega
            have hlR := ln_mono hRV
            rw [HQ.out] at hlR
            have HSH := Lib.hid (fun v (hv : NO w.heap.size wr v R) => nshort_c v R Y wr hv.nv (by omega) hY0 hY1)
            have HT2 := Lib.hid (fun W (hW : Below wr.heap.size wr W) => ntrim_c w.heap.size _ ds W ((below_blk hW hk0.out hk0.out.lt).ro hgo0 (by unfold maxLen; rw [hdi.out.1]; omega) hdi.out.1) hdi.out.2.1)
            have hsr := hb.out.size
            have HQE := Lib.hid hQe
            clear hdN hd1 hd2 hd3 hd4 hQe hRe HT1 hRV hlR hz
            go_wp2_with fail
            refine HT1'.out.mono ?_; rintro e w6 ⟨⟨v6, rfl, hn6⟩, rfl⟩
            have HS2 := Lib.hid (HSH.out v6 hn6)
            clear HSH HT1' hn6
            go_wp2_with fail
            refine HS2.out.mono ?_; rintro e w7 ⟨⟨v7, v8, rfl, hn7, hn8⟩, hb7⟩
            have HT3 := Lib.hid (HT2.out w7 hb7)
            have HN7 := Lib.hid hn7
            have HB7 := Lib.hid (hb.out.trans (hb7.mono hsr))
            clear hn7 hn8 hb7 HT2 HS2
            go_wp2_with fail
            refine HT3.out.mono ?_; rintro e w8 ⟨⟨v9, rfl, hn9⟩, rfl⟩
            have HN9 := Lib.hid hn9
            clear hn9 HT3
            go_wp2_with fail
            go_ret2
            refine ⟨⟨_, _, rfl, ?_, ?_⟩, HB7.out⟩
            · rw [HRES.out.1]
              have := HN9.out.nv
              rw [HQE.out] at this
              exact this
            · rw [← HRES.out.2]
              exact HN7.out.nv
          · obtain rfl : z = (j : Int) := by have := hz.out; omega
            obtain ⟨p0, hp0⟩ : ∃ p, q = p + 2 := ⟨q - 2, by omega⟩
            obtain ⟨low, lv, hqf⟩ := div_sight (p := p0) (B := dg V) hdi.out (dg_val V) (by show ln V = _; rw [HQ.out, hp0]) (dg_ok V) (by
              have h1 := dg_last hV0
              rw [show (dg V).length = p0 + 2 by show ln V = _; rw [HQ.out, hp0]] at h1
              exact h1) (by have := HMM.out; omega)
            have hdl := hdi.out.2.2.2.1
            obtain ⟨u0, hu0⟩ : ∃ x, U.getD (j + (p0 + 2)) 0 = x := ⟨_, rfl⟩
            obtain ⟨u1, hu1⟩ : ∃ x, U.getD (j + (p0 + 1)) 0 = x := ⟨_, rfl⟩
            obtain ⟨u2, hu2⟩ : ∃ x, U.getD (j + p0) 0 = x := ⟨_, rfl⟩
            obtain ⟨y1, hy1⟩ : ∃ x, (dg V).getD (p0 + 1) 0 = x := ⟨_, rfl⟩
            obtain ⟨y2, hy2⟩ : ∃ x, (dg V).getD p0 0 = x := ⟨_, rfl⟩
            obtain ⟨TT, hTT⟩ : ∃ x, val (U.drop j) = x := ⟨_, rfl⟩
            rw [hu0, hu1, hu2, hy1, hy2, hTT] at hqf
            have HT := Lib.hid hTT
            have HQF := Lib.hid hqf
            have hT0 : 0 ≤ TT := by rw [← hTT]; exact val_nonneg (hdi.out.2.2.2.2.1.drop j)
            have hcu := fun i (hi : i < N) => (show RO w.heap.size wr (.slice (some ⟨gu, 0, none⟩) U.length cu) U by rw [hdl]; exact hu.out).cell (j := i) (by rw [hdl]; exact hi)
            have HM3 := HMM.out
            obtain ⟨i0, hi0⟩ : ∃ i, j + (p0 + 2) = i := ⟨_, rfl⟩
            obtain ⟨i1, hi1⟩ : ∃ i, j + (p0 + 1) = i := ⟨_, rfl⟩
            obtain ⟨i2, hi2⟩ : ∃ i, j + p0 = i := ⟨_, rfl⟩
            rw [hi0] at hu0; rw [hi1] at hu1; rw [hi2] at hu2
            obtain ⟨_, e7, _, s0, _⟩ := hcu i0 (by omega)
            cases e7
            obtain ⟨_, e7, _, s1, _⟩ := hcu i1 (by omega)
            cases e7
            obtain ⟨_, e7, _, s2, _⟩ := hcu i2 (by omega)
            cases e7
            rw [hu0] at s0; rw [hu1] at s1; rw [hu2] at s2
            obtain ⟨_, _, _, e7, _, s3⟩ := hv.out.at HQ.out (j := p0 + 1) (by omega)
            cases e7
            obtain ⟨_, _, _, e7, _, s4⟩ := hv.out.at HQ.out (j := p0) (by omega)
            cases e7
            rw [hy1] at s3; rw [hy2] at s4
            obtain ⟨j1, hj1⟩ : ∃ i, p0 + 1 = i := ⟨_, rfl⟩
            rw [hj1] at s3
            rw [Nat.zero_add] at s3 s4
            have f0 : ((j : Int) + q).toNat = i0 := by omega
            have f1 : ((j : Int) + q - 1).toNat = i1 := by omega
            have f2 : ((j : Int) + q - 2).toNat = i2 := by omega
            have f3 : ((q : Int) - 1).toNat = j1 := by omega
            have f4 : ((q : Int) - 2).toNat = p0 := by omega
            have k0 : decide ((j : Int) + q < 0) = false := decide_eq_false (by omega)
            have k1 : decide ((j : Int) + q - 1 < 0) = false := decide_eq_false (by omega)
            have k2 : decide ((j : Int) + q - 2 < 0) = false := decide_eq_false (by omega)
            have k3 : decide ((q : Int) - 1 < 0) = false := decide_eq_false (by omega)
            have k4 : decide ((q : Int) - 2 < 0) = false := decide_eq_false (by omega)
            have l0 : decide ((N : Int) ≤ (j : Int) + q) = false := decide_eq_false (by omega)
            have l1 : decide ((N : Int) ≤ (j : Int) + q - 1) = false := decide_eq_false (by omega)
            have l2 : decide ((N : Int) ≤ (j : Int) + q - 2) = false := decide_eq_false (by omega)
            have l3 : decide ((q : Int) ≤ (q : Int) - 1) = false := decide_eq_false (by omega)
            have l4 : decide ((q : Int) ≤ (q : Int) - 2) = false := decide_eq_false (by omega)
            have m0 : IntKind.i64.wrap ((j : Int) + q) = (j : Int) + q := IntWalk.i64_in _ (by omega)
            have m1 : IntKind.i64.wrap ((j : Int) + q - 1) = (j : Int) + q - 1 := IntWalk.i64_in _ (by omega)
            have m2 : IntKind.i64.wrap ((j : Int) + q - 2) = (j : Int) + q - 2 := IntWalk.i64_in _ (by omega)
            have m3 : IntKind.i64.wrap ((q : Int) - 1) = (q : Int) - 1 := IntWalk.i64_in _ (by omega)
            have m4 : IntKind.i64.wrap ((q : Int) - 2) = (q : Int) - 2 := IntWalk.i64_in _ (by omega)
            have hu0r : 0 ≤ u0 ∧ u0 < 1000000000 := by rw [← hu0]; exact hdi.out.2.2.2.2.1.getD _
            have hu1r : 0 ≤ u1 ∧ u1 < 1000000000 := ⟨hqf.b0, hqf.b1⟩
            have hu2r : 0 ≤ u2 ∧ u2 < 1000000000 := ⟨hqf.c0, hqf.c1⟩
            have hy1r : 0 < y1 ∧ y1 < 1000000000 := ⟨hqf.d0, hqf.d1⟩
            have hy2r : 0 ≤ y2 ∧ y2 < 1000000000 := ⟨hqf.e0, hqf.e1⟩
            have hy1n : y1 ≠ 0 := by omega
            have HP0 := Lib.hid hp0
            clear hp0 HM3 hcu hi0 hi1 hi2 hj1 hu0 hu1 hu2 hy1 hy2 hTT hqf hdl hz
            go_wp2_with fail
            go_quiet (fail)
            have hdq := HQF.out.start
            have hq0 : 0 ≤ (u0 * 1000000000 + u1) / y1 := Int.ediv_nonneg (by omega) (by omega)
            have hr0 := Int.emod_nonneg (u0 * 1000000000 + u1) hy1n
            have hr1 := Int.emod_lt_of_pos (u0 * 1000000000 + u1) hy1r.1
            have hqr := Int.mul_ediv_add_emod (u0 * 1000000000 + u1) y1
            have hqb : (u0 * 1000000000 + u1) / y1 ≤ 1000000000000000000 := by
              have h1 := Int.ediv_le_self y1 (a := u0 * 1000000000 + u1) (by omega)
              omega
            have HE1 := Lib.hid hdq
            have HE2 := Lib.hid hqr
            clear hdq hqr
            go_wp2_with fail
            go_quiet (fail)
            generalize hq : (u0 * 1000000000 + u1) / y1 = q1 at *
            generalize hr : (u0 * 1000000000 + u1) % y1 = r1 at *
            clear hq hr
            go_upto_block 4 with fail
            go_cut [13, 14] from 109 to 144 (fun s13 _ wx => ∃ qq : Int, s13 = .int .u64 qq ∧ 0 ≤ qq ∧ qq < 1000000000 ∧ Hid (TT < (qq + 1) * V) ∧ Hid (qq * V < TT + V) ∧ Hid (∃ k, wx = wr.drewN k))
            case first =>
              go_wp2_with fail
              go_loopw [13, 14] (fun s13 s14 wx => ∃ qq rr : Int, s13 = .int .u64 qq ∧ s14 = .int .u64 rr ∧ 0 ≤ qq ∧ qq ≤ 1000000000000000000 ∧ 0 ≤ rr ∧ rr < 1000000000 ∧ Hid (qq * y1 + rr = u0 * 1000000000 + u1) ∧ Hid (TT < (qq + 1) * V) ∧ Hid (∃ k, wx = wr.drewN k)) (fun _ s14 _ => (1000000000 - intOf s14).toNat)
              case atStart => exact ⟨q1, r1, rfl, rfl, hq0, hqb, hr0, by omega, by show _ = _; rw [Int.mul_comm]; exact HE2.out, HE1.out, ⟨_, drewN_two _ _ _⟩⟩
              case round =>
                obtain ⟨qq, rr, rfl, rfl, hc0, hc1, hc2, hc3, hI1, hI2, kk, rfl⟩ := hrel
                by_cases h1 : 1000000000 ≤ qq
                · have o1 : decide (1000000000 ≤ qq) = true := decide_eq_true h1
                  have HN1 := Lib.hid (HQF.out.down hI1.out (Or.inl h1) hc0)
                  have hqp : 1 ≤ qq := by
                    rcases Int.lt_or_le qq 1 with h' | h'
                    · exfalso
                      have h3 := HN1.out
                      obtain rfl : qq = 0 := by omega
                      omega
                    · exact h'
                  have HI1 : Hid ((qq - 1) * y1 + (rr + y1) = u0 * 1000000000 + u1) := by
                    show _ = _
                    have := pred_mul qq y1
                    have := hI1.out
                    omega
                  have HI2 : Hid (TT < (qq - 1 + 1) * V) := by show _ < _; rw [show qq - 1 + 1 = qq by omega]; exact HN1.out
                  by_cases h3 : 1000000000 ≤ rr + y1
                  · have o3 : decide (1000000000 ≤ rr + y1) = true := decide_eq_true h3
                    have HC2 := Lib.hid (HQF.out.close HI1.out (by omega) (Or.inr h3))
                    clear hI1 hI2 HN1 h1 h3
                    go_wp2_with fail
                    go_quiet (fail)
                    go_wp2_with fail
                    go_meet
                    exact ⟨qq - 1, rfl, by omega, HC2.out.1, HI2, HC2.out.2, ⟨_, (by first | rfl | exact drewN_two _ _ _)⟩⟩
                  · have o3 : decide (1000000000 ≤ rr + y1) = false := decide_eq_false h3
                    clear hI1 hI2 HN1 h1
                    go_wp2_with fail
                    go_quiet (fail)
                    go_wp2_with fail
                    go_roundw
                    case rel => exact ⟨qq - 1, rr + y1, rfl, rfl, by omega, by omega, by omega, by omega, HI1, HI2, ⟨_, (by first | rfl | exact drewN_two _ _ _)⟩⟩
                    case measure => (simp [intOf] <;> omega)
                · have o1 : decide (1000000000 ≤ qq) = false := decide_eq_false h1
                  have hmr := mul_range hc0 (show qq < 1000000000 by omega) hy2r.1 hy2r.2
                  by_cases h2 : rr * 1000000000 + u2 < qq * y2
                  · have o2 : decide (rr * 1000000000 + u2 < qq * y2) = true := decide_eq_true h2
                    have HN1 := Lib.hid (HQF.out.down hI1.out (Or.inr h2) hc0)
                    have hqp : 1 ≤ qq := by
                      rcases Int.lt_or_le qq 1 with h' | h'
                      · exfalso
                        have h3 := HN1.out
                        obtain rfl : qq = 0 := by omega
                        omega
                      · exact h'
                    have HI1 : Hid ((qq - 1) * y1 + (rr + y1) = u0 * 1000000000 + u1) := by
                      show _ = _
                      have := pred_mul qq y1
                      have := hI1.out
                      omega
                    have HI2 : Hid (TT < (qq - 1 + 1) * V) := by show _ < _; rw [show qq - 1 + 1 = qq by omega]; exact HN1.out
                    by_cases h3 : 1000000000 ≤ rr + y1
                    · have o3 : decide (1000000000 ≤ rr + y1) = true := decide_eq_true h3
                      have HC2 := Lib.hid (HQF.out.close HI1.out (by omega) (Or.inr h3))
                      clear hI1 hI2 HN1 h1 h3
                      go_wp2_with fail
                      go_quiet (fail)
                      go_wp2_with fail
                      go_meet
                      exact ⟨qq - 1, rfl, by omega, HC2.out.1, HI2, HC2.out.2, ⟨_, (by first | rfl | exact drewN_two _ _ _)⟩⟩
                    · have o3 : decide (1000000000 ≤ rr + y1) = false := decide_eq_false h3
                      clear hI1 hI2 HN1 h1
                      go_wp2_with fail
                      go_quiet (fail)
                      go_wp2_with fail
                      go_roundw
                      case rel => exact ⟨qq - 1, rr + y1, rfl, rfl, by omega, by omega, by omega, by omega, HI1, HI2, ⟨_, (by first | rfl | exact drewN_two _ _ _)⟩⟩
                      case measure => (simp [intOf] <;> omega)
                  · have o2 : decide (rr * 1000000000 + u2 < qq * y2) = false := decide_eq_false h2
                    have HC2 := Lib.hid (HQF.out.close hI1.out hc0 (Or.inl ⟨by omega, by omega⟩))
                    clear h1 h2
                    go_wp2_with fail
                    go_quiet (fail)
                    go_wp2_with fail
                    go_meet
                    exact ⟨qq, rfl, hc0, HC2.out.1, hI2, HC2.out.2, ⟨_, (by first | rfl | exact drewN_two _ _ _)⟩⟩
            case rest =>
              obtain ⟨qq, rfl, hqq0, hqq1, hA1, hA2, kk, rfl⟩ := hcut
              obtain ⟨wx, hwx⟩ : ∃ W, wr.drewN kk = W := ⟨_, rfl⟩
              have hu6 : Hid (RO w.heap.size wx (.slice (some ⟨gu, 0, none⟩) N cu) U) := by rw [← hwx]; exact hu
              have hv6 : Hid (NV wx (.slice (some ⟨gv, 0, none⟩) q cv) V) := by rw [← hwx]; exact hv
              have hk6 : Hid (Blk wx go (u32s ds).toArray 123) := by rw [← hwx]; exact hk0
              have hb6 : Hid (Below w.heap.size w wx) := by rw [← hwx]; exact below_drewN hb.out _
              rw [hwx]
              have HMI := nminus_c w.heap.size gu N cu U (some ⟨gv, 0, none⟩) cv V j qq wx hu6.out hdi.out.2.2.2.1 hdi.out.2.2.2.2.1 (by rw [HQ.out]; exact hv6.out) (fun a ha => by cases ha; show gv ≠ gu; omega) (by rw [HQ.out]; have := HMM.out; omega) hqq0 hqq1 (by omega)
              rw [HQ.out] at HMI
              have HMJ := Lib.hid HMI
              clear hwx HMI s0 s1 s2 s3 s4 hu hv hk0 hb
              go_wp2_with fail
              refine HMJ.out.mono ?_; rintro e w6 ⟨⟨U1, br, rfl, hbr0, hbr1, hmi, hu7⟩, hbt⟩
              have HDV := Lib.hid (div_sub hdi.out (by have := lt_ln V; rw [HQ.out] at this; exact this) (by have := HMM.out; omega) (by omega) (dg_val V) (show (dg V).length = q from HQ.out) hmi hbr0 hbr1 hqq0 hqq1 (by rw [HT.out]; exact hA1.out) (by rw [HT.out]; exact hA2.out))
              have hu8 := Lib.hid hu7
              have hv8 := Lib.hid (hv6.out.but hbt (fun a ha => by cases ha; show gv ≠ gu; omega))
              have hk8 := Lib.hid (hbt.blk hk6.out (by omega))
              have hb8 := Lib.hid (But.below hb6.out hbt hgu (Nat.le_refl _))
              have HU1L : Hid (U1.length = N ∧ DgOk U1) := ⟨hmi.1.trans hdi.out.2.2.2.1, hmi.2.1⟩
              clear hmi hu7 hbt hu6 hv6 hk6 hb6 HMJ hA1 hA2
              have hdl := hdi.out.1
              rcases (show br = 0 ∨ br = 1 by omega) with rfl | rfl
              · have HD1 := Lib.hid (HDV.out.1 rfl)
                have hfz := hk8.out.free j
                have hcl := hk8.out.u32 (i := j) (by omega)
                have HK' : Hid (Blk _ go _ 123) := (hk8.out.set j (.int .u32 qq)).congr (u32s_put _ _ _)
                have hbu := But.set (But.refl go w6) j (.int .u32 qq)
                have HU' := Lib.hid (hu8.out.but hbu (fun a ha => by cases ha; show gu ≠ go; omega))
                have HV' := Lib.hid (hv8.out.but hbu (fun a ha => by cases ha; show gv ≠ go; omega))
                have HB' := Lib.hid (hb8.out.setCell (p := ⟨go, j, none⟩) hgo0 (.int .u32 qq))
                clear hbu HDV hdi hu8 hv8 hk8 hb8 hdl
                go_wp2_with fail
                go_roundw
                case rel => exact ⟨j, _, _, U1, by omega, rfl, by go_num, HD1, HU', HV', HK', HB'⟩
                case measure => (simp [intOf] <;> omega)
              · obtain ⟨hq1, HDW⟩ := HDV.out.2 rfl
                have HDX := Lib.hid HDW
                have HPL := nplus_c w.heap.size gu N cu U1 (some ⟨gv, 0, none⟩) cv V j w6 hu8.out HU1L.out.1 HU1L.out.2 (by rw [HQ.out]; exact hv8.out) (fun a ha => by cases ha; show gv ≠ gu; omega) (by rw [HQ.out]; have := HMM.out; omega) (by omega)
                rw [HQ.out] at HPL
                have HPM := Lib.hid HPL
                clear HPL HDW HDV
                go_wp2_with fail
                refine HPM.out.mono ?_; rintro e w7 ⟨⟨U2, c2, rfl, hc20, hc21, hpi, hu9⟩, hbt⟩
                have HD1 := Lib.hid (HDX.out U2 c2 hc20 hc21 hpi)
                have hv9 := hv8.out.but hbt (fun a ha => by cases ha; show gv ≠ gu; omega)
                have hk9 := hbt.blk hk8.out (by omega)
                have hb9 := But.below hb8.out hbt hgu (Nat.le_refl _)
                have hfz := hk9.free j
                have hcl := hk9.u32 (i := j) (by omega)
                have HK' : Hid (Blk _ go _ 123) := (hk9.set j (.int .u32 (qq - 1))).congr (u32s_put _ _ _)
                have hbu := But.set (But.refl go w7) j (.int .u32 (qq - 1))
                have HU' := Lib.hid (hu9.but hbu (fun a ha => by cases ha; show gu ≠ go; omega))
                have HV' := Lib.hid (hv9.but hbu (fun a ha => by cases ha; show gv ≠ go; omega))
                have HB' := Lib.hid (hb9.setCell (p := ⟨go, j, none⟩) hgo0 (.int .u32 (qq - 1)))
                clear hbu HDX HPM hdi hu8 hv8 hk8 hb8 hdl hu9 hv9 hk9 hb9 hpi hbt
                go_wp2_with fail
                go_roundw
                case rel => exact ⟨j, _, _, U2, by omega, rfl, by go_num, HD1, HU', HV', HK', HB'⟩
                case measure => (simp [intOf] <;> omega)
end Go.Proofs.Ythcddboeejbncaa
