/- nat.Sub. nat.short. nat.Mul. -/
import Derived.Test.YthcddboeejbncaaPzNat4
namespace Go.Proofs.Ythcddboeejbncaa
open Go.RowKit

theorem made_u32s (n : Nat) : madeCells #[.int .u32 0] n = (u32s (List.replicate n 0)).toArray := by
  apply Array.ext
  · simp [madeCells, u32s]
  · intro i h1 h2
    simp [madeCells, u32s, Nat.mod_one]
/-- 'make([]uint32, n)'. -/
theorem make_full (n : Nat) (hn : n ≤ 70000000000000) (W : World) : (Instr.makeSlice 78 (.int .i64 (n : Int)) (.int .i64 (n : Int))).run Try.prog W = .ok (.slice (some ⟨W.heap.size, 0, none⟩) n n) (W.alloc (.cells (u32s (List.replicate n 0)).toArray 123)) := by
  rw [← made_u32s]
  exact run_make_row' 78 123 (.int .u32 0) 4 Try.underlying78 infoU32 rfl .i64 .i64 n (by omega) (by omega) W
theorem u32s_put (d : List Int) (v : Nat) (x : Int) : (u32s d).toArray.setIfInBounds v (.int .u32 x) = (u32s (d.set v x)).toArray := by
  unfold u32s
  rw [List.setIfInBounds_toArray, List.map_set]
theorem Blk.u32 {w : World} {g : Nat} {d : List Int} {t : TypeId} (h : Blk w g (u32s d).toArray t) {i : Nat} (hi : i < d.length) : w.cell? ⟨g, i, none⟩ = some (.int .u32 (d.getD i 0)) :=
  h.cell i (by rw [List.getElem?_toArray]; exact u32s_get hi)
theorem Blk.ro {w : World} {g base : Nat} {d : List Int} (h : Blk w g (u32s d).toArray 123) (hb : base ≤ g) (hl : d.length ≤ maxLen) {n : Nat} (hn : d.length = n) : RO base w (.slice (some ⟨g, 0, none⟩) n n) d := by
  subst hn
  have := owns_lit h hb 1 d.length (by simp [u32s_len]) hl
  exact this
def subI (A B : List Int) (n k : Nat) (ds : List Int) (c : Int) : Prop := ds.length = n ∧ DgOk ds ∧ (∀ j, k ≤ j → ds.getD j 0 = 0) ∧ val ds = val (A.take k) - val (B.take k) + c * pw k
theorem sub_alg {V X Y c c' p x y d : Int} (hd : d = x - c - y + 1000000000 * c') (h : V = X - Y + c * p) : V + (d - 0) * p = X + p * x - (Y + p * y) + c' * (1000000000 * p) := by
  grind
theorem subI.step {A B : List Int} {n k : Nat} {ds : List Int} {c c' d : Int} (h : subI A B n k ds c) (hk : k < n) (h0 : 0 ≤ d) (h1 : d < 1000000000) (hd : d = A.getD k 0 - c - B.getD k 0 + 1000000000 * c') : subI A B n (k + 1) (ds.set k d) c' := by
  obtain ⟨e1, e2, e3, e4⟩ := h
  refine ⟨by simp [e1], e2.set k h0 h1, fun j hj => ?_, ?_⟩
  · rw [getD_set _ _ _ _ (by omega), if_neg (by omega)]; exact e3 j (by omega)
  · rw [val_set _ _ _ (by omega), e3 k (Nat.le_refl _), pw_succ, val_take_next, val_take_next]
    exact sub_alg hd e4
theorem replicate_getD (n j : Nat) : (List.replicate n (0 : Int)).getD j 0 = 0 := by
  rw [List.getD_eq_getElem?_getD, List.getElem?_replicate]; split <;> rfl
set_option maxRecDepth 100000 in
set_option maxHeartbeats 4000000 in
theorem nsub_c (va vb : Value) (a b : Nat) (w : World) (ha : NV w va a) (hb : NV w vb b) (sa : ln a ≤ 30000000000000) (hba : b ≤ a) :
    Calls Try.prog 94 #[va, vb] w fun e w' => (∃ v', e = .returned v' ∧ NO w.heap.size w' v' (a - b)) ∧ Below w.heap.size w w' := by
  obtain ⟨aa, ca, rfl⟩ := ha.slice
  obtain ⟨ab, cb, rfl⟩ := hb.slice
  have hmn := ln_mono hba
  obtain ⟨n, hn⟩ : ∃ n, ln a = n := ⟨_, rfl⟩
  obtain ⟨m, hm⟩ : ∃ m, ln b = m := ⟨_, rfl⟩
  obtain ⟨A, hAE⟩ : ∃ A, dg a = A := ⟨_, rfl⟩
  obtain ⟨B, hBE⟩ : ∃ A, dg b = A := ⟨_, rfl⟩
  have HAE := Lib.hid hAE
  have HBE := Lib.hid hBE
  have HDA : Hid (DgOk A) := hAE ▸ dg_ok a
  have HDB : Hid (DgOk B) := hBE ▸ dg_ok b
  have HN := Lib.hid hn
  have HM := Lib.hid hm
  have HA := Lib.hid ha
  have HB := Lib.hid hb
  have HBA := Lib.hid hba
  rw [hn] at sa HA hmn ⊢
  rw [hm] at HB hmn ⊢
  clear hn hm ha hb hAE hBE
  have hmk := make_full n (by omega) w
  have K0 := Lib.hid (Blk.new w (u32s (List.replicate n 0)).toArray 123)
  have B0 := Lib.hid (belowA (Below.refl w.heap.size w) (.cells (u32s (List.replicate n 0)).toArray 123))
  go_enter Try.func94, Try.ntmps94
  go_wp2_with (rw [hmk])
  generalize w.alloc (.cells (u32s (List.replicate n 0)).toArray 123) = w1 at *
  go_loopw [14, 6] (fun i c wr => ∃ (k : Nat) (ds : List Int) (cc : Int), k ≤ n ∧ i = .int .i64 k ∧ c = .int .i64 cc ∧ 0 ≤ cc ∧ cc ≤ 1 ∧ Hid (subI A B n k ds cc) ∧ Hid (Blk wr w.heap.size (u32s ds).toArray 123) ∧ Hid (Below w.heap.size w wr)) (fun i _ _ => n - (intOf i).toNat)
  case atStart => exact ⟨0, _, 0, Nat.zero_le _, rfl, rfl, by omega, by omega, ⟨List.length_replicate, DgOk.replicate _, fun j _ => replicate_getD _ _, by rw [val_replicate]; rfl⟩, K0, B0⟩
  case round =>
    obtain ⟨k, ds, c, hk, rfl, rfl, hc0, hc1, hI, hk0, hb⟩ := hrel
    by_cases hlt : k < n
    · obtain ⟨g1, o1, c1, e1, _, x1⟩ := (HA.out.below hb.out).at HN.out (j := k) hlt
      cases e1
      obtain ⟨x, hx⟩ : ∃ x, A.getD k 0 = x := ⟨_, rfl⟩
      rw [HAE.out, hx] at x1
      have HX := Lib.hid hx
      have hxb := HDA.out.getD k
      rw [hx] at hxb
      clear hx
      by_cases hlm : k < m
      · obtain ⟨g2, o2, c2, e2, _, x2⟩ := (HB.out.below hb.out).at HM.out (j := k) hlm
        cases e2
        obtain ⟨y, hy⟩ : ∃ y, B.getD k 0 = y := ⟨_, rfl⟩
        rw [HBE.out, hy] at x2
        have HY := Lib.hid hy
        have hyb := HDB.out.getD k
        rw [hy] at hyb
        clear hy
        by_cases hneg : x - c - y < 0
        · have q2 : decide (x - c - y < 0) = true := decide_eq_true hneg
          have HI' := Lib.hid (hI.out.step (c' := 1) hlt (show 0 ≤ x - c - y + 1000000000 by omega) (show x - c - y + 1000000000 < 1000000000 by omega) (by rw [HX.out, HY.out]; omega))
          have HK' : Hid (Blk _ w.heap.size _ 123) := (hk0.out.set k (.int .u32 (x - c - y + 1000000000))).congr (u32s_put _ _ _)
          have hfz := hk0.out.free k
          have hcl := hk0.out.u32 (i := k) (by rw [hI.out.1]; exact hlt)
          rw [hI.out.2.2.1 k (Nat.le_refl _)] at hcl
          have HB' := Lib.hid (hb.out.setCell (p := ⟨w.heap.size, k, none⟩) (Nat.le_refl _) (.int .u32 (x - c - y + 1000000000)))
          clear hI hb
          go_wp2_with fail
          go_roundw
          case rel => exact ⟨k + 1, _, 1, hlt, by go_num, rfl, by omega, by omega, HI', HK', HB'⟩
          case measure => (simp [intOf] <;> omega)
        · have q2 : decide (x - c - y < 0) = false := decide_eq_false hneg
          have HI' := Lib.hid (hI.out.step (c' := 0) hlt (show 0 ≤ x - c - y by omega) (show x - c - y < 1000000000 by omega) (by rw [HX.out, HY.out]; omega))
          have HK' : Hid (Blk _ w.heap.size _ 123) := (hk0.out.set k (.int .u32 (x - c - y))).congr (u32s_put _ _ _)
          have hfz := hk0.out.free k
          have hcl := hk0.out.u32 (i := k) (by rw [hI.out.1]; exact hlt)
          rw [hI.out.2.2.1 k (Nat.le_refl _)] at hcl
          have HB' := Lib.hid (hb.out.setCell (p := ⟨w.heap.size, k, none⟩) (Nat.le_refl _) (.int .u32 (x - c - y)))
          clear hI hb
          go_wp2_with fail
          go_roundw
          case rel => exact ⟨k + 1, _, 0, hlt, by go_num, rfl, by omega, by omega, HI', HK', HB'⟩
          case measure => (simp [intOf] <;> omega)
      · have HY : Hid (B.getD k 0 = 0) := by
          show _ = _
          rw [List.getD_eq_getElem?_getD, List.getElem?_eq_none (by rw [← HBE.out]; show ln _ ≤ k; rw [HM.out]; omega)]; rfl
        by_cases hneg : x - c < 0
        · have q2 : decide (x - c < 0) = true := decide_eq_true hneg
          have HI' := Lib.hid (hI.out.step (c' := 1) hlt (show 0 ≤ x - c + 1000000000 by omega) (show x - c + 1000000000 < 1000000000 by omega) (by rw [HX.out, HY.out]; omega))
          have HK' : Hid (Blk _ w.heap.size _ 123) := (hk0.out.set k (.int .u32 (x - c + 1000000000))).congr (u32s_put _ _ _)
          have hfz := hk0.out.free k
          have hcl := hk0.out.u32 (i := k) (by rw [hI.out.1]; exact hlt)
          rw [hI.out.2.2.1 k (Nat.le_refl _)] at hcl
          have HB' := Lib.hid (hb.out.setCell (p := ⟨w.heap.size, k, none⟩) (Nat.le_refl _) (.int .u32 (x - c + 1000000000)))
          clear hI hb
          go_wp2_with fail
          go_roundw
          case rel => exact ⟨k + 1, _, 1, hlt, by go_num, rfl, by omega, by omega, HI', HK', HB'⟩
          case measure => (simp [intOf] <;> omega)
        · have q2 : decide (x - c < 0) = false := decide_eq_false hneg
          have HI' := Lib.hid (hI.out.step (c' := 0) hlt (show 0 ≤ x - c by omega) (show x - c < 1000000000 by omega) (by rw [HX.out, HY.out]; omega))
          have HK' : Hid (Blk _ w.heap.size _ 123) := (hk0.out.set k (.int .u32 (x - c))).congr (u32s_put _ _ _)
          have hfz := hk0.out.free k
          have hcl := hk0.out.u32 (i := k) (by rw [hI.out.1]; exact hlt)
          rw [hI.out.2.2.1 k (Nat.le_refl _)] at hcl
          have HB' := Lib.hid (hb.out.setCell (p := ⟨w.heap.size, k, none⟩) (Nat.le_refl _) (.int .u32 (x - c)))
          clear hI hb
          go_wp2_with fail
          go_roundw
          case rel => exact ⟨k + 1, _, 0, hlt, by go_num, rfl, by omega, by omega, HI', HK', HB'⟩
          case measure => (simp [intOf] <;> omega)
    · obtain rfl : k = n := by omega
      have HT := Lib.hid (ntrim_c w.heap.size _ ds wr (hk0.out.ro (Nat.le_refl _) (by unfold maxLen; rw [hI.out.1]; omega) hI.out.1) hI.out.2.1)
      have HS : Hid ((val ds).toNat = a - b) := by
        show _ = _
        obtain ⟨h1, h2, h3, h4⟩ := hI.out
        rw [← HAE.out, ← HBE.out, dg_take _ (by rw [HN.out]; exact Nat.le_refl _), dg_take _ (by rw [HM.out]; omega)] at h4
        have h5 := val_lt h2
        have := HBA.out
        rw [h1] at h5
        rcases (show c = 0 ∨ c = 1 by omega) with rfl | rfl
        · omega
        · omega
      go_wp2_with fail
      refine HT.out.mono ?_; rintro e w' ⟨⟨v', rfl, hno⟩, rfl⟩
      go_wp2_with fail
      go_ret
      exact ⟨⟨_, rfl, by rw [← HS.out]; exact hno⟩, hb.out⟩
end Go.Proofs.Ythcddboeejbncaa
namespace Go.Proofs.Ythcddboeejbncaa
open Go.RowKit

def shortI (A : List Int) (D : Int) (n k : Nat) (ds : List Int) (r : Int) : Prop := ds.length = n ∧ DgOk ds ∧ val (A.drop k) = D * val (ds.drop k) + r
theorem short_alg {V q Q D r r' x : Int} (h : V = D * Q + r) (hq : r * 1000000000 + x = D * q + r') : x + 1000000000 * V = D * (q + 1000000000 * Q) + r' := by
  grind
theorem shortI.step {A : List Int} {D : Int} {n k : Nat} {ds : List Int} {r x : Int} (h : shortI A D n (k + 1) ds r) (hk : k < n) (hA : A.length = n) (hx : A.getD k 0 = x) (hx0 : 0 ≤ x) (hx1 : x < 1000000000) (hr : 0 ≤ r) (hrd : r < D) :
    shortI A D n k (ds.set k ((r * 1000000000 + x) / D)) ((r * 1000000000 + x) % D) ∧ 0 ≤ (r * 1000000000 + x) / D ∧ (r * 1000000000 + x) / D < 1000000000 := by
  obtain ⟨e1, e2, e3⟩ := h
  have hD : 0 < D := by omega
  have h0 : 0 ≤ (r * 1000000000 + x) / D := Int.ediv_nonneg (by omega) (by omega)
  have h1 : (r * 1000000000 + x) / D < 1000000000 := Int.ediv_lt_of_lt_mul hD (by omega)
  refine ⟨⟨by simp [e1], e2.set k h0 h1, ?_⟩, h0, h1⟩
  rw [val_drop (by omega), hx, val_drop (l := ds.set k _) (by simp; omega), getD_set _ _ _ _ (by omega), if_pos rfl, List.drop_set_of_lt (by omega)]
  exact short_alg e3 (Int.mul_ediv_add_emod _ _).symm
set_option maxRecDepth 100000 in
set_option maxHeartbeats 4000000 in
theorem nshort_c (va : Value) (a D : Nat) (w : World) (ha : NV w va a) (sa : ln a ≤ 30000000000000) (h0 : 0 < D) (h1 : D < 1000000000) :
    Calls Try.prog 97 #[va, .int .u32 D] w fun e w' => (∃ v1 v2, e = .returned (.tuple #[v1, v2]) ∧ NO w.heap.size w' v1 (a / D) ∧ NO w.heap.size w' v2 (a % D)) ∧ Below w.heap.size w w' := by
  obtain ⟨aa, ca, rfl⟩ := ha.slice
  obtain ⟨n, hn⟩ : ∃ n, ln a = n := ⟨_, rfl⟩
  obtain ⟨A, hAE⟩ : ∃ A, dg a = A := ⟨_, rfl⟩
  have HAE := Lib.hid hAE
  have HDA : Hid (DgOk A) := hAE ▸ dg_ok a
  have HN := Lib.hid hn
  have HAL : Hid (A.length = n) := by show _ = _; rw [← hAE]; exact hn
  have HA := Lib.hid ha
  rw [hn] at sa HA ⊢
  clear hn ha hAE
  have hmk := make_full n (by omega) w
  have K0 := Lib.hid (Blk.new w (u32s (List.replicate n 0)).toArray 123)
  have B0 := Lib.hid (belowA (Below.refl w.heap.size w) (.cells (u32s (List.replicate n 0)).toArray 123))
  go_enter Try.func97, Try.ntmps97
  go_wp2_with (rw [hmk])
  generalize w.alloc (.cells (u32s (List.replicate n 0)).toArray 123) = w1 at *
  go_loopw [8, 7] (fun i c wr => ∃ (k : Nat) (z : Int) (ds : List Int) (r : Int), k ≤ n ∧ Hid (z = (k : Int) - 1) ∧ i = .int .i64 z ∧ c = .int .u64 r ∧ 0 ≤ r ∧ r < D ∧ Hid (shortI A D n k ds r) ∧ Hid (Blk wr w.heap.size (u32s ds).toArray 123) ∧ Hid (Below w.heap.size w wr)) (fun i _ _ => (intOf i + 1).toNat)
  case atStart => exact ⟨n, _, _, 0, Nat.le_refl _, rfl, rfl, rfl, by omega, by omega, ⟨List.length_replicate, DgOk.replicate _, by rw [List.drop_eq_nil_of_le (by rw [HAL.out]; exact Nat.le_refl _), List.drop_eq_nil_of_le (by simp)]; simp [val]⟩, K0, B0⟩
  case round =>
    obtain ⟨k, z, ds, r, hk, hz, rfl, rfl, hr0, hr1, hI, hk0, hb⟩ := hrel
    rcases k with _ | k
    · obtain rfl : z = -1 := by have := hz.out; omega
      obtain ⟨R, rfl⟩ : ∃ R : Nat, r = R := ⟨r.toNat, by omega⟩
      have HV := hI.out.2.2
      simp only [List.drop_zero] at HV
      rw [← HAE.out, dg_val] at HV
      have hvn := val_nonneg hI.out.2.1
      obtain ⟨V, hV⟩ : ∃ V : Nat, val ds = V := ⟨(val ds).toNat, by omega⟩
      rw [hV] at HV
      have HQ : Hid (a / D = V ∧ a % D = R) := by
        have e : a = D * V + R := by
          have : ((D * V + R : Nat) : Int) = (a : Int) := by push_cast; omega
          omega
        show _ ∧ _
        rw [e]
        exact ⟨by rw [Nat.mul_add_div h0, Nat.div_eq_of_lt (by omega)]; rfl, by rw [Nat.mul_add_mod]; exact Nat.mod_eq_of_lt (by omega)⟩
      have HT := Lib.hid (ntrim_c w.heap.size _ ds wr (hk0.out.ro (Nat.le_refl _) (by unfold maxLen; rw [hI.out.1]; omega) hI.out.1) hI.out.2.1)
      have K1 := Blk.new wr (u32s [(R : Int)]).toArray 123
      have hs : w.heap.size ≤ wr.heap.size := hb.out.size
      have HT2 := Lib.hid (ntrim_c w.heap.size _ [(R : Int)] _ (K1.ro hs (by unfold maxLen; simp) rfl) (DgOk.cons hr0 (by omega) DgOk.nil))
      have HB2 := Lib.hid (hb.out.alloc hs (.cells (u32s [(R : Int)]).toArray 123))
      have HKE : Hid (Below wr.heap.size wr (wr.alloc (.cells (u32s [(R : Int)]).toArray 123))) := belowA (Below.refl _ _) _
      clear K1 HV
      go_wp2_with fail
      refine HT.out.mono ?_; rintro e w' ⟨⟨v1, rfl, hno1⟩, rfl⟩
      have HN1 := Lib.hid hno1
      clear hno1
      go_wp2_with fail
      refine HT2.out.mono ?_; rintro e w' ⟨⟨v2, rfl, hno2⟩, rfl⟩
      have HN2 := Lib.hid hno2
      clear hno2
      go_wp2_with fail
      go_ret2
      refine ⟨⟨_, _, rfl, ?_, ?_⟩, HB2.out⟩
      · rw [HQ.out.1]
        have h2 := HN1.out
        rw [hV] at h2
        exact RO.below h2 HKE.out
      · rw [HQ.out.2]
        have h2 := HN2.out
        have e2 : (val [(R : Int)]).toNat = R := by simp [val]
        rw [e2] at h2
        exact h2
    · obtain rfl : z = (k : Int) := by have := hz.out; omega
      obtain ⟨g1, o1, c1, e1, _, x1⟩ := (HA.out.below hb.out).at HN.out (j := k) (by omega)
      cases e1
      obtain ⟨x, hx⟩ : ∃ x, A.getD k 0 = x := ⟨_, rfl⟩
      rw [HAE.out, hx] at x1
      have hxb := HDA.out.getD k
      rw [hx] at hxb
      have hst := hI.out.step (by omega) HAL.out hx hxb.1 hxb.2 hr0 hr1
      have hfz := hk0.out.free k
      have hcl := hk0.out.u32 (i := k) (by rw [hI.out.1]; omega)
      have e3 : D ≠ 0 := by omega
      have hm1 : r * 1000000000 + x < 1000000000000000000 := by omega
      obtain ⟨q, hq⟩ : ∃ q, (r * 1000000000 + x) / (D : Int) = q := ⟨_, rfl⟩
      obtain ⟨r', hr'⟩ : ∃ q, (r * 1000000000 + x) % (D : Int) = q := ⟨_, rfl⟩
      rw [hq, hr'] at hst
      have hrb : 0 ≤ r' ∧ r' < D := by rw [← hr']; exact ⟨Int.emod_nonneg _ (by omega), Int.emod_lt_of_pos _ (by omega)⟩
      obtain ⟨hst1, hst2, hst3⟩ := hst
      have HI' := Lib.hid hst1
      have HK' : Hid (Blk _ w.heap.size _ 123) := (hk0.out.set k (.int .u32 q)).congr (u32s_put _ _ _)
      have HB' := Lib.hid (hb.out.setCell (p := ⟨w.heap.size, k, none⟩) (Nat.le_refl _) (.int .u32 q))
      have HR' := Lib.hid hr'
      clear hI hb hst1 hx hr'
      go_wp2_with fail
      go_roundw
      case rel => exact ⟨k, _, _, r', by omega, rfl, by go_num, by rw [HR'.out], hrb.1, hrb.2, HI', HK', HB'⟩
      case measure => (simp [intOf] <;> omega)
end Go.Proofs.Ythcddboeejbncaa
namespace Go.Proofs.Ythcddboeejbncaa
open Go.RowKit

/-- Inside the outer round i, ahead of the inner round k. -/
def mulI (A B : List Int) (N i k : Nat) (ds : List Int) (c : Int) : Prop := ds.length = N ∧ DgOk ds ∧ (∀ j, i + B.length ≤ j → ds.getD j 0 = 0) ∧ val ds + c * pw (i + k) = val (A.take i) * val B + pw i * (A.getD i 0 * val (B.take k))
theorem mul_alg {V c c' r o x y p q W X t : Int} (ht : t = x * y + o + c) (hq : t = 1000000000 * c' + r) (h : V + c * (p * q) = W + p * (x * X)) : V + (r - o) * (p * q) + c' * (1000000000 * (p * q)) = W + p * (x * (X + q * y)) := by
  grind
theorem mulI.step {A B : List Int} {N i k : Nat} {ds : List Int} {c t : Int} (h : mulI A B N i k ds c) (hk : k < B.length) (hN : i + B.length ≤ N) (ht : t = A.getD i 0 * B.getD k 0 + ds.getD (i + k) 0 + c) : mulI A B N i (k + 1) (ds.set (i + k) (t % 1000000000)) (t / 1000000000) := by
  obtain ⟨e1, e2, e3, e4⟩ := h
  refine ⟨by simp [e1], e2.set _ (by omega) (by omega), fun j hj => ?_, ?_⟩
  · rw [getD_set _ _ _ _ (by omega), if_neg (by omega)]; exact e3 j hj
  · rw [val_set _ _ _ (by omega), show i + (k + 1) = (i + k) + 1 by omega, pw_succ, val_take_next, pw_add]
    rw [pw_add] at e4
    exact mul_alg ht (by omega) e4
theorem mulI.close {A B : List Int} {N i : Nat} {ds : List Int} {c : Int} (h : mulI A B N i B.length ds c) (hN : i + B.length < N) (h0 : 0 ≤ c) (h1 : c < 1000000000) : mulI A B N (i + 1) 0 (ds.set (i + B.length) c) 0 := by
  obtain ⟨e1, e2, e3, e4⟩ := h
  refine ⟨by simp [e1], e2.set _ h0 h1, fun j hj => ?_, ?_⟩
  · rw [getD_set _ _ _ _ (by omega), if_neg (by omega)]; exact e3 j (by omega)
  · rw [val_set _ _ _ (by omega), e3 _ (Nat.le_refl _), val_take_next]
    rw [List.take_of_length_le (Nat.le_refl _)] at e4
    simp only [List.take_zero, val]
    rw [show val ds + (c - 0) * pw (i + B.length) = val ds + c * pw (i + B.length) by rw [Int.sub_zero], e4]
    grind
theorem mul_range {x y : Int} (hx0 : 0 ≤ x) (hx1 : x < 1000000000) (hy0 : 0 ≤ y) (hy1 : y < 1000000000) : 0 ≤ x * y ∧ x * y ≤ 999999998000000001 := by
  refine ⟨Int.mul_nonneg hx0 hy0, ?_⟩
  have h1 : x * y ≤ 999999999 * y := Int.mul_le_mul_of_nonneg_right (by omega) hy0
  omega
set_option maxRecDepth 100000 in
set_option maxHeartbeats 4000000 in
theorem nmul_c (va vb : Value) (a b : Nat) (w : World) (ha : NV w va a) (hb : NV w vb b) (sa : ln a ≤ 30000000000000) (sb : ln b ≤ 30000000000000) :
    Calls Try.prog 90 #[va, vb] w fun e w' => (∃ v', e = .returned v' ∧ NO w.heap.size w' v' (a * b)) ∧ Below w.heap.size w w' := by
  obtain ⟨aa, ca, rfl⟩ := ha.slice
  obtain ⟨ab, cb, rfl⟩ := hb.slice
  obtain ⟨n, hn⟩ : ∃ n, ln a = n := ⟨_, rfl⟩
  obtain ⟨m, hm⟩ : ∃ m, ln b = m := ⟨_, rfl⟩
  obtain ⟨A, hAE⟩ : ∃ A, dg a = A := ⟨_, rfl⟩
  obtain ⟨B, hBE⟩ : ∃ A, dg b = A := ⟨_, rfl⟩
  have HAE := Lib.hid hAE
  have HBE := Lib.hid hBE
  have HDA : Hid (DgOk A) := hAE ▸ dg_ok a
  have HDB : Hid (DgOk B) := hBE ▸ dg_ok b
  have HN := Lib.hid hn
  have HM := Lib.hid hm
  have HBL : Hid (B.length = m) := by show _ = _; rw [← hBE]; exact hm
  have HA := Lib.hid ha
  have HB := Lib.hid hb
  rw [hn] at sa HA ⊢
  rw [hm] at sb HB ⊢
  clear hn hm ha hb hAE hBE
  have hmk := make_full (n + m) (by omega) w
  rw [show ((n + m : Nat) : Int) = (n : Int) + m from by push_cast; rfl] at hmk
  have K0 := Lib.hid (Blk.new w (u32s (List.replicate (n + m) 0)).toArray 123)
  have B0 := Lib.hid (belowA (Below.refl w.heap.size w) (.cells (u32s (List.replicate (n + m) 0)).toArray 123))
  go_enter Try.func90, Try.ntmps90
  go_wp2_with (rw [hmk])
  generalize w.alloc (.cells (u32s (List.replicate (n + m) 0)).toArray 123) = w1 at *
  go_loopw [20] (fun i wr => ∃ (k : Nat) (ds : List Int), k ≤ n ∧ i = .int .i64 k ∧ Hid (mulI A B (n + m) k 0 ds 0) ∧ Hid (Blk wr w.heap.size (u32s ds).toArray 123) ∧ Hid (Below w.heap.size w wr)) (fun i _ => n - (intOf i).toNat)
  case atStart => exact ⟨0, _, Nat.zero_le _, rfl, ⟨List.length_replicate, DgOk.replicate _, fun j _ => replicate_getD _ _, by rw [val_replicate]; simp [val]⟩, K0, B0⟩
  case round =>
    obtain ⟨i, ds, hi, rfl, hI, hk0, hb⟩ := hrel
    by_cases hlt : i < n
    · obtain ⟨g1, o1, c1, e1, _, x1⟩ := (HA.out.below hb.out).at HN.out (j := i) hlt
      cases e1
      obtain ⟨x, hx⟩ : ∃ x, A.getD i 0 = x := ⟨_, rfl⟩
      rw [HAE.out, hx] at x1
      have HX := Lib.hid hx
      have hxb := HDA.out.getD i
      rw [hx] at hxb
      clear hx
      go_wp2_with fail
      go_loopw [27, 8] (fun k c wr' => ∃ (j : Nat) (ds' : List Int) (cc : Int), j ≤ m ∧ k = .int .i64 j ∧ c = .int .u64 cc ∧ 0 ≤ cc ∧ cc < 1000000000 ∧ Hid (mulI A B (n + m) i j ds' cc) ∧ Hid (Blk wr' w.heap.size (u32s ds').toArray 123) ∧ Hid (Below w.heap.size w wr')) (fun k _ _ => m - (intOf k).toNat)
      case atStart => exact ⟨0, ds, 0, Nat.zero_le _, rfl, rfl, by omega, by omega, hI, hk0, hb⟩
      case round =>
        clear hI hk0 hb
        obtain ⟨j, ds', c, hj, rfl, rfl, hc0, hc1, hI, hk0, hb⟩ := hrel
        by_cases hjm : j < m
        · obtain ⟨g2, o2, c2, e2, _, x2⟩ := (HB.out.below hb.out).at HM.out (j := j) hjm
          cases e2
          obtain ⟨y, hy⟩ : ∃ y, B.getD j 0 = y := ⟨_, rfl⟩
          rw [HBE.out, hy] at x2
          have HY := Lib.hid hy
          have hyb := HDB.out.getD j
          rw [hy] at hyb
          clear hy
          obtain ⟨o, ho⟩ : ∃ o, ds'.getD (i + j) 0 = o := ⟨_, rfl⟩
          have hob := hI.out.2.1.getD (i + j)
          have hfz := hk0.out.free (i + j)
          have hcl := hk0.out.u32 (i := i + j) (by rw [hI.out.1]; omega)
          rw [ho] at hob hcl
          have hmr := mul_range hxb.1 hxb.2 hyb.1 hyb.2
          obtain ⟨t, ht⟩ : ∃ t, x * y + o + c = t := ⟨_, rfl⟩
          have htb : 0 ≤ t ∧ t < 1000000000000000000 := by omega
          have HI' := Lib.hid (hI.out.step (t := t) (by rw [HBL.out]; exact hjm) (by rw [HBL.out]; omega) (by rw [HX.out, HY.out, ho, ht]))
          have HK' : Hid (Blk _ w.heap.size _ 123) := (hk0.out.set (i + j) (.int .u32 (t % 1000000000))).congr (u32s_put _ _ _)
          have HB' := Lib.hid (hb.out.setCell (p := ⟨w.heap.size, i + j, none⟩) (Nat.le_refl _) (.int .u32 (t % 1000000000)))
          have e1 : ((i : Int) + j).toNat = i + j := by omega
          rw [← ht] at HK' HB'
          have HT := Lib.hid ht
          clear ht hI hb ho htb
          go_wp2_with fail
          go_roundw
          case rel => exact ⟨j + 1, _, t / 1000000000, hjm, by go_num, by rw [← HT.out], by have := HT.out; omega, by have := HT.out; omega, HI', by rw [← HT.out]; exact HK', HB'⟩
          case measure => (simp [intOf] <;> omega)
        · obtain rfl : j = m := by omega
          have hfz := hk0.out.free (i + j)
          have hcl := hk0.out.u32 (i := i + j) (by rw [hI.out.1]; omega)
          have HI' := Lib.hid ((show mulI A B (n + j) i B.length ds' c by rw [HBL.out]; exact hI.out).close (by rw [HBL.out]; omega) hc0 hc1)
          rw [HBL.out] at HI'
          have HK' : Hid (Blk _ w.heap.size _ 123) := (hk0.out.set (i + j) (.int .u32 c)).congr (u32s_put _ _ _)
          have HB' := Lib.hid (hb.out.setCell (p := ⟨w.heap.size, i + j, none⟩) (Nat.le_refl _) (.int .u32 c))
          have e1 : ((i : Int) + j).toNat = i + j := by omega
          clear hI hb
          go_wp2_with fail
          go_roundw
          case rel => exact ⟨i + 1, _, hlt, by go_num, HI', HK', HB'⟩
          case measure => (simp [intOf] <;> omega)
    · obtain rfl : i = n := by omega
      have HT := Lib.hid (ntrim_c w.heap.size _ ds wr (hk0.out.ro (Nat.le_refl _) (by unfold maxLen; rw [hI.out.1]; omega) hI.out.1) hI.out.2.1)
      have HS : Hid ((val ds).toNat = a * b) := by
        show _ = _
        obtain ⟨h1, h2, h3, h4⟩ := hI.out
        rw [← HAE.out, ← HBE.out, dg_take _ (by rw [HN.out]; exact Nat.le_refl _), dg_val] at h4
        have h5 : val ds = ((a * b : Nat) : Int) := by
          rw [List.take_zero] at h4
          have h6 : val ([] : List Int) = 0 := rfl
          rw [h6] at h4
          push_cast; simpa using h4
        omega
      go_wp2_with fail
      refine HT.out.mono ?_; rintro e w' ⟨⟨v', rfl, hno⟩, rfl⟩
      go_wp2_with fail
      go_ret
      exact ⟨⟨_, rfl, by rw [← HS.out]; exact hno⟩, hb.out⟩
end Go.Proofs.Ythcddboeejbncaa
