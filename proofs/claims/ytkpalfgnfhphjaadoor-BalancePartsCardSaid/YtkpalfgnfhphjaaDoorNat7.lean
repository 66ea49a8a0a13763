/- nat.Mul. -/
import Derived.Test.YtkpalfgnfhphjaaDoorNat6
namespace Go.Proofs.YtkpalfgnfhphjaaDoor
open Go.RowKit

/-- Inside the outer round i, ahead of the inner round k. -/
def mulI (A B : List Int) (N i k : Nat) (ds : List Int) (c : Int) : Prop := ds.length = N ∧ DgOk ds ∧ (∀ j, i + B.length ≤ j → ds.getD j 0 = 0) ∧ val ds + c * pw (i + k) = val (A.take i) * val B + pw i * (A.getD i 0 * val (B.take k))
theorem mul_alg {V c c' r o x y p q W X t : Int} (ht : t = x * y + o + c) (hq : t = 1000000000 * c' + r) (h : V + c * (p * q) = W + p * (x * X)) : V + (r - o) * (p * q) + c' * (1000000000 * (p * q)) = W + p * (x * (X + q * y)) := by
  grind
theorem mulI.step {A B : List Int} {N i k : Nat} {ds : List Int} {c t : Int} (h : mulI A B N i k ds c) (hk : k < B.length) (hN : i + B.length ≤ N) (ht : t = A.getD i 0 * B.getD k 0 + ds.getD (i + k) 0 + c) : mulI A B N i (k + 1) (ds.set (i + k) (t % 1000000000)) (t / 1000000000) := by
  obtain ⟨e1, e2, e3, e4⟩ := h
  refine ⟨by simp [e1], e2.set _ (by omega) (by omega), fun j hj => ?_, ?_⟩
  · rw [getD_set _ _ _ _ (by omega), if_neg (by omega)]; exact e3 j hj
  · rw [val_set _ _ _ (by omega), show i + (k + 1) = (i + k) + 1 by omega, pw_succ, val_take_next, pw_add]
    rw [pw_add] at e4
    exact mul_alg ht (by omega) e4
theorem mulI.close {A B : List Int} {N i : Nat} {ds : List Int} {c : Int} (h : mulI A B N i B.length ds c) (hN : i + B.length < N) (h0 : 0 ≤ c) (h1 : c < 1000000000) : mulI A B N (i + 1) 0 (ds.set (i + B.length) c) 0 := by
  obtain ⟨e1, e2, e3, e4⟩ := h
  refine ⟨by simp [e1], e2.set _ h0 h1, fun j hj => ?_, ?_⟩
  · rw [getD_set _ _ _ _ (by omega), if_neg (by omega)]; exact e3 j (by omega)
  · rw [val_set _ _ _ (by omega), e3 _ (Nat.le_refl _), val_take_next]
    rw [List.take_of_length_le (Nat.le_refl _)] at e4
    simp only [List.take_zero, val]
    rw [show val ds + (c - 0) * pw (i + B.length) = val ds + c * pw (i + B.length) by rw [Int.sub_zero], e4]
    grind
theorem mul_range {x y : Int} (hx0 : 0 ≤ x) (hx1 : x < 1000000000) (hy0 : 0 ≤ y) (hy1 : y < 1000000000) : 0 ≤ x * y ∧ x * y ≤ 999999998000000001 := by
  refine ⟨Int.mul_nonneg hx0 hy0, ?_⟩
  have h1 : x * y ≤ 999999999 * y := Int.mul_le_mul_of_nonneg_right (by omega) hy0
  omega
set_option maxRecDepth 100000 in
set_option maxHeartbeats 4000000 in
theorem nmul_c (va vb : Value) (a b : Nat) (w : World) (ha : NV w va a) (hb : NV w vb b) (sa : ln a ≤ 30000000000000) (sb : ln b ≤ 30000000000000) :
    Calls Tryd.prog 46 #[va, vb] w fun e w' => (∃ v', e = .returned v' ∧ NO w.heap.size w' v' (a * b)) ∧ Below w.heap.size w w' := by
  obtain ⟨aa, ca, rfl⟩ := ha.slice
  obtain ⟨ab, cb, rfl⟩ := hb.slice
  obtain ⟨n, hn⟩ : ∃ n, ln a = n := ⟨_, rfl⟩
  obtain ⟨m, hm⟩ : ∃ m, ln b = m := ⟨_, rfl⟩
  obtain ⟨A, hAE⟩ : ∃ A, dg a = A := ⟨_, rfl⟩
  obtain ⟨B, hBE⟩ : ∃ A, dg b = A := ⟨_, rfl⟩
  have HAE := Lib.hid hAE
  have HBE := Lib.hid hBE
  have HDA : Hid (DgOk A) := hAE ▸ dg_ok a
  have HDB : Hid (DgOk B) := hBE ▸ dg_ok b
  have HN := Lib.hid hn
  have HM := Lib.hid hm
  have HBL : Hid (B.length = m) := by show _ = _; rw [← hBE]; exact hm
  have HA := Lib.hid ha
  have HB := Lib.hid hb
  rw [hn] at sa HA ⊢
  rw [hm] at sb HB ⊢
  clear hn hm ha hb hAE hBE
  have hmk := make_full (n + m) (by omega) w
  rw [show ((n + m : Nat) : Int) = (n : Int) + m from by push_cast; rfl] at hmk
  have K0 := Lib.hid (Blk.new w (u32s (List.replicate (n + m) 0)).toArray 114)
  have B0 := Lib.hid (belowA (Below.refl w.heap.size w) (.cells (u32s (List.replicate (n + m) 0)).toArray 114))
  go_enter Tryd.func46, Tryd.ntmps46
  go_wp2_with (rw [hmk])
  generalize w.alloc (.cells (u32s (List.replicate (n + m) 0)).toArray 114) = w1 at *
  go_loopw [20] (fun i wr => ∃ (k : Nat) (ds : List Int), k ≤ n ∧ i = .int .i64 k ∧ Hid (mulI A B (n + m) k 0 ds 0) ∧ Hid (Blk wr w.heap.size (u32s ds).toArray 114) ∧ Hid (Below w.heap.size w wr)) (fun i _ => n - (intOf i).toNat)
  case atStart => exact ⟨0, _, Nat.zero_le _, rfl, ⟨List.length_replicate, DgOk.replicate _, fun j _ => replicate_getD _ _, by rw [val_replicate]; simp [val]⟩, K0, B0⟩
  case round =>
    obtain ⟨i, ds, hi, rfl, hI, hk0, hb⟩ := hrel
    by_cases hlt : i < n
    · obtain ⟨g1, o1, c1, e1, _, x1⟩ := (HA.out.below hb.out).at HN.out (j := i) hlt
      cases e1
      obtain ⟨x, hx⟩ : ∃ x, A.getD i 0 = x := ⟨_, rfl⟩
      rw [HAE.out, hx] at x1
      have HX := Lib.hid hx
      have hxb := HDA.out.getD i
      rw [hx] at hxb
      clear hx
      go_wp2_with fail
      go_loopw [27, 8] (fun k c wr' => ∃ (j : Nat) (ds' : List Int) (cc : Int), j ≤ m ∧ k = .int .i64 j ∧ c = .int .u64 cc ∧ 0 ≤ cc ∧ cc < 1000000000 ∧ Hid (mulI A B (n + m) i j ds' cc) ∧ Hid (Blk wr' w.heap.size (u32s ds').toArray 114) ∧ Hid (Below w.heap.size w wr')) (fun k _ _ => m - (intOf k).toNat)
      case atStart => exact ⟨0, ds, 0, Nat.zero_le _, rfl, rfl, by omega, by omega, hI, hk0, hb⟩
      case round =>
        clear hI hk0 hb
        obtain ⟨j, ds', c, hj, rfl, rfl, hc0, hc1, hI, hk0, hb⟩ := hrel
        by_cases hjm : j < m
        · obtain ⟨g2, o2, c2, e2, _, x2⟩ := (HB.out.below hb.out).at HM.out (j := j) hjm
          cases e2
          obtain ⟨y, hy⟩ : ∃ y, B.getD j 0 = y := ⟨_, rfl⟩
          rw [HBE.out, hy] at x2
          have HY := Lib.hid hy
          have hyb := HDB.out.getD j
          rw [hy] at hyb
          clear hy
          obtain ⟨o, ho⟩ : ∃ o, ds'.getD (i + j) 0 = o := ⟨_, rfl⟩
          have hob := hI.out.2.1.getD (i + j)
          have hfz := hk0.out.free (i + j)
          have hcl := hk0.out.u32 (i := i + j) (by rw [hI.out.1]; omega)
          rw [ho] at hob hcl
          have hmr := mul_range hxb.1 hxb.2 hyb.1 hyb.2
          obtain ⟨t, ht⟩ : ∃ t, x * y + o + c = t := ⟨_, rfl⟩
          have htb : 0 ≤ t ∧ t < 1000000000000000000 := by omega
          have HI' := Lib.hid (hI.out.step (t := t) (by rw [HBL.out]; exact hjm) (by rw [HBL.out]; omega) (by rw [HX.out, HY.out, ho, ht]))
          have HK' : Hid (Blk _ w.heap.size _ 114) := (hk0.out.set (i + j) (.int .u32 (t % 1000000000))).congr (u32s_put _ _ _)
          have HB' := Lib.hid (hb.out.setCell (p := ⟨w.heap.size, i + j, none⟩) (Nat.le_refl _) (.int .u32 (t % 1000000000)))
          have e1 : ((i : Int) + j).toNat = i + j := by omega
          rw [← ht] at HK' HB'
          have HT := Lib.hid ht
          clear ht hI hb ho htb
          go_wp2_with fail
          go_roundw
          case rel => exact ⟨j + 1, _, t / 1000000000, hjm, by go_num, by rw [← HT.out], by have := HT.out; omega, by have := HT.out; omega, HI', by rw [← HT.out]; exact HK', HB'⟩
          case measure => (simp [intOf] <;> omega)
        · obtain rfl : j = m := by omega
          have hfz := hk0.out.free (i + j)
          have hcl := hk0.out.u32 (i := i + j) (by rw [hI.out.1]; omega)
          have HI' := Lib.hid ((show mulI A B (n + j) i B.length ds' c by rw [HBL.out]; exact hI.out).close (by rw [HBL.out]; omega) hc0 hc1)
          rw [HBL.out] at HI'
          have HK' : Hid (Blk _ w.heap.size _ 114) := (hk0.out.set (i + j) (.int .u32 c)).congr (u32s_put _ _ _)
          have HB' := Lib.hid (hb.out.setCell (p := ⟨w.heap.size, i + j, none⟩) (Nat.le_refl _) (.int .u32 c))
          have e1 : ((i : Int) + j).toNat = i + j := by omega
          clear hI hb
          go_wp2_with fail
          go_roundw
          case rel => exact ⟨i + 1, _, hlt, by go_num, HI', HK', HB'⟩
          case measure => (simp [intOf] <;> omega)
    · obtain rfl : i = n := by omega
      have HT := Lib.hid (ntrim_c w.heap.size _ ds wr (hk0.out.ro (Nat.le_refl _) (by unfold maxLen; rw [hI.out.1]; omega) hI.out.1) hI.out.2.1)
      have HS : Hid ((val ds).toNat = a * b) := by
        show _ = _
        obtain ⟨h1, h2, h3, h4⟩ := hI.out
        rw [← HAE.out, ← HBE.out, dg_take _ (by rw [HN.out]; exact Nat.le_refl _), dg_val] at h4
        have h5 : val ds = ((a * b : Nat) : Int) := by
          rw [List.take_zero] at h4
          have h6 : val ([] : List Int) = 0 := rfl
          rw [h6] at h4
          push_cast; simpa using h4
        omega
      go_wp2_with fail
      refine HT.out.mono ?_; rintro e w' ⟨⟨v', rfl, hno⟩, rfl⟩
      go_wp2_with fail
      go_ret
      exact ⟨⟨_, rfl, by rw [← HS.out]; exact hno⟩, hb.out⟩
end Go.Proofs.YtkpalfgnfhphjaaDoor
