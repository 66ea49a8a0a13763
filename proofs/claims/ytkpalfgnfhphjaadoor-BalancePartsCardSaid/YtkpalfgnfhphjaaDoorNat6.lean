/- nat.short. -/
import Derived.Test.YtkpalfgnfhphjaaDoorNat5
namespace Go.Proofs.YtkpalfgnfhphjaaDoor
open Go.RowKit

def shortI (A : List Int) (D : Int) (n k : Nat) (ds : List Int) (r : Int) : Prop := ds.length = n ∧ DgOk ds ∧ val (A.drop k) = D * val (ds.drop k) + r
theorem short_alg {V q Q D r r' x : Int} (h : V = D * Q + r) (hq : r * 1000000000 + x = D * q + r') : x + 1000000000 * V = D * (q + 1000000000 * Q) + r' := by
  grind
theorem shortI.step {A : List Int} {D : Int} {n k : Nat} {ds : List Int} {r x : Int} (h : shortI A D n (k + 1) ds r) (hk : k < n) (hA : A.length = n) (hx : A.getD k 0 = x) (hx0 : 0 ≤ x) (hx1 : x < 1000000000) (hr : 0 ≤ r) (hrd : r < D) :
    shortI A D n k (ds.set k ((r * 1000000000 + x) / D)) ((r * 1000000000 + x) % D) ∧ 0 ≤ (r * 1000000000 + x) / D ∧ (r * 1000000000 + x) / D < 1000000000 := by
  obtain ⟨e1, e2, e3⟩ := h
  have hD : 0 < D := by omega
  have h0 : 0 ≤ (r * 1000000000 + x) / D := Int.ediv_nonneg (by omega) (by omega)
  have h1 : (r * 1000000000 + x) / D < 1000000000 := Int.ediv_lt_of_lt_mul hD (by omega)
  refine ⟨⟨by simp [e1], e2.set k h0 h1, ?_⟩, h0, h1⟩
  rw [val_drop (by omega), hx, val_drop (l := ds.set k _) (by simp; omega), getD_set _ _ _ _ (by omega), if_pos rfl, List.drop_set_of_lt (by omega)]
  exact short_alg e3 (Int.mul_ediv_add_emod _ _).symm
set_option maxRecDepth 100000 in
set_option maxHeartbeats 4000000 in
theorem nshort_c (va : Value) (a D : Nat) (w : World) (ha : NV w va a) (sa : ln a ≤ 30000000000000) (h0 : 0 < D) (h1 : D < 1000000000) :
    Calls Tryd.prog 78 #[va, .int .u32 D] w fun e w' => (∃ v1 v2, e = .returned (.tuple #[v1, v2]) ∧ NO w.heap.size w' v1 (a / D) ∧ NO w.heap.size w' v2 (a % D)) ∧ Below w.heap.size w w' := by
  obtain ⟨aa, ca, rfl⟩ := ha.slice
  obtain ⟨n, hn⟩ : ∃ n, ln a = n := ⟨_, rfl⟩
  obtain ⟨A, hAE⟩ : ∃ A, dg a = A := ⟨_, rfl⟩
  have HAE := Lib.hid hAE
  have HDA : Hid (DgOk A) := hAE ▸ dg_ok a
  have HN := Lib.hid hn
  have HAL : Hid (A.length = n) := by show _ = _; rw [← hAE]; exact hn
  have HA := Lib.hid ha
  rw [hn] at sa HA ⊢
  clear hn ha hAE
  have hmk := make_full n (by omega) w
  have K0 := Lib.hid (Blk.new w (u32s (List.replicate n 0)).toArray 114)
  have B0 := Lib.hid (belowA (Below.refl w.heap.size w) (.cells (u32s (List.replicate n 0)).toArray 114))
  go_enter Tryd.func78, Tryd.ntmps78
  go_wp2_with (rw [hmk])
  generalize w.alloc (.cells (u32s (List.replicate n 0)).toArray 114) = w1 at *
  go_loopw [8, 7] (fun i c wr => ∃ (k : Nat) (z : Int) (ds : List Int) (r : Int), k ≤ n ∧ Hid (z = (k : Int) - 1) ∧ i = .int .i64 z ∧ c = .int .u64 r ∧ 0 ≤ r ∧ r < D ∧ Hid (shortI A D n k ds r) ∧ Hid (Blk wr w.heap.size (u32s ds).toArray 114) ∧ Hid (Below w.heap.size w wr)) (fun i _ _ => (intOf i + 1).toNat)
  case atStart => exact ⟨n, _, _, 0, Nat.le_refl _, rfl, rfl, rfl, by omega, by omega, ⟨List.length_replicate, DgOk.replicate _, by rw [List.drop_eq_nil_of_le (by rw [HAL.out]; exact Nat.le_refl _), List.drop_eq_nil_of_le (by simp)]; simp [val]⟩, K0, B0⟩
  case round =>
    obtain ⟨k, z, ds, r, hk, hz, rfl, rfl, hr0, hr1, hI, hk0, hb⟩ := hrel
    rcases k with _ | k
    · obtain rfl : z = -1 := by have := hz.out; omega
      obtain ⟨R, rfl⟩ : ∃ R : Nat, r = R := ⟨r.toNat, by omega⟩
      have HV := hI.out.2.2
      simp only [List.drop_zero] at HV
      rw [← HAE.out, dg_val] at HV
      have hvn := val_nonneg hI.out.2.1
      obtain ⟨V, hV⟩ : ∃ V : Nat, val ds = V := ⟨(val ds).toNat, by omega⟩
      rw [hV] at HV
      have HQ : Hid (a / D = V ∧ a % D = R) := by
        have e : a = D * V + R := by
          have : ((D * V + R : Nat) : Int) = (a : Int) := by push_cast; omega
          omega
        show _ ∧ _
        rw [e]
        exact ⟨by rw [Nat.mul_add_div h0, Nat.div_eq_of_lt (by omega)]; rfl, by rw [Nat.mul_add_mod]; exact Nat.mod_eq_of_lt (by omega)⟩
      have HT := Lib.hid (ntrim_c w.heap.size _ ds wr (hk0.out.ro (Nat.le_refl _) (by unfold maxLen; rw [hI.out.1]; omega) hI.out.1) hI.out.2.1)
      have K1 := Blk.new wr (u32s [(R : Int)]).toArray 114
      have hs : w.heap.size ≤ wr.heap.size := hb.out.size
      have HT2 := Lib.hid (ntrim_c w.heap.size _ [(R : Int)] _ (K1.ro hs (by unfold maxLen; simp) rfl) (DgOk.cons hr0 (by omega) DgOk.nil))
      have HB2 := Lib.hid (hb.out.alloc hs (.cells (u32s [(R : Int)]).toArray 114))
      have HKE : Hid (Below wr.heap.size wr (wr.alloc (.cells (u32s [(R : Int)]).toArray 114))) := belowA (Below.refl _ _) _
      clear K1 HV
      go_wp2_with fail
      refine HT.out.mono ?_; rintro e w' ⟨⟨v1, rfl, hno1⟩, rfl⟩
      have HN1 := Lib.hid hno1
      clear hno1
      go_wp2_with fail
      refine HT2.out.mono ?_; rintro e w' ⟨⟨v2, rfl, hno2⟩, rfl⟩
      have HN2 := Lib.hid hno2
      clear hno2
      go_wp2_with fail
      go_ret2
      refine ⟨⟨_, _, rfl, ?_, ?_⟩, HB2.out⟩
      · rw [HQ.out.1]
        have h2 := HN1.out
        rw [hV] at h2
        exact RO.below h2 HKE.out
      · rw [HQ.out.2]
        have h2 := HN2.out
        have e2 : (val [(R : Int)]).toNat = R := by simp [val]
        rw [e2] at h2
        exact h2
    · obtain rfl : z = (k : Int) := by have := hz.out; omega
      obtain ⟨g1, o1, c1, e1, _, x1⟩ := (HA.out.below hb.out).at HN.out (j := k) (by omega)
      cases e1
      obtain ⟨x, hx⟩ : ∃ x, A.getD k 0 = x := ⟨_, rfl⟩
      rw [HAE.out, hx] at x1
      have hxb := HDA.out.getD k
      rw [hx] at hxb
      have hst := hI.out.step (by omega) HAL.out hx hxb.1 hxb.2 hr0 hr1
      have hfz := hk0.out.free k
      have hcl := hk0.out.u32 (i := k) (by rw [hI.out.1]; omega)
      have e3 : D ≠ 0 := by omega
      have hm1 : r * 1000000000 + x < 1000000000000000000 := by omega
      obtain ⟨q, hq⟩ : ∃ q, (r * 1000000000 + x) / (D : Int) = q := ⟨_, rfl⟩
      obtain ⟨r', hr'⟩ : ∃ q, (r * 1000000000 + x) % (D : Int) = q := ⟨_, rfl⟩
      rw [hq, hr'] at hst
      have hrb : 0 ≤ r' ∧ r' < D := by rw [← hr']; exact ⟨Int.emod_nonneg _ (by omega), Int.emod_lt_of_pos _ (by omega)⟩
      obtain ⟨hst1, hst2, hst3⟩ := hst
      have HI' := Lib.hid hst1
      have HK' : Hid (Blk _ w.heap.size _ 114) := (hk0.out.set k (.int .u32 q)).congr (u32s_put _ _ _)
      have HB' := Lib.hid (hb.out.setCell (p := ⟨w.heap.size, k, none⟩) (Nat.le_refl _) (.int .u32 q))
      have HR' := Lib.hid hr'
      clear hI hb hst1 hx hr'
      go_wp2_with fail
      go_roundw
      case rel => exact ⟨k, _, _, r', by omega, rfl, by go_num, by rw [HR'.out], hrb.1, hrb.2, HI', HK', HB'⟩
      case measure => (simp [intOf] <;> omega)
end Go.Proofs.YtkpalfgnfhphjaaDoor
