/- The law CurvePoints: at the multiple of a point, the time is that of the point. For every input; no condition. -/
import Derived.Test.YtjkgkoedkphnjaaLawCrvFalls
namespace Go.Proofs.Ytjkgkoedkphnjaa
open Go.RowKit

/-- The index, as Go reckons it. -/
theorem idx_range (k : Int) (n : Nat) (h0 : 0 < n) (h1 : n ≤ 32) : 0 ≤ (wrap64 (k.tmod n + n)).tmod n ∧ (wrap64 (k.tmod n + n)).tmod n < n := norm_range k n (by omega) (by omega)

set_option maxHeartbeats 2000000 in
theorem points_walk (v : Value) (l : Pts) (pk k : Int) (w : World) (hv : PVal w v l) :
    Calls Try.prog 10 #[v, .int .i64 pk, .int .i64 k] w fun e w' => e = .returned (.bool true) ∧ Below w.heap.size w w' := by
  obtain ⟨sa, sl, sc0, rfl⟩ := hv.slice
  have HV := Lib.hid hv
  clear hv
  go_enter Try.func10, Try.ntmps10
  go_wp2_with fail
  refine (curveWorks_c _).mono ?_; rintro e w1 ⟨rfl, b1⟩
  have B1 := Lib.hid b1
  have V1 := Lib.hid (HV.out.below b1)
  clear b1 HV
  go_wp2_with fail
  refine (curveCheck_c _ l _ V1.out).mono ?_; rintro e w2 ⟨rfl, b2⟩
  have B2 := Lib.hid (belowT B1.out b2)
  have V2 := Lib.hid (V1.out.below b2)
  clear b2 V1 B1
  by_cases he : l.err = 0
  · have hl := (Pts.err_zero l).1 he
    rw [he]
    by_cases hp : pk < 1 ∨ 100 < pk
    · clear he hl
      go_wp2
      all_goals
        go_ret
        exact ⟨rfl, B2.out⟩
    · have p1 : ¬ pk < 1 := by omega
      have p2 : ¬ 100 < pk := by omega
      clear hp
      obtain ⟨b, off, cap, hvv, hp⟩ := V2.out.addr hl
      simp only [Value.slice.injEq] at hvv
      obtain ⟨rfl, rfl, rfl⟩ := hvv
      have n1 := hl.len1
      have n2 := hl.len2
      have hr := idx_range k l.length (by omega) n2
      have HI := Lib.hid (show ∀ i : Nat, i < l.length → l.timeR (100 * pk) ((l.pt i).1 * pk) = ((l.pt i).2, 0) from by
        intro i hi
        have a1 := hl.m1 i hi
        have a2 := hl.m2 i hi
        have a3 : 0 ≤ (l.pt i).1 * pk := Int.mul_nonneg (by omega) (by omega)
        have a4 : (l.pt i).1 * pk ≤ 10000 * 100 := Int.mul_le_mul a2 (by omega) (by omega) (by omega)
        unfold Pts.timeR
        rw [if_neg (fun h => h he), if_neg (by omega), Pts.time_point hl (by omega) hi])
      have HP := Lib.hid hp
      have HL := Lib.hid hl
      have bl := hp.1
      clear he hl hp
      obtain ⟨N, hN⟩ : ∃ N, l.length = N := ⟨_, rfl⟩
      have HN := Lib.hid hN
      rw [hN] at n1 n2 hr V2 HI ⊢
      clear hN
      obtain ⟨I, hI⟩ : ∃ I, (wrap64 (k.tmod N + N)).tmod N = I := ⟨_, rfl⟩
      have HII := Lib.hid hI
      rw [hI] at hr
      clear hI
      obtain ⟨r0, r1⟩ := hr
      have x0 := (HP.out.2 I.toNat (by rw [HN.out]; omega)).1
      have x1 := (HP.out.2 I.toNat (by rw [HN.out]; omega)).2
      have m1 := HL.out.m1 I.toNat (by rw [HN.out]; omega)
      have m2 := HL.out.m2 I.toNat (by rw [HN.out]; omega)
      have HT := Lib.hid (HI.out I.toNat (by omega))
      obtain ⟨xm, xt, hx⟩ : ∃ xm xt, l.pt I.toNat = (xm, xt) := ⟨_, _, rfl⟩
      rw [hx] at x0 x1 m1 m2 HT
      simp only at x0 x1 m1 m2 HT
      have hmul : 0 ≤ xm * pk ∧ xm * pk ≤ 1000000 := by
        have a3 : 0 ≤ xm * pk := Int.mul_nonneg (by omega) (by omega)
        have a4 : xm * pk ≤ 10000 * 100 := Int.mul_le_mul m2 (by omega) (by omega) (by omega)
        omega
      clear hx HI
      have hN0 : ¬ (N : Int) = 0 := by omega
      have hk' := HII.out
      go_wp2_with fail
      have V3 : PVal (w2.alloc (.cells #[.int .i64 xm, .int .i64 xt] 58)) (.slice (some ⟨b, off, none⟩) N sc0) l := V2.out.below (belowA (Below.refl _ _) _)
      refine (time_c _ l (100 * pk) (xm * pk) _ V3).mono ?_; rintro e w3 ⟨rfl, b3⟩
      rw [HT.out]
      unfold two
      have c1 := (below_blk b3 (Blk.new _ _ _) (by simp)).cell 1 rfl
      have B3 := Lib.hid (belowT (belowA B2.out _) b3)
      clear b3 V3 V2 x0 x1
      go_wp2
      go_ret
      exact ⟨rfl, B3.out⟩
  · have g0 : (l.err != 0) = true := by simpa using he
    generalize l.err = E at *
    clear he
    go_wp2
    go_ret
    exact ⟨rfl, B2.out⟩
end Go.Proofs.Ytjkgkoedkphnjaa
