/- Over-current characteristics: contracts of Check and at. -/
import Derived.Test.YtjkgkoedkphnjaaCrvP
namespace Go.Proofs.Ytjkgkoedkphnjaa
open Go.RowKit

theorem ret_i {k : IntKind} {a b : Int} (h : a = b) : Ending.returned (.int k a) = .returned (.int k b) := by rw [h]

/-- The points l lie in w, from cell off of block b on. -/
def PAt (w : World) (b off : Nat) (l : Pts) : Prop :=
  b < w.heap.size ∧ ∀ i, i < l.length → w.cell? ⟨b, off + i * 2, none⟩ = some (.int .i64 (l.pt i).1) ∧ w.cell? ⟨b, off + i * 2 + 1, none⟩ = some (.int .i64 (l.pt i).2)
/-- The value v is a slice that reads as the points l. -/
def PVal (w : World) (v : Value) (l : Pts) : Prop :=
  (l = [] ∧ ∃ a cap, v = .slice a 0 cap) ∨ ∃ b off cap, v = .slice (some ⟨b, off, none⟩) l.length cap ∧ l.length ≤ cap ∧ l.length ≤ maxLen ∧ PAt w b off l
theorem PAt.below {w w' : World} {b off : Nat} {l : Pts} (h : PAt w b off l) (k : Below w.heap.size w w') : PAt w' b off l :=
  ⟨Nat.lt_of_lt_of_le h.1 k.size, fun i hi => ⟨by rw [k.cell (by exact h.1)]; exact (h.2 i hi).1, by rw [k.cell (by exact h.1)]; exact (h.2 i hi).2⟩⟩
theorem PVal.below {w w' : World} {v : Value} {l : Pts} (h : PVal w v l) (k : Below w.heap.size w w') : PVal w' v l := by
  rcases h with h | ⟨b, off, cap, h1, h2, h3, h4⟩
  · exact Or.inl h
  · exact Or.inr ⟨b, off, cap, h1, h2, h3, h4.below k⟩

set_option maxHeartbeats 1000000 in
theorem curveCheck_c (v : Value) (l : Pts) (w : World) (hv : PVal w v l) :
    Calls Try.prog 34 #[v] w fun e w' => e = .returned (.int .i64 l.err) ∧ Below w.heap.size w w' := by
  rcases hv with ⟨rfl, a, cap, rfl⟩ | ⟨b, off, cap, rfl, h2, h3, h4⟩
  · go_enter Try.func34, Try.ntmps34
    go_wp2
    go_ret
    exact ⟨rfl, Below.refl _ _⟩
  · have h5 : l.length ≤ 9223372036854775807 := h3
    clear h3
    obtain ⟨n, hn⟩ : ∃ n, l.length = n := ⟨_, rfl⟩
    rw [hn] at h2 h5 ⊢
    have HN := Lib.hid hn
    have H4 := Lib.hid h4
    clear h4
    by_cases c1 : 32 < n
    · have HE : Hid (l.err = 2) := by show _ = _; unfold Pts.err; rw [hn, if_pos c1]
      clear hn
      have c1' : (32 : Int) < n := by omega
      go_enter Try.func34, Try.ntmps34
      go_wp2
      go_ret
      exact ⟨ret_i HE.out.symm, Below.refl _ _⟩
    · by_cases c2 : n < 2
      · have HE : Hid (l.err = 3) := by show _ = _; unfold Pts.err; rw [hn, if_neg c1, if_pos c2]
        clear hn
        go_enter Try.func34, Try.ntmps34
        go_wp2
        go_ret
        exact ⟨ret_i HE.out.symm, Below.refl _ _⟩
      · have HE : Hid (l.err = l.at_ 0) := by show _ = _; rw [Pts.at_zero]; unfold Pts.err; rw [hn, if_neg c1, if_neg c2]
        clear hn
        generalize l.err = E at *
        go_enter Try.func34, Try.ntmps34
        go_wp2
        go_loopw [15] (fun i wr => ∃ k : Nat, k ≤ n ∧ i = .int .i64 k ∧ Hid (l.at_ k = E) ∧ Below w.heap.size w wr) (fun i _ => n - (intOf i).toNat)
        case atStart => exact ⟨0, Nat.zero_le _, rfl, HE.out.symm, Below.refl _ _⟩
        case round =>
          obtain ⟨k, hk, rfl, he, hb⟩ := hrel
          by_cases hlt : k < n
          · have x0 := (H4.out.2 k (by rw [HN.out]; exact hlt)).1
            have x1 := (H4.out.2 k (by rw [HN.out]; exact hlt)).2
            rw [← hb.cell (by exact H4.out.1)] at x0 x1
            generalize hx : l.pt k = x at *
            obtain ⟨xm, xt⟩ := x
            have HX := Lib.hid hx
            clear hx
            simp only at x0 x1
            by_cases hr : Pts.rng (xm, xt) = true
            · have HR : Hid (E = 4) := by show _ = _; rw [← he.out]; exact Pts.at_rng (by rw [HN.out]; exact hlt) (by rw [HX.out]; exact hr)
              have hr' : xm < 100 ∨ 10000 < xm ∨ xt < 0 ∨ 3600000 < xt := by
                rcases Decidable.em (xm < 100 ∨ 10000 < xm ∨ xt < 0 ∨ 3600000 < xt) with h | h
                · exact h
                · rw [Pts.rng_no.2 (by simp only; omega)] at hr; cases hr
              clear hr
              have HB := Lib.hid hb
              clear hb
              go_wp2
              all_goals
                go_ret
                exact ⟨ret_i HR.out.symm, HB.out.alloc HB.out.size _⟩
            · simp only [Bool.not_eq_true] at hr
              have HR := Lib.hid hr
              obtain ⟨y1, y2, y3, y4⟩ := Pts.rng_no.1 hr
              simp only at y1 y2 y3 y4
              clear hr
              have HB := Lib.hid hb
              rcases Nat.eq_zero_or_pos k with h0 | h0
              · have HG : Hid (l.at_ (k + 1) = E) := by show _ = _; rw [← he.out]; exact (Pts.at_go (by rw [HN.out]; exact hlt) (by rw [HX.out]; exact HR.out) (Or.inl h0)).symm
                have g0 : decide (0 < k) = false := by simp [h0]
                clear hb
                have H0 := Lib.hid h0
                clear h0
                go_wp2
                go_quiet (fail)
                go_wp2
                go_roundw
                case rel => exact ⟨k + 1, by omega, by go_num, HG, below_drewN (HB.out.alloc HB.out.size _) _⟩
                case measure => simp [intOf]; omega
              · have z0 := (H4.out.2 (k - 1) (by rw [HN.out]; omega)).1
                have z1 := (H4.out.2 (k - 1) (by rw [HN.out]; omega)).2
                rw [← hb.cell (by exact H4.out.1)] at z0 z1
                generalize hz : l.pt (k - 1) = z at *
                obtain ⟨zm, zt⟩ := z
                have HZ := Lib.hid hz
                clear hz hb
                simp only at z0 z1
                have g0 : decide (0 < k) = true := by simp [h0]
                have hbl : b < wr.heap.size := Nat.lt_of_lt_of_le H4.out.1 HB.out.size
                have j0 : 0 ≤ (k : Int) - 1 := by omega
                have j3 : 1 ≤ (k : Int) := by omega
                have j1 : (k : Int) - 1 < n := by omega
                have j2 : ((k : Int) - 1).toNat = k - 1 := by omega
                have jw : IntKind.i64.wrap ((k : Int) - 1) = (k : Int) - 1 := IntWalk.i64_in _ (by omega)
                have JW := Lib.hid jw
                clear jw
                by_cases h7 : xm ≤ zm
                · have HG : Hid (E = 3) := by
                    show _ = _; rw [← he.out]
                    exact Pts.at_out (by rw [HN.out]; exact hlt) (by rw [HX.out]; exact HR.out) h0 (by rw [HX.out, HZ.out]; simp [Pts.out, h7])
                  have g1 : decide (xm ≤ zm) = true := decide_eq_true h7
                  clear h7
                  go_wp2
                  have jw := JW.out
                  refine wp_region_quiet_lit (by kernel_rfl) (by kernel_rfl) ?_
                  repeat (first | go_big_quiet_step (fail) | (go_big_quiet_want; go_simp; go_big_quiet_on))
                  refine wpQuiet_nil ?_
                  intro _ hw'
                  obtain ⟨nq, hw''⟩ := hw'
                  subst hw''
                  clear jw
                  go_wp2
                  go_ret
                  exact ⟨ret_i HG.out.symm, below_drewN (HB.out.alloc HB.out.size _) _⟩
                · have g1 : decide (xm ≤ zm) = false := decide_eq_false h7
                  by_cases h8 : zt < xt
                  · have HG : Hid (E = 3) := by
                      show _ = _; rw [← he.out]
                      exact Pts.at_out (by rw [HN.out]; exact hlt) (by rw [HX.out]; exact HR.out) h0 (by rw [HX.out, HZ.out]; simp [Pts.out, h8])
                    have g2 : decide (zt < xt) = true := decide_eq_true h8
                    clear h7 h8
                    go_wp2
                    have jw := JW.out
                    refine wp_region_quiet_lit (by kernel_rfl) (by kernel_rfl) ?_
                    repeat (first | go_big_quiet_step (fail) | (go_big_quiet_want; go_simp; go_big_quiet_on))
                    refine wpQuiet_nil ?_
                    intro _ hw'
                    obtain ⟨nq, hw''⟩ := hw'
                    subst hw''
                    clear jw
                    go_wp2
                    go_ret
                    exact ⟨ret_i HG.out.symm, below_drewN (HB.out.alloc HB.out.size _) _⟩
                  · have HG : Hid (l.at_ (k + 1) = E) := by
                      show _ = _; rw [← he.out]
                      exact (Pts.at_go (by rw [HN.out]; exact hlt) (by rw [HX.out]; exact HR.out) (Or.inr (by rw [HX.out, HZ.out]; simp [Pts.out]; omega))).symm
                    have g2 : decide (zt < xt) = false := decide_eq_false h8
                    clear h7 h8
                    go_wp2
                    have jw := JW.out
                    refine wp_region_quiet_lit (by kernel_rfl) (by kernel_rfl) ?_
                    repeat (first | go_big_quiet_step (fail) | (go_big_quiet_want; go_simp; go_big_quiet_on))
                    refine wpQuiet_nil ?_
                    intro _ hw'
                    obtain ⟨nq, hw''⟩ := hw'
                    subst hw''
                    clear jw
                    go_wp2
                    go_roundw
                    case rel => exact ⟨k + 1, by omega, by go_num, HG, below_drewN (HB.out.alloc HB.out.size _) _⟩
                    case measure => simp [intOf]; omega
          · have hk' : k = n := by omega
            have HR : Hid (E = 0) := by show _ = _; rw [← he.out, hk', ← HN.out]; exact Pts.at_end l
            have HB := Lib.hid hb
            clear hb
            go_wp2
            go_ret
            exact ⟨ret_i HR.out.symm, HB.out⟩
end Go.Proofs.Ytjkgkoedkphnjaa
