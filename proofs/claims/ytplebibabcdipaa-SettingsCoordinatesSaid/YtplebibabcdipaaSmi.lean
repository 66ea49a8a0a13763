/- SameInts. -/
import Derived.Test.YtplebibabcdipaaNetR
namespace Go.Proofs.Ytplebibabcdipaa
open Go.RowKit

set_option maxHeartbeats 1000000 in
theorem sameInts_c (va vb : Value) (la lb : List Int) (w : World) (ha : IVal w va la) (hb : IVal w vb lb) :
    Calls Try.prog 46 #[va, vb] w fun e w' => e = .returned (.bool (decide (la = lb))) ∧ Below w.heap.size w w' := by
  have bound : ∀ {v : Value} {l : List Int}, IVal w v l → l.length ≤ 9223372036854775807 := by
    intro v l h
    rcases h with ⟨h, _⟩ | ⟨_, _, _, _, _, h, _⟩
    · omega
    · exact h
  have ba := bound ha
  have bb := bound hb
  obtain ⟨aa, ca, rfl⟩ := ha.slice
  obtain ⟨ab, cb, rfl⟩ := hb.slice
  obtain ⟨n, hn⟩ : ∃ n, la.length = n := ⟨_, rfl⟩
  obtain ⟨m, hm⟩ : ∃ m, lb.length = m := ⟨_, rfl⟩
  have HA : Hid (Reads w (.slice aa n ca) n (ints la)) := by show Reads _ _ _ _; rw [← hn]; exact ha
  have HB : Hid (Reads w (.slice ab m cb) m (ints lb)) := by show Reads _ _ _ _; rw [← hm]; exact hb
  have HN := Lib.hid hn
  have HM := Lib.hid hm
  have HE : Hid (decide (la = lb) = decide (la = lb)) := rfl
  rw [hn] at ba ⊢
  rw [hm] at bb ⊢
  clear ha hb bound
  by_cases hnm : n = m
  · subst hnm
    have HI : Hid (∀ k, k ≤ n → la.take k = lb.take k → k = n → la = lb) := by
      intro k _ ht e
      rw [e] at ht
      rwa [List.take_of_length_le (by omega), List.take_of_length_le (by omega)] at ht
    have HF : Hid (∀ k, k < n → la.getD k 0 ≠ lb.getD k 0 → la ≠ lb) := by
      intro k _ hne e; exact hne (by rw [e])
    have HS : Hid (∀ k, k < n → la.take k = lb.take k → la.getD k 0 = lb.getD k 0 → la.take (k + 1) = lb.take (k + 1)) := by
      intro k hk ht he
      have q1 : k < la.length := by omega
      have q2 : k < lb.length := by omega
      rw [List.take_add_one, List.take_add_one, ht]
      congr 1
      simp [q1, q2] at he ⊢
      exact he
    generalize hE : decide (la = lb) = E at *
    have HEE := Lib.hid hE
    clear hE hn hm
    go_enter Try.func46, Try.ntmps46
    go_wp2_with fail
    go_loopw [13] (fun i wr => ∃ k : Nat, k ≤ n ∧ i = .int .i64 k ∧ la.take k = lb.take k ∧ Below w.heap.size w wr) (fun i _ => n - (intOf i).toNat)
    case atStart => exact ⟨0, Nat.zero_le _, rfl, rfl, Below.refl _ _⟩
    case round =>
      obtain ⟨k, hk, rfl, ht, hb⟩ := hrel
      by_cases hlt : k < n
      · obtain ⟨b1, o1, c1, hvv, _, _, hl1, hc1⟩ := HA.out.addr (by omega)
        simp only [Value.slice.injEq] at hvv
        obtain ⟨rfl, _, rfl⟩ := hvv
        obtain ⟨b2, o2, c2, hvv, _, _, hl2, hc2⟩ := HB.out.addr (by omega)
        simp only [Value.slice.injEq] at hvv
        obtain ⟨rfl, _, rfl⟩ := hvv
        have x1 := hc1 k _ (ints_get (by rw [HN.out]; exact hlt))
        have x2 := hc2 k _ (ints_get (by rw [HM.out]; exact hlt))
        rw [← hb.cell (by exact hl1)] at x1
        rw [← hb.cell (by exact hl2)] at x2
        have ws := hb.size
        have hf := HF.out k hlt
        have hs := HS.out k hlt ht
        generalize la.getD k 0 = p at *
        generalize lb.getD k 0 = q at *
        have HT := Lib.hid ht
        have HFk := Lib.hid hf
        have HSk := Lib.hid hs
        have HBw := Lib.hid hb
        clear ht hf hs hb hc1 hc2
        by_cases hpq : p = q
        · have g1 : (p != q) = false := by simp [hpq]
          have HP := Lib.hid hpq
          clear hpq
          go_wp2_with fail
          refine wp_region_quiet_lit (by kernel_rfl) (by kernel_rfl) ?_
          repeat (first | go_big_quiet_step (fail) | (go_big_quiet_want; go_simp; go_big_quiet_on))
          refine wpQuiet_nil ?_
          intro _ hw'
          obtain ⟨nq, hw''⟩ := hw'
          subst hw''
          go_wp2_with fail
          go_roundw
          case rel => exact ⟨k + 1, by omega, by go_num, HSk.out HP.out, below_drewN HBw.out _⟩
          case measure => simp [intOf]; omega
        · have g1 : (p != q) = true := by simp [hpq]
          have HP := Lib.hid hpq
          clear hpq
          go_wp2_with fail
          refine wp_region_quiet_lit (by kernel_rfl) (by kernel_rfl) ?_
          repeat (first | go_big_quiet_step (fail) | (go_big_quiet_want; go_simp; go_big_quiet_on))
          refine wpQuiet_nil ?_
          intro _ hw'
          obtain ⟨nq, hw''⟩ := hw'
          subst hw''
          go_wp2_with fail
          go_ret
          exact ⟨by rw [← HEE.out, decide_eq_false (HFk.out HP.out)]; rfl, below_drewN HBw.out _⟩
      · have HX := Lib.hid (HI.out k hk ht (by omega))
        have HBw := Lib.hid hb
        clear ht hb
        go_wp2_with fail
        go_ret
        exact ⟨by rw [← HEE.out, decide_eq_true HX.out]; rfl, HBw.out⟩
  · have HX : Hid (decide (la = lb) = false) := by show _ = _; apply decide_eq_false; intro e; rw [e, hm] at hn; exact hnm hn.symm
    generalize decide (la = lb) = E at *
    have g1 : ((n : Int) != m) = true := by simp; omega
    clear hnm hn hm
    go_enter Try.func46, Try.ntmps46
    go_wp2_with fail
    go_ret
    exact ⟨by rw [HX.out]; rfl, Below.refl _ _⟩
end Go.Proofs.Ytplebibabcdipaa
