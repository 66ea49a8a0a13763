/- SameInts, HasInt, dead, recloseWorks. -/
import Derived.Test.YtjkgkoedkphnjaaRec6
namespace Go.Proofs.Ytjkgkoedkphnjaa
open Go.RowKit

theorem Reads.drewN {w w' : World} {v : Value} {n : Nat} {cs : List Value} (h : Reads w v n cs) (k : Below w.heap.size w w') : Reads w' v n cs := h.below k

set_option maxHeartbeats 1000000 in
theorem sameInts_c (va vb : Value) (la lb : List Int) (w : World) (ha : IVal w va la) (hb : IVal w vb lb) :
    Calls Try.prog 26 #[va, vb] w fun e w' => e = .returned (.bool (decide (la = lb))) ∧ Below w.heap.size w w' := by
  have bound : ∀ {v : Value} {l : List Int}, IVal w v l → l.length ≤ 9223372036854775807 := by
    intro v l h
    rcases h with ⟨h, _⟩ | ⟨_, _, _, _, _, h, _⟩
    · omega
    · exact h
  have ba := bound ha
  have bb := bound hb
  obtain ⟨aa, ca, rfl⟩ := ha.slice
  obtain ⟨ab, cb, rfl⟩ := hb.slice
  obtain ⟨n, hn⟩ : ∃ n, la.length = n := ⟨_, rfl⟩
  obtain ⟨m, hm⟩ : ∃ m, lb.length = m := ⟨_, rfl⟩
  have HA : Hid (Reads w (.slice aa n ca) n (ints la)) := by show Reads _ _ _ _; rw [← hn]; exact ha
  have HB : Hid (Reads w (.slice ab m cb) m (ints lb)) := by show Reads _ _ _ _; rw [← hm]; exact hb
  have HN := Lib.hid hn
  have HM := Lib.hid hm
  have HE : Hid (decide (la = lb) = decide (la = lb)) := rfl
  rw [hn] at ba ⊢
  rw [hm] at bb ⊢
  clear ha hb bound
  by_cases hnm : n = m
  · subst hnm
    have HI : Hid (∀ k, k ≤ n → la.take k = lb.take k → k = n → la = lb) := by
      intro k _ ht e
      rw [e] at ht
      rwa [List.take_of_length_le (by omega), List.take_of_length_le (by omega)] at ht
    have HF : Hid (∀ k, k < n → la.getD k 0 ≠ lb.getD k 0 → la ≠ lb) := by
      intro k _ hne e; exact hne (by rw [e])
    have HS : Hid (∀ k, k < n → la.take k = lb.take k → la.getD k 0 = lb.getD k 0 → la.take (k + 1) = lb.take (k + 1)) := by
      intro k hk ht he
      have q1 : k < la.length := by omega
      have q2 : k < lb.length := by omega
      rw [List.take_add_one, List.take_add_one, ht]
      congr 1
      simp [q1, q2] at he ⊢
      exact he
    generalize hE : decide (la = lb) = E at *
    have HEE := Lib.hid hE
    clear hE hn hm
    go_enter Try.func26, Try.ntmps26
    go_wp2_with fail
    go_loopw [13] (fun i wr => ∃ k : Nat, k ≤ n ∧ i = .int .i64 k ∧ la.take k = lb.take k ∧ Below w.heap.size w wr) (fun i _ => n - (intOf i).toNat)
    case atStart => exact ⟨0, Nat.zero_le _, rfl, rfl, Below.refl _ _⟩
    case round =>
      obtain ⟨k, hk, rfl, ht, hb⟩ := hrel
      by_cases hlt : k < n
      · obtain ⟨b1, o1, c1, hvv, _, _, hl1, hc1⟩ := HA.out.addr (by omega)
        simp only [Value.slice.injEq] at hvv
        obtain ⟨rfl, _, rfl⟩ := hvv
        obtain ⟨b2, o2, c2, hvv, _, _, hl2, hc2⟩ := HB.out.addr (by omega)
        simp only [Value.slice.injEq] at hvv
        obtain ⟨rfl, _, rfl⟩ := hvv
        have x1 := hc1 k _ (ints_get (by rw [HN.out]; exact hlt))
        have x2 := hc2 k _ (ints_get (by rw [HM.out]; exact hlt))
        rw [← hb.cell (by exact hl1)] at x1
        rw [← hb.cell (by exact hl2)] at x2
        have ws := hb.size
        have hf := HF.out k hlt
        have hs := HS.out k hlt ht
        generalize la.getD k 0 = p at *
        generalize lb.getD k 0 = q at *
        have HT := Lib.hid ht
        have HFk := Lib.hid hf
        have HSk := Lib.hid hs
        have HBw := Lib.hid hb
        clear ht hf hs hb hc1 hc2
        by_cases hpq : p = q
        · have g1 : (p != q) = false := by simp [hpq]
          have HP := Lib.hid hpq
          clear hpq
          go_wp2_with fail
          refine wp_region_quiet_lit (by kernel_rfl) (by kernel_rfl) ?_
          repeat (first | go_big_quiet_step (fail) | (go_big_quiet_want; go_simp; go_big_quiet_on))
          refine wpQuiet_nil ?_
          intro _ hw'
          obtain ⟨nq, hw''⟩ := hw'
          subst hw''
          go_wp2_with fail
          go_roundw
          case rel => exact ⟨k + 1, by omega, by go_num, HSk.out HP.out, below_drewN HBw.out _⟩
          case measure => simp [intOf]; omega
        · have g1 : (p != q) = true := by simp [hpq]
          have HP := Lib.hid hpq
          clear hpq
          go_wp2_with fail
          refine wp_region_quiet_lit (by kernel_rfl) (by kernel_rfl) ?_
          repeat (first | go_big_quiet_step (fail) | (go_big_quiet_want; go_simp; go_big_quiet_on))
          refine wpQuiet_nil ?_
          intro _ hw'
          obtain ⟨nq, hw''⟩ := hw'
          subst hw''
          go_wp2_with fail
          go_ret
          exact ⟨by rw [← HEE.out, decide_eq_false (HFk.out HP.out)]; rfl, below_drewN HBw.out _⟩
      · have HX := Lib.hid (HI.out k hk ht (by omega))
        have HBw := Lib.hid hb
        clear ht hb
        go_wp2_with fail
        go_ret
        exact ⟨by rw [← HEE.out, decide_eq_true HX.out]; rfl, HBw.out⟩
  · have HX : Hid (decide (la = lb) = false) := by show _ = _; apply decide_eq_false; intro e; rw [e, hm] at hn; exact hnm hn.symm
    generalize decide (la = lb) = E at *
    have g1 : ((n : Int) != m) = true := by simp; omega
    clear hnm hn hm
    go_enter Try.func26, Try.ntmps26
    go_wp2_with fail
    go_ret
    exact ⟨by rw [HX.out]; rfl, Below.refl _ _⟩

set_option maxHeartbeats 1000000 in
theorem hasInt_c (v : Value) (l : List Int) (x : Int) (w : World) (hv : IVal w v l) :
    Calls Try.prog 27 #[v, .int .i64 x] w fun e w' => e = .returned (.bool (decide (x ∈ l))) ∧ w = w' := by
  obtain ⟨a, cap, rfl⟩ := hv.slice
  have hn0 : l.length ≤ 9223372036854775807 := by
    rcases hv with ⟨h, _⟩ | ⟨_, _, _, _, _, h, _⟩
    · omega
    · exact h
  obtain ⟨n, hn⟩ : ∃ n, l.length = n := ⟨_, rfl⟩
  have HV : Hid (Reads w (.slice a n cap) n (ints l)) := by show Reads _ _ _ _; rw [← hn]; exact hv
  have HN := Lib.hid hn
  have HS : Hid (∀ k, k < n → x ∉ l.take k → l.getD k 0 ≠ x → x ∉ l.take (k + 1)) := by
    intro k hk h1 h2 h3
    have q : k < l.length := by omega
    rw [List.take_add_one, List.mem_append] at h3
    rcases h3 with h3 | h3
    · exact h1 h3
    · simp [q] at h3 h2
      exact h2 h3.symm
  have HF : Hid (∀ k, k < n → l.getD k 0 = x → decide (x ∈ l) = true) := by
    intro k hk h
    have q : k < l.length := by omega
    simp [q] at h
    rw [← h]; exact decide_eq_true (List.getElem_mem _)
  have HE : Hid (x ∉ l.take n → decide (x ∈ l) = false) := by
    intro h; rw [List.take_of_length_le (by omega)] at h; exact decide_eq_false h
  rw [hn] at hn0 ⊢
  clear hv hn
  generalize decide (x ∈ l) = E at *
  go_enter Try.func27, Try.ntmps27
  go_wp2_with fail
  go_loopw [9] (fun i wr => ∃ k : Nat, k ≤ n ∧ i = .int .i64 k ∧ x ∉ l.take k ∧ w = wr) (fun i _ => n - (intOf i).toNat)
  case atStart => exact ⟨0, Nat.zero_le _, rfl, by simp, rfl⟩
  case round =>
    obtain ⟨k, hk, rfl, ht, rfl⟩ := hrel
    by_cases hlt : k < n
    · obtain ⟨b1, o1, c1, hvv, _, _, hl1, hc1⟩ := HV.out.addr (by omega)
      simp only [Value.slice.injEq] at hvv
      obtain ⟨rfl, _, rfl⟩ := hvv
      have x1 := hc1 k _ (ints_get (by rw [HN.out]; exact hlt))
      have hf := Lib.hid (HF.out k hlt)
      have hs := Lib.hid (HS.out k hlt ht)
      generalize l.getD k 0 = p at *
      clear ht hc1
      by_cases hpq : p = x
      · have g1 : (p == x) = true := by simp [hpq]
        have HP := Lib.hid (hf.out hpq)
        clear hpq hs hf
        go_wp2_with fail
        go_ret
        exact ⟨by rw [HP.out]; rfl, rfl⟩
      · have g1 : (p == x) = false := by simp [hpq]
        have HP := Lib.hid (hs.out hpq)
        clear hpq hs hf
        go_wp2_with fail
        go_roundw
        case rel => exact ⟨k + 1, by omega, by go_num, HP.out, by first | rfl | trivial⟩
        case measure => simp [intOf]; omega
    · have hkn : k = n := by omega
      subst hkn
      have HP := Lib.hid (HE.out ht)
      clear ht
      go_wp2_with fail
      go_ret
      exact ⟨by rw [HP.out]; rfl, rfl⟩

theorem owns_two {w : World} {b : Nat} {x y : Int} {t : TypeId} (h : Blk w b #[.int .i64 x, .int .i64 y] t) : IVal w (.slice (some ⟨b, 0, none⟩) 2 2) [x, y] :=
  Or.inr ⟨b, 0, 2, rfl, Nat.le_refl _, by simp, h.lt, fun j u hj => by rw [Nat.zero_add]; exact h.cell j (by simpa [ints] using hj)⟩
theorem owns_three {w : World} {b : Nat} {x y z : Int} {t : TypeId} (h : Blk w b #[.int .i64 x, .int .i64 y, .int .i64 z] t) : IVal w (.slice (some ⟨b, 0, none⟩) 3 3) [x, y, z] :=
  Or.inr ⟨b, 0, 3, rfl, Nat.le_refl _, by simp, h.lt, fun j u hj => by rw [Nat.zero_add]; exact h.cell j (by simpa [ints] using hj)⟩

set_option maxHeartbeats 1000000 in
theorem dead_c (w : World) : Calls Try.prog 43 #[] w fun e w' => ∃ a c, e = .returned (.agg #[.slice a 2 c, .int .i64 5000]) ∧ IVal w' (.slice a 2 c) [300, 1000] ∧ Below w.heap.size w w' := by
  go_enter Try.func43, Try.ntmps43
  go_wp2
  have b1 := (Blk.new w #[.slice (some ⟨w.heap.size + 1, 0, none⟩) 2 2, .int .i64 5000] 41).alloc (.cells #[.int .i64 300, .int .i64 1000] 3)
  have c0 := b1.cell 0 rfl
  have c1 := b1.cell 1 rfl
  exact bodyPost_ret (v := .agg #[.slice (some ⟨w.heap.size + 1, 0, none⟩) 2 2, .int .i64 5000]) (by simp [results, Try.results43, go_sem, c0, c1]) rfl ⟨_, _, rfl, owns_two (Blk.new2 _ _ _ _), belowA (belowA (Below.refl _ w) _) _⟩

theorem rw1 : shotsR [300, 1000] 5000 [0, 400, 2000] = ([300, 1400], 3, 0) := by decide +kernel
theorem rw2 : recE [300, 1000] 5000 = 0 := by decide +kernel
def r1s : RS := ((RS.fresh 5000).trip [300, 1000] 5).2.2
theorem rw3 : (RS.fresh 5000).trip [300, 1000] 5 = (0, 0, r1s) := rfl
theorem rw4 : ((r1s.tick 305).1, (r1s.tick 305).2.1) = (1, 0) := by decide +kernel
theorem rw5 : r1s.state = 1 ∧ r1s.til = 305 := by decide +kernel

set_option maxHeartbeats 2000000 in
/-- The fixed example of chapter 32 holds. -/
theorem recloseWorks_c (w : World) : Calls Try.prog 23 #[] w fun e w' => e = .returned (.bool true) ∧ Below w.heap.size w w' := by
  go_enter Try.func23, Try.ntmps23
  go_wp2_with fail
  refine (dead_c _).mono ?_; rintro e w1 ⟨a1, c1, rfl, h1, hb1⟩
  have HS := Lib.hid (shots_c (.slice a1 2 c1) (.slice (some ⟨w1.heap.size, 0, none⟩) 3 3) [300, 1000] 5000 [0, 400, 2000] _ (h1.below (belowA (Below.refl _ w1) (.cells #[.int .i64 0, .int .i64 400, .int .i64 2000] 3))) (owns_three (Blk.new _ _ _)))
  rw [rw1] at HS
  have HB1 := Lib.hid (belowA hb1 (.cells #[.int .i64 0, .int .i64 400, .int .i64 2000] 3))
  clear h1 hb1
  go_wp2_with fail
  refine HS.out.mono ?_; rintro e w2 ⟨v2, rfl, h2, hb2⟩
  have HV2 := Lib.hid h2
  obtain ⟨a2, c2, rfl⟩ := h2.slice
  have HB2 := Lib.hid (belowT HB1.out hb2)
  clear h2 hb2 HS HB1
  go_wp2_with fail
  refine (dead_c _).mono ?_; rintro e w3 ⟨a3, c3, rfl, h3, hb3⟩
  have HN := Lib.hid (rnew_ok (.slice a3 2 c3) [300, 1000] 5000 w3 h3 rw2)
  have HV3 := Lib.hid (HV2.out.below hb3)
  have HB3 := Lib.hid (belowT HB2.out hb3)
  clear h3 hb3 HV2 HB2
  go_wp2_with fail
  refine HN.out.mono ?_; rintro e w4 ⟨b, rfl, hb0, hdev, hb4⟩
  have HV4 := Lib.hid (HV3.out.below hb4)
  have HB4 := Lib.hid (belowT HB3.out hb4)
  have hwb : w.heap.size ≤ b := Nat.le_trans HB3.out.size hb0
  have HD4 := Lib.hid hdev
  have HS4 : Hid _ := Lib.hid (sameInts_c (.slice a2 2 c2) (.slice (some ⟨w4.heap.size, 0, none⟩) 2 2) [300, 1400] [300, 1400] (w4.alloc (.cells #[.int .i64 300, .int .i64 1400] 3)) (HV4.out.below (belowA (Below.refl _ w4) _)) (owns_two (Blk.new _ _ _)))
  rw [show decide (([300, 1400] : List Int) = [300, 1400]) = true from by decide] at HS4
  clear hb4 hdev HV3 HB3 hb0 HN
  go_wp2_with fail
  refine HS4.out.mono ?_; rintro e w5 ⟨rfl, hb5⟩
  have hb45 : Below w4.heap.size w4 w5 := belowT (belowA (Below.refl _ w4) _) hb5
  have HB5 := Lib.hid (belowT HB4.out hb45)
  have HD5 := Lib.hid (HD4.out.below hb45)
  have HT := Lib.hid (rtrip_c w4.heap.size b [300, 1000] (RS.fresh 5000) 5 w5 HD5.out)
  rw [rw3] at HT
  clear hb5 hb45 HD4 HV4 HB4 HS4
  go_wp2_with fail
  refine HT.out.mono ?_; rintro e w6 ⟨rfl, hg6⟩
  have HD6 := Lib.hid hg6.1
  have HB6 : Hid (Below w.heap.size w w6) := But.below HB5.out hg6.2 hwb (Nat.le_refl _)
  have hd6 := hg6.1
  obtain ⟨g, off, cap, hblk, _⟩ := hd6
  have HNx := Lib.hid (rnext_c _ r1s b w6 hblk)
  rw [if_pos rw5.1, rw5.2, show (r1s.state == 1) = true from by rw [rw5.1]; rfl] at HNx
  have HTk := Lib.hid (rtick_c w4.heap.size b [300, 1000] r1s 305 w6 HD6.out (fun _ => by decide +kernel))
  rw [show (r1s.tick 305).1 = 1 from congrArg Prod.fst rw4, show (r1s.tick 305).2.1 = 0 from congrArg Prod.snd rw4] at HTk
  generalize (r1s.tick 305).2.2 = s2 at *
  clear hg6 hblk HD5 HB5 HT HD6
  go_wp2_with fail
  refine HNx.out.mono ?_; rintro e w7 ⟨rfl, rfl⟩
  go_wp2_with fail
  refine HTk.out.mono ?_; rintro e w8 ⟨rfl, hg8⟩
  have HB8 : Hid (Below w.heap.size w w8) := But.below HB6.out hg8.2 hwb (Nat.le_refl _)
  clear hg8
  go_wp2_with fail
  go_ret
  exact ⟨rfl, HB8.out⟩
end Go.Proofs.Ytjkgkoedkphnjaa
