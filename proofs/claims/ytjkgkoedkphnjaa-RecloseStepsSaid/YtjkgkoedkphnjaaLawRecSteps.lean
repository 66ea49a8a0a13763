/- The law RecloseSteps: for every input; no condition. -/
import Derived.Test.YtjkgkoedkphnjaaStepsP
namespace Go.Proofs.Ytjkgkoedkphnjaa
open Go.RowKit

theorem Reads.take {w : World} {a : Option Addr} {n cap : Nat} {l : List Int} (h : Reads w (.slice a n cap) n (ints l)) (hn : l.length = n) (k : Nat) (hk : k ≤ n) : Reads w (.slice a k cap) k (ints (l.take k)) := by
  rcases h with ⟨rfl, _, _⟩ | ⟨b, off, cap', hv, h1, h2, h3, h4⟩
  · obtain rfl : k = 0 := by omega
    exact Or.inl ⟨rfl, by simp [ints], _, _, rfl⟩
  · cases hv
    refine Or.inr ⟨b, off, cap, rfl, by omega, by omega, h3, fun j u hj => h4 j u ?_⟩
    unfold ints at hj ⊢
    rw [List.map_take] at hj
    rw [List.getElem?_take] at hj
    split at hj
    · exact hj
    · cases hj


theorem dead_ok (l : List Int) (rc : Int) (ts : List Int) : (shotsR l rc ts).2.2 = 0 → ∀ k, k < l.length → 1 ≤ l.getD k 0 ∧ l.getD k 0 ≤ 600000 := by
  intro h
  unfold shotsR at h
  split at h
  · rename_i h'; exact absurd h h'
  rename_i h0
  exact (recE_ok (rc := rc) (by omega)).2.2.2.2

set_option maxRecDepth 100000 in
set_option maxHeartbeats 4000000 in
theorem steps_walk (v : Value) (l : List Int) (rc : Int) (tv : Value) (ts : List Int) (w : World) (hv : IVal w v l) (htv : IVal w tv ts) :
    Calls Try.prog 7 #[.agg #[v, .int .i64 rc], tv] w fun e w' => e = .returned (.bool true) ∧ Below w.heap.size w w' := by
  obtain ⟨a, cap, rfl⟩ := hv.slice
  obtain ⟨ta, tcap, rfl⟩ := htv.slice
  have hm0 : ts.length ≤ 9223372036854775807 := by
    rcases htv with ⟨h, _⟩ | ⟨_, _, _, _, _, h, _⟩
    · omega
    · exact h
  obtain ⟨n, hN⟩ : ∃ n, l.length = n := ⟨_, rfl⟩
  obtain ⟨m, hM⟩ : ∃ m, ts.length = m := ⟨_, rfl⟩
  have HN := Lib.hid hN
  have HV : Hid (Reads w (.slice a n cap) n (ints l)) := by show Reads _ _ _ _; rw [← hN]; exact hv
  have HT0 : Hid (Reads w (.slice ta m tcap) m (ints ts)) := by show Reads _ _ _ _; rw [← hM]; exact htv
  rw [hM] at hm0
  have hcapm : m ≤ tcap ∨ m = 0 := by
    rcases HT0.out with ⟨h, _⟩ | ⟨_, _, _, hv, h, _⟩
    · exact Or.inr h
    · cases hv; exact Or.inl h
  have hn0 : n ≤ 9223372036854775807 := by
    rcases HV.out with ⟨h, _⟩ | ⟨_, _, _, _, _, h, _⟩
    · omega
    · exact h
  obtain ⟨k, hk⟩ : ∃ k, (if m ≤ 12 then m else 12) = k := ⟨_, rfl⟩
  have hkm : k ≤ m := by split at hk <;> omega
  have HT : Hid (Reads w (.slice ta k tcap) k (ints (ts.take k))) := HT0.out.take hM k hkm
  have HK : Hid ((ts.take k).length = k) := by show _ = _; rw [List.length_take]; omega
  have HG := Lib.hid (shots_good l rc (ts.take k))
  have HD : Hid ((shotsR l rc (ts.take k)).2.2 = 0 ∨ False → ∀ k, k < l.length → 1 ≤ l.getD k 0 ∧ l.getD k 0 ≤ 600000) := fun h => dead_ok l rc _ (h.resolve_right id)
  generalize hts : ts.take k = ts' at *
  have HS : Hid (∀ W, Below w.heap.size w W → Calls Try.prog 25 #[.agg #[.slice a n cap, .int .i64 rc], .slice ta k tcap] W fun e w' => ShotsIs (shotsR l rc ts') W e w') := fun W hW =>
    shots_c _ _ l rc ts' W (by show Reads _ _ _ _; rw [HN.out]; exact HV.out.below hW) (by show Reads _ _ _ _; rw [HK.out]; exact HT.out.below hW)
  generalize shotsR l rc ts' = R at *
  rw [hN, hM]
  clear hv htv hN hM hts HT0
  have k12 : k ≤ 12 := by split at hk <;> omega
  by_cases h12 : m ≤ 12
  · rw [if_pos h12] at hk
    have hk' := hk.symm
    clear hk
    subst hk'
    clear hkm
    go_enter Try.func7, Try.ntmps7
    go_wp2_with fail
    refine (recloseWorks_c _).mono ?_; rintro e w1 ⟨rfl, b1⟩
    have B1 := Lib.hid (belowT (belowA (Below.refl _ w) (.cells #[.slice a n cap, .int .i64 rc] 41)) b1)
    have k1 := below_blk b1 (Blk.new w #[.slice a n cap, .int .i64 rc] 41) (by simp)
    have x0 : w1.cell? ⟨w.heap.size, 0, none⟩ = some (.slice a n cap) := k1.cell 0 rfl
    have x1 : w1.cell? ⟨w.heap.size, 1, none⟩ = some (.int .i64 rc) := k1.cell 1 rfl
    have K1 := Lib.hid k1
    clear b1 k1
    go_wp2_with fail
    refine (HS.out _ B1.out).mono ?_; rintro e w2 ⟨v2, rfl, h2, b2⟩
    obtain ⟨a2, c2, rfl⟩ := h2.slice
    obtain ⟨o, lk, er⟩ := R
    simp only at h2 ⊢
    obtain ⟨q, hq⟩ : ∃ q, o.length = q := ⟨_, rfl⟩
    have HO : Hid (Reads w2 (.slice a2 q c2) q (ints o)) := by show Reads _ _ _ _; rw [← hq]; exact h2
    have HQ := Lib.hid hq
    rw [hq]
    have B2 := Lib.hid (belowT B1.out b2)
    have k2 := below_blk b2 K1.out K1.out.lt
    have x0 : w2.cell? ⟨w.heap.size, 0, none⟩ = some (.slice a n cap) := k2.cell 0 rfl
    have lw2 := K1.out.lt
    have lw3 := b2.size
    clear b2 k2 K1 h2 hq HS
    by_cases he : er = 0
    · subst he
      have HDd : Hid (∀ k, k < l.length → 1 ≤ l.getD k 0 ∧ l.getD k 0 ≤ 600000) := HD.out (.inl rfl)
      have lk0 := HG.out.lk0 rfl
      have lk1 := HG.out.lk1 rfl
      have ql := HG.out.len rfl
      have fin := HG.out.fin rfl
      have HE := Lib.hid (HG.out.each rfl)
      simp only at lk0 lk1 ql fin
      rw [HK.out] at lk1 ql fin
      rw [HQ.out] at ql fin
      rw [HN.out] at fin
      have FIN := Lib.hid fin
      have g1 : decide (lk < 0) = false := decide_eq_false (by omega)
      have g2 : decide ((k : Int) < lk) = false := decide_eq_false (by omega)
      have g3 : decide ((k : Int) < (q : Int)) = false := decide_eq_false (by omega)
      clear fin
      go_wp2_with fail
      go_loopw [50] (fun i wr => ∃ j : Nat, j ≤ q ∧ i = .int .i64 j ∧ Below w2.heap.size w2 wr) (fun i _ => q - (intOf i).toNat)
      case atStart => exact ⟨0, Nat.zero_le _, rfl, Below.refl _ _⟩
      case round =>
        obtain ⟨j, hj, rfl, hb⟩ := hrel
        have HB := Lib.hid hb
        have x0 : wr.cell? ⟨w.heap.size, 0, none⟩ = some (.slice a n cap) := by rw [hb.cell (by show w.heap.size < _; omega)]; exact x0
        have lw4 := hb.size
        by_cases hlt : j < q
        · obtain ⟨b3, o3, c3, hvv, _, _, hl3, hc3⟩ := HO.out.addr (by omega)
          simp only [Value.slice.injEq] at hvv
          obtain ⟨rfl, _, rfl⟩ := hvv
          obtain ⟨b4, o4, c4, hvv, _, _, hl4, hc4⟩ := HT.out.addr (by omega)
          simp only [Value.slice.injEq] at hvv
          obtain ⟨rfl, _, rfl⟩ := hvv
          have y0 := hc3 j _ (ints_get (by rw [HQ.out]; exact hlt))
          have y1 := hc4 j _ (ints_get (by rw [HK.out]; omega))
          rw [← hb.cell (by exact hl3)] at y0
          rw [← (belowT B2.out hb).cell (by exact hl4)] at y1
          obtain ⟨f, f1, f2, f3, f4⟩ := HE.out j (by show j < o.length; rw [HQ.out]; exact hlt)
          obtain ⟨d1, d2⟩ := HDd.out f f1
          have hmem : l.getD f 0 ∈ l := by simp [f1]
          generalize l.getD f 0 = D at *
          generalize o.getD j 0 = Z at *
          generalize ts'.getD j 0 = T at *
          have gw : IntKind.i64.wrap (Z - T) = Z - T := IntWalk.i64_in _ (by omega)
          have gd : decide (Z - T < 1) = false := decide_eq_false (by omega)
          have HW : Hid (Below w.heap.size w wr) := belowT B2.out hb
          have HI : Hid (∀ nd, Calls Try.prog 27 #[.slice a n cap, .int .i64 (Z - T)] (wr.drewN nd) fun e w'' => e = .returned (.bool true) ∧ ∃ md, w'' = wr.drewN md) := fun nd => by
            have := hasInt_c (.slice a n cap) l (Z - T) (wr.drewN nd) (by show Reads _ _ _ _; rw [HN.out]; exact HV.out.below (below_drewN HW.out nd))
            rw [decide_eq_true (by rw [show Z - T = D by omega]; exact hmem)] at this
            exact Calls.quiet_of_same (this.mono fun e w' h => ⟨h.1, h.2.symm⟩)
          have F2 := Lib.hid f2
          clear f2
          have lw5 : b4 < wr.heap.size := by have := HW.out.size; omega
          have lw6 : w.heap.size < wr.heap.size := by omega
          have HF4 := Lib.hid f4
          clear hb hc3 hc4 hmem
          go_wp2_with fail
          refine wp_region_quiet_lit (by kernel_rfl) (by kernel_rfl) ?_
          repeat (first | go_big_quiet_step ((exact HI.out _)) | (go_big_quiet_want; go_simp; go_big_quiet_on))
          refine wpQuiet_nil ?_
          intro _ hw'
          obtain ⟨nq, hw''⟩ := hw'
          subst hw''
          go_wp2_with fail
          go_roundw
          case rel => exact ⟨j + 1, by omega, by go_num, below_drewN HB.out nq⟩
          case measure => simp [intOf]; omega
        · have HW : Hid (Below w.heap.size w wr) := belowT B2.out hb
          clear hb
          have wq : IntKind.i64.wrap ((q : Int) + 1) = (q : Int) + 1 := IntWalk.i64_in _ (by omega)
          rcases FIN.out with ⟨e1, e2⟩ | ⟨e1, e2, e3⟩
          · have ge : (lk == 0) = true := by simp [e1]
            rcases e2 with e2 | e2
            · have gq : ((q : Int) == (k : Int)) = true := by simp; omega
              clear e1 e2
              go_wp2_with fail
              go_ret
              exact ⟨rfl, HW.out⟩
            · have gq : ((q : Int) == (k : Int)) = false := by simp; omega
              have gr : ((q : Int) + 1 == (k : Int)) = true := by simp; omega
              clear e1 e2
              go_wp2_with fail
              go_ret
              exact ⟨rfl, HW.out⟩
          · have ge : (lk == 0) = false := by simp [e1]
            have gq : (lk == (q : Int) + 1) = true := by simp [e2]
            have gr : decide (n ≤ q) = true := decide_eq_true e3
            clear e1 e2 e3
            go_wp2_with fail
            go_ret
            exact ⟨rfl, HW.out⟩
    · obtain ⟨e1, e2⟩ := HG.out.bad he
      simp only at e1 e2
      have hq0 : q = 0 := by rw [← HQ.out, e1]; rfl
      have ge : (er != 0) = true := by simp [he]
      have gl : (lk == 0) = true := by simp [e2]
      have gq : ((q : Int) == 0) = true := by simp [hq0]
      clear e1 e2 hq0 he
      go_wp2_with fail
      go_ret
      exact ⟨rfl, B2.out⟩
  · rw [if_neg h12] at hk
    subst hk
    have h12' : (12 : Int) < m := by omega
    have h12t : 12 ≤ tcap := by omega
    go_enter Try.func7, Try.ntmps7
    go_wp2_with fail
    refine (recloseWorks_c _).mono ?_; rintro e w1 ⟨rfl, b1⟩
    have B1 := Lib.hid (belowT (belowA (Below.refl _ w) (.cells #[.slice a n cap, .int .i64 rc] 41)) b1)
    have k1 := below_blk b1 (Blk.new w #[.slice a n cap, .int .i64 rc] 41) (by simp)
    have x0 : w1.cell? ⟨w.heap.size, 0, none⟩ = some (.slice a n cap) := k1.cell 0 rfl
    have x1 : w1.cell? ⟨w.heap.size, 1, none⟩ = some (.int .i64 rc) := k1.cell 1 rfl
    have K1 := Lib.hid k1
    clear b1 k1
    go_wp2_with fail
    refine (HS.out _ B1.out).mono ?_; rintro e w2 ⟨v2, rfl, h2, b2⟩
    obtain ⟨a2, c2, rfl⟩ := h2.slice
    obtain ⟨o, lk, er⟩ := R
    simp only at h2 ⊢
    obtain ⟨q, hq⟩ : ∃ q, o.length = q := ⟨_, rfl⟩
    have HO : Hid (Reads w2 (.slice a2 q c2) q (ints o)) := by show Reads _ _ _ _; rw [← hq]; exact h2
    have HQ := Lib.hid hq
    rw [hq]
    have B2 := Lib.hid (belowT B1.out b2)
    have k2 := below_blk b2 K1.out K1.out.lt
    have x0 : w2.cell? ⟨w.heap.size, 0, none⟩ = some (.slice a n cap) := k2.cell 0 rfl
    have lw2 := K1.out.lt
    have lw3 := b2.size
    clear b2 k2 K1 h2 hq HS
    by_cases he : er = 0
    · subst he
      have HDd : Hid (∀ k, k < l.length → 1 ≤ l.getD k 0 ∧ l.getD k 0 ≤ 600000) := HD.out (.inl rfl)
      have lk0 := HG.out.lk0 rfl
      have lk1 := HG.out.lk1 rfl
      have ql := HG.out.len rfl
      have fin := HG.out.fin rfl
      have HE := Lib.hid (HG.out.each rfl)
      simp only at lk0 lk1 ql fin
      rw [HK.out] at lk1 ql fin
      rw [HQ.out] at ql fin
      rw [HN.out] at fin
      have FIN := Lib.hid fin
      have g1 : decide (lk < 0) = false := decide_eq_false (by omega)
      have g2 : decide ((12 : Int) < lk) = false := decide_eq_false (by omega)
      have g3 : decide ((12 : Int) < (q : Int)) = false := decide_eq_false (by omega)
      clear fin
      go_wp2_with fail
      go_loopw [50] (fun i wr => ∃ j : Nat, j ≤ q ∧ i = .int .i64 j ∧ Below w2.heap.size w2 wr) (fun i _ => q - (intOf i).toNat)
      case atStart => exact ⟨0, Nat.zero_le _, rfl, Below.refl _ _⟩
      case round =>
        obtain ⟨j, hj, rfl, hb⟩ := hrel
        have HB := Lib.hid hb
        have x0 : wr.cell? ⟨w.heap.size, 0, none⟩ = some (.slice a n cap) := by rw [hb.cell (by show w.heap.size < _; omega)]; exact x0
        have lw4 := hb.size
        by_cases hlt : j < q
        · obtain ⟨b3, o3, c3, hvv, _, _, hl3, hc3⟩ := HO.out.addr (by omega)
          simp only [Value.slice.injEq] at hvv
          obtain ⟨rfl, _, rfl⟩ := hvv
          obtain ⟨b4, o4, c4, hvv, _, _, hl4, hc4⟩ := HT.out.addr (by omega)
          simp only [Value.slice.injEq] at hvv
          obtain ⟨rfl, _, rfl⟩ := hvv
          have y0 := hc3 j _ (ints_get (by rw [HQ.out]; exact hlt))
          have y1 := hc4 j _ (ints_get (by rw [HK.out]; omega))
          rw [← hb.cell (by exact hl3)] at y0
          rw [← (belowT B2.out hb).cell (by exact hl4)] at y1
          obtain ⟨f, f1, f2, f3, f4⟩ := HE.out j (by show j < o.length; rw [HQ.out]; exact hlt)
          obtain ⟨d1, d2⟩ := HDd.out f f1
          have hmem : l.getD f 0 ∈ l := by simp [f1]
          generalize l.getD f 0 = D at *
          generalize o.getD j 0 = Z at *
          generalize ts'.getD j 0 = T at *
          have gw : IntKind.i64.wrap (Z - T) = Z - T := IntWalk.i64_in _ (by omega)
          have gd : decide (Z - T < 1) = false := decide_eq_false (by omega)
          have HW : Hid (Below w.heap.size w wr) := belowT B2.out hb
          have HI : Hid (∀ nd, Calls Try.prog 27 #[.slice a n cap, .int .i64 (Z - T)] (wr.drewN nd) fun e w'' => e = .returned (.bool true) ∧ ∃ md, w'' = wr.drewN md) := fun nd => by
            have := hasInt_c (.slice a n cap) l (Z - T) (wr.drewN nd) (by show Reads _ _ _ _; rw [HN.out]; exact HV.out.below (below_drewN HW.out nd))
            rw [decide_eq_true (by rw [show Z - T = D by omega]; exact hmem)] at this
            exact Calls.quiet_of_same (this.mono fun e w' h => ⟨h.1, h.2.symm⟩)
          have F2 := Lib.hid f2
          clear f2
          have lw5 : b4 < wr.heap.size := by have := HW.out.size; omega
          have lw6 : w.heap.size < wr.heap.size := by omega
          have HF4 := Lib.hid f4
          clear hb hc3 hc4 hmem
          go_wp2_with fail
          refine wp_region_quiet_lit (by kernel_rfl) (by kernel_rfl) ?_
          repeat (first | go_big_quiet_step ((exact HI.out _)) | (go_big_quiet_want; go_simp; go_big_quiet_on))
          refine wpQuiet_nil ?_
          intro _ hw'
          obtain ⟨nq, hw''⟩ := hw'
          subst hw''
          go_wp2_with fail
          go_roundw
          case rel => exact ⟨j + 1, by omega, by go_num, below_drewN HB.out nq⟩
          case measure => simp [intOf]; omega
        · have HW : Hid (Below w.heap.size w wr) := belowT B2.out hb
          clear hb
          have wq : IntKind.i64.wrap ((q : Int) + 1) = (q : Int) + 1 := IntWalk.i64_in _ (by omega)
          rcases FIN.out with ⟨e1, e2⟩ | ⟨e1, e2, e3⟩
          · have ge : (lk == 0) = true := by simp [e1]
            rcases e2 with e2 | e2
            · have gq : ((q : Int) == (12 : Int)) = true := by simp; omega
              clear e1 e2
              go_wp2_with fail
              go_ret
              exact ⟨rfl, HW.out⟩
            · have gq : ((q : Int) == (12 : Int)) = false := by simp; omega
              have gr : ((q : Int) + 1 == (12 : Int)) = true := by simp; omega
              clear e1 e2
              go_wp2_with fail
              go_ret
              exact ⟨rfl, HW.out⟩
          · have ge : (lk == 0) = false := by simp [e1]
            have gq : (lk == (q : Int) + 1) = true := by simp [e2]
            have gr : decide (n ≤ q) = true := decide_eq_true e3
            clear e1 e2 e3
            go_wp2_with fail
            go_ret
            exact ⟨rfl, HW.out⟩
    · obtain ⟨e1, e2⟩ := HG.out.bad he
      simp only at e1 e2
      have hq0 : q = 0 := by rw [← HQ.out, e1]; rfl
      have ge : (er != 0) = true := by simp [he]
      have gl : (lk == 0) = true := by simp [e2]
      have gq : ((q : Int) == 0) = true := by simp [hq0]
      clear e1 e2 hq0 he
      go_wp2_with fail
      go_ret
      exact ⟨rfl, B2.out⟩
end Go.Proofs.Ytjkgkoedkphnjaa
