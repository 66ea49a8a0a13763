/- journal: SameEvents. -/
import Derived.Test.YtjakhgilkogcnaaDoorJr2
import Derived.Laws.StructEq
import Derived.ChangeKeysEq
namespace Go.Proofs.YtjakhgilkogcnaaDoor
open Go.RowKit

def ev0 : Ev := ⟨0, ByteArray.empty, ByteArray.empty, 0⟩
instance : DecidableEq Ev := fun a b => by
  obtain ⟨a0, a1, a2, a3⟩ := a
  obtain ⟨b0, b1, b2, b3⟩ := b
  exact decidable_of_iff (a0 = b0 ∧ a1 = b1 ∧ a2 = b2 ∧ a3 = b3) (by simp)
theorem evNe_run (p0 : Int) (p1 p2 : ByteArray) (p3 q0 : Int) (q1 q2 : ByteArray) (q3 : Int) (W : World) : (binOp .neq 31 (.agg #[.int .i64 p0, .string p1, .string p2, .int .i64 p3]) (.agg #[.int .i64 q0, .string q1, .string q2, .int .i64 q3])).run Tryd.prog W = .ok (.bool (decide ((⟨p0, p1, p2, p3⟩ : Ev) ≠ ⟨q0, q1, q2, q3⟩))) W := by
  have hf : Tryd.prog.underlying 31 = some (.struct (Tryd.prog.fieldsOf 31)) := by kernel_rfl
  have hs : Tryd.prog.stoodInHeld 31 = false := by kernel_rfl
  rw [run_neq_struct, run_equalIn_agg W _ _ _ _ hf hs]
  have hl : (Tryd.prog.fieldsOf 31).toList.map (fun f => (f.name, f.type, f.offset)) = [("Time", 3, 0), ("Kind", 9, 1), ("Name", 9, 2), ("Value", 3, 3)] := by kernel_rfl
  generalize (Tryd.prog.fieldsOf 31).toList = L at hl
  have hi : Tryd.prog.plainKey 3 = true := by kernel_rfl
  have hst : Tryd.prog.plainKey 9 = true := by kernel_rfl
  have hiu : Tryd.prog.underlying 3 = some (.int .i64) := by kernel_rfl
  have hsu : Tryd.prog.underlying 9 = some .string := by kernel_rfl
  rcases L with _ | ⟨f0, _ | ⟨f1, _ | ⟨f2, _ | ⟨f3, _ | ⟨_, _⟩⟩⟩⟩⟩ <;> simp only [List.map_cons, List.map_nil, List.cons.injEq, Prod.mk.injEq, reduceCtorEq, and_false, and_true] at hl
  obtain ⟨⟨n0, t0, o0⟩, ⟨n1, t1, o1⟩, ⟨n2, t2, o2⟩, n3, t3, o3⟩ := hl
  simp only [Op.eqFields, n0, n1, n2, n3, t0, t1, t2, t3, o0, o1, o2, o3]
  have e1 : (p1.toList == q1.toList) = decide (p1 = q1) := by
    rw [Bool.eq_iff_iff, Lib.bytes_beq_iff]; simp
  have e2 : (p2.toList == q2.toList) = decide (p2 = q2) := by
    rw [Bool.eq_iff_iff, Lib.bytes_beq_iff]; simp
  rw [if_pos (show "Time" ≠ "_" by decide), if_pos (show "Kind" ≠ "_" by decide), if_pos (show "Name" ≠ "_" by decide), if_pos (show "Value" ≠ "_" by decide)]
  have rp0 : ∀ W, (part 3 #[Value.int .i64 p0, .string p1, .string p2, .int .i64 p3] 0).run Tryd.prog W = .ok (.int .i64 p0) W := fun W => run_part_plain W hi rfl
  have rp1 : ∀ W, (part 9 #[Value.int .i64 p0, .string p1, .string p2, .int .i64 p3] 1).run Tryd.prog W = .ok (.string p1) W := fun W => run_part_plain W hst rfl
  have rp2 : ∀ W, (part 9 #[Value.int .i64 p0, .string p1, .string p2, .int .i64 p3] 2).run Tryd.prog W = .ok (.string p2) W := fun W => run_part_plain W hst rfl
  have rp3 : ∀ W, (part 3 #[Value.int .i64 p0, .string p1, .string p2, .int .i64 p3] 3).run Tryd.prog W = .ok (.int .i64 p3) W := fun W => run_part_plain W hi rfl
  have rq0 : ∀ W, (part 3 #[Value.int .i64 q0, .string q1, .string q2, .int .i64 q3] 0).run Tryd.prog W = .ok (.int .i64 q0) W := fun W => run_part_plain W hi rfl
  have rq1 : ∀ W, (part 9 #[Value.int .i64 q0, .string q1, .string q2, .int .i64 q3] 1).run Tryd.prog W = .ok (.string q1) W := fun W => run_part_plain W hst rfl
  have rq2 : ∀ W, (part 9 #[Value.int .i64 q0, .string q1, .string q2, .int .i64 q3] 2).run Tryd.prog W = .ok (.string q2) W := fun W => run_part_plain W hst rfl
  have rq3 : ∀ W, (part 3 #[Value.int .i64 q0, .string q1, .string q2, .int .i64 q3] 3).run Tryd.prog W = .ok (.int .i64 q3) W := fun W => run_part_plain W hi rfl
  simp only [Sem.run_bind, rp0, rp1, rp2, rp3, rq0, rq1, rq2, rq3, Result.andThen_ok, run_equalIn_int _ 9998 3 .i64 .i64 _ _ hiu, run_equalIn_string _ 9998 9 _ _ hsu, Sem.run_ite, Sem.run_pure]
  rw [e1, e2]
  by_cases h0 : p0 = q0 <;> by_cases h1 : p1 = q1 <;> by_cases h2 : p2 = q2 <;> by_cases h3 : p3 = q3 <;> simp [h0, h1, h2, h3, Result.andThen]
set_option maxHeartbeats 1000000 in
theorem sameEv_c (va vb : Value) (la lb : List Ev) (w : World) (ha : EVal w va la) (hb : EVal w vb lb) :
    Calls Tryd.prog 11 #[va, vb] w fun e w' => e = .returned (.bool (decide (la = lb))) ∧ Below w.heap.size w w' := by
  have bound : ∀ {v : Value} {l : List Ev}, EVal w v l → l.length ≤ 9223372036854775807 := by
    intro v l h
    rcases (show Reads w v l.length (flat Ev.cells l) from h) with ⟨h, _⟩ | ⟨_, _, _, _, _, h, _⟩
    · omega
    · exact h
  have ba := bound ha
  have bb := bound hb
  obtain ⟨aa, ca, rfl⟩ := (show Reads w va la.length (flat Ev.cells la) from ha).slice
  obtain ⟨ab, cb, rfl⟩ := (show Reads w vb lb.length (flat Ev.cells lb) from hb).slice
  obtain ⟨n, hn⟩ : ∃ n, la.length = n := ⟨_, rfl⟩
  obtain ⟨m, hm⟩ : ∃ m, lb.length = m := ⟨_, rfl⟩
  have HA : Hid (Reads w (.slice aa n ca) n (flat Ev.cells la)) := by show Reads _ _ _ _; rw [← hn]; exact ha
  have HB : Hid (Reads w (.slice ab m cb) m (flat Ev.cells lb)) := by show Reads _ _ _ _; rw [← hm]; exact hb
  have HN := Lib.hid hn
  have HM := Lib.hid hm
  have HE : Hid (decide (la = lb) = decide (la = lb)) := rfl
  rw [hn] at ba ⊢
  rw [hm] at bb ⊢
  clear ha hb bound
  by_cases hnm : n = m
  · subst hnm
    have HI : Hid (∀ k, k ≤ n → la.take k = lb.take k → k = n → la = lb) := by
      intro k _ ht e
      rw [e] at ht
      rwa [List.take_of_length_le (by omega), List.take_of_length_le (by omega)] at ht
    have HF : Hid (∀ k, k < n → la.getD k ev0 ≠ lb.getD k ev0 → la ≠ lb) := by
      intro k _ hne e; exact hne (by rw [e])
    have HS : Hid (∀ k, k < n → la.take k = lb.take k → la.getD k ev0 = lb.getD k ev0 → la.take (k + 1) = lb.take (k + 1)) := by
      intro k hk ht he
      have q1 : k < la.length := by omega
      have q2 : k < lb.length := by omega
      rw [List.take_add_one, List.take_add_one, ht]
      congr 1
      simp [q1, q2] at he ⊢
      exact he
    generalize hE : decide (la = lb) = E at *
    have HEE := Lib.hid hE
    clear hE hn hm
    go_enter Tryd.func11, Tryd.ntmps11
    go_wp2_with fail
    go_loopw [13] (fun i wr => ∃ k : Nat, k ≤ n ∧ i = .int .i64 k ∧ la.take k = lb.take k ∧ Below w.heap.size w wr) (fun i _ => n - (intOf i).toNat)
    case atStart => exact ⟨0, Nat.zero_le _, rfl, rfl, Below.refl _ _⟩
    case round =>
      obtain ⟨k, hk, rfl, ht, hb⟩ := hrel
      by_cases hlt : k < n
      · obtain ⟨p, hp⟩ : ∃ p, la[k]? = some p := ⟨_, List.getElem?_eq_getElem (by rw [HN.out]; exact hlt)⟩
        obtain ⟨q, hq⟩ : ∃ q, lb[k]? = some q := ⟨_, List.getElem?_eq_getElem (by rw [HM.out]; exact hlt)⟩
        obtain ⟨b1, o1, c1, hvv, _, _, hl1, hc1⟩ := (HA.out.below hb).addr (by omega)
        simp only [Value.slice.injEq] at hvv
        obtain ⟨rfl, _, rfl⟩ := hvv
        obtain ⟨b2, o2, c2, hvv, _, _, hl2, hc2⟩ := (HB.out.below hb).addr (by omega)
        simp only [Value.slice.injEq] at hvv
        obtain ⟨rfl, _, rfl⟩ := hvv
        obtain ⟨x0, x1, x2, x3⟩ := ev_cells hc1 hp
        obtain ⟨y0, y1, y2, y3⟩ := ev_cells hc2 hq
        have ws := hb.size
        have hf := HF.out k hlt
        have hs := HS.out k hlt ht
        rw [List.getD_eq_getElem?_getD, List.getD_eq_getElem?_getD, hp, hq] at hf hs
        simp only [Option.getD_some] at hf hs
        have HFk := Lib.hid hf
        have HSk := Lib.hid hs
        have HBw := Lib.hid hb
        clear ht hf hs hb hc1 hc2 hp hq
        obtain ⟨p0, p1, p2, p3⟩ := p
        obtain ⟨q0, q1, q2, q3⟩ := q
        simp only at x0 x1 x2 x3 y0 y1 y2 y3
        have qb := fun W => evNe_run p0 p1 p2 p3 q0 q1 q2 q3 W
        by_cases hpq : (⟨p0, p1, p2, p3⟩ : Ev) = ⟨q0, q1, q2, q3⟩
        · have HP := Lib.hid hpq
          rw [decide_eq_false (fun h => h hpq)] at qb
          clear hpq
          go_wp2_with fail
          go_quiet (rw [qb])
          go_wp2_with fail
          go_roundw
          case rel => exact ⟨k + 1, by omega, by go_num, HSk.out HP.out, below_drewN HBw.out _⟩
          case measure => simp [intOf]; omega
        · have HP := Lib.hid hpq
          rw [decide_eq_true hpq] at qb
          clear hpq
          go_wp2_with fail
          go_quiet (rw [qb])
          go_wp2_with fail
          go_ret
          exact ⟨by rw [← HEE.out, decide_eq_false (HFk.out HP.out)]; rfl, below_drewN HBw.out _⟩
      · have HX := Lib.hid (HI.out k hk ht (by omega))
        have HBw := Lib.hid hb
        clear ht hb
        go_wp2_with fail
        go_ret
        exact ⟨by rw [← HEE.out, decide_eq_true HX.out]; rfl, HBw.out⟩
  · have HX : Hid (decide (la = lb) = false) := by show _ = _; apply decide_eq_false; intro e; rw [e, hm] at hn; exact hnm hn.symm
    generalize decide (la = lb) = E at *
    have g1 : ((n : Int) != m) = true := by simp; omega
    clear hnm hn hm
    go_enter Tryd.func11, Tryd.ntmps11
    go_wp2_with fail
    go_ret
    exact ⟨by rw [HX.out]; rfl, Below.refl _ _⟩

end Go.Proofs.YtjakhgilkogcnaaDoor
