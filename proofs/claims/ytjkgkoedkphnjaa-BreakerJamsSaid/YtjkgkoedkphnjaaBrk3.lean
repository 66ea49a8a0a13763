/- What New, Jam and Failed do; the fixed example of chapter 28 holds. -/
import Derived.Test.YtjkgkoedkphnjaaBrk2
namespace Go.Proofs.Ytjkgkoedkphnjaa
open Go.RowKit

/-- A new breaker. -/
def BS.fresh (op cl ch st : Int) (closed : Bool) : BS := ⟨op, cl, ch, st, 0, if closed then 0 else 2, 0, false, st, 0⟩
theorem BS.fresh_ok {op cl ch st : Int} (h : KindOk op cl ch st) (closed : Bool) : (BS.fresh op cl ch st closed).Ok := by
  obtain ⟨h1, h2, h3, h4, h5, h6, h7, h8⟩ := h
  exact ⟨h1, h2, h3, h4, h5, h6, h7, h8, Int.le_refl 0, (by show (0 : Int) ≤ 1000000000; omega), Int.le_refl 0, Int.le_refl 0, by show 0 ≤ st; omega, by show st ≤ st; omega, Int.le_refl 0, Int.le_refl 0⟩

/-- New returns a breaker in a new block. -/
def Made (s : BS) (w : World) (e : Ending) (w' : World) : Prop := ∃ nb, e = .returned (.tuple #[.pointer (some ⟨nb, 0, none⟩), .int .i64 0]) ∧ w.heap.size ≤ nb ∧ Blk w' nb s.arr 68 ∧ Below w.heap.size w w'

set_option maxHeartbeats 1000000 in
theorem new_ok (op cl ch st : Int) (closed : Bool) (h : KindOk op cl ch st) (w : World) :
    Calls Try.prog 15 #[.agg #[.int .i64 op, .int .i64 cl, .int .i64 ch, .int .i64 st], .bool closed] w fun e w' => Made (BS.fresh op cl ch st closed) w e w' := by
  have H := Lib.hid h
  clear h
  go_enter Try.func15, Try.ntmps15
  go_wp2_with fail
  refine (check_c op cl ch st _).mono ?_; rintro e w1 ⟨rfl, hw1⟩
  rw [kindE_ok H.out]
  have hp := Below.blk hw1 (Blk.new w _ 23) (by simp)
  have q0 : w1.cell? ⟨w.heap.size, 0, none⟩ = some (.int .i64 op) := hp.cell 0 rfl
  have q1 : w1.cell? ⟨w.heap.size, 1, none⟩ = some (.int .i64 cl) := hp.cell 1 rfl
  have q2 : w1.cell? ⟨w.heap.size, 2, none⟩ = some (.int .i64 ch) := hp.cell 2 rfl
  have q3 : w1.cell? ⟨w.heap.size, 3, none⟩ = some (.int .i64 st) := hp.cell 3 rfl
  have HB : Hid (Below w.heap.size w w1) := ((Below.refl _ _).alloc (Nat.le_refl _) _).trans (hw1.mono (by simp))
  clear hw1 hp
  cases closed
  · go_wp2_with fail
    go_ret2
    exact ⟨_, rfl, HB.out.size, Blk.new _ _ _, HB.out.alloc HB.out.size _⟩
  · go_wp2_with fail
    go_ret2
    exact ⟨_, rfl, HB.out.size, Blk.new _ _ _, HB.out.alloc HB.out.size _⟩

set_option maxHeartbeats 1000000 in
theorem new_bad (op cl ch st : Int) (closed : Bool) (h : ¬ KindOk op cl ch st) (w : World) :
    Calls Try.prog 15 #[.agg #[.int .i64 op, .int .i64 cl, .int .i64 ch, .int .i64 st], .bool closed] w fun e w' => e = .returned (.tuple #[.pointer none, .int .i64 4]) ∧ Below w.heap.size w w' := by
  have H := Lib.hid h
  clear h
  go_enter Try.func15, Try.ntmps15
  go_wp2_with fail
  refine (check_c op cl ch st _).mono ?_; rintro e w1 ⟨rfl, hw1⟩
  rw [kindE_bad H.out]
  have HB : Hid (Below w.heap.size w w1) := ((Below.refl _ _).alloc (Nat.le_refl _) _).trans (hw1.mono (by simp))
  clear hw1
  go_wp2_with fail
  go_ret2
  exact ⟨rfl, HB.out⟩

/-- What Jam makes of a breaker. -/
def BS.jamTo (s : BS) (t : Int) (j : Bool) : BS := if j then { s.pass t with jam := true } else ({ s.pass t with jam := false } : BS).move
theorem BS.jam_ok {u : BS} (h : u.Ok) (j : Bool) : ({ u with jam := j } : BS).Ok := ⟨h.1, h.2, h.3, h.4, h.5, h.6, h.7, h.8, h.9, h.10, h.11, h.12, h.13, h.14, h.15, h.16⟩
theorem BS.jamTo_ok {s : BS} (h : s.Ok) (t : Int) (j : Bool) (h1 : s.now ≤ t) (h2 : t ≤ 1000000000) : (s.jamTo t j).Ok := by
  unfold jamTo; split
  · exact jam_ok (BS.pass_ok h t h1 h2).1 _
  · exact move_ok (jam_ok (BS.pass_ok h t h1 h2).1 _)

set_option maxHeartbeats 1000000 in
theorem jam_c (s : BS) (hs : s.Ok) (t : Int) (j : Bool) (t1 : s.now ≤ t) (t2 : t ≤ 1000000000) (b : Nat) (w : World) (hb : Blk w b s.arr 68) :
    Calls Try.prog 21 #[.pointer (some ⟨b, 0, none⟩), .int .i64 t, .bool j] w fun e w' => Gives b (0, s.jamTo t j) w e w' := by
  have Hs := Lib.hid hs
  have Hu := Lib.hid (BS.pass_ok hs t t1 t2).1
  clear hs
  have Hb := Lib.hid hb
  clear hb
  have HT : Hid (∀ u : BS, u = s.pass t → s.jamTo t j = if j then { u with jam := true } else ({ u with jam := false } : BS).move) := by intro u hu; subst hu; rfl
  generalize s.jamTo t j = R at *
  go_enter Try.func21, Try.ntmps21
  go_wp2_with fail
  refine (permitted_yes s t t1 t2 b _ Hb.out).mono ?_; rintro e w' ⟨rfl, rfl⟩
  go_wp2_with fail
  refine (pass_c s Hs.out t t1 t2 b _ Hb.out).mono ?_; rintro e w1 ⟨rfl, hw1⟩
  have HT' := Lib.hid (HT.out _ rfl)
  generalize s.pass t = u at *
  have d7 := (BCells.of hw1.1).c7
  have f7 := (BCells.of hw1.1).fr 7
  have H1 := Lib.hid hw1
  clear hw1
  have H2 : Hid (BAt b { u with jam := j } w (w1.setCell ⟨b, 7, none⟩ (.bool j))) := ⟨Blk.congr (H1.out.1.set 7 _) (by unfold BS.arr; simp), H1.out.2.set 7 _⟩
  cases j
  · go_wp2_with fail
    refine (move_c _ (BS.jam_ok Hu.out false) b _ H2.out.1).mono ?_; rintro e w2 ⟨rfl, hw2⟩
    have H3 : Hid (BAt b R w w2) := by rw [HT'.out]; exact ⟨hw2.1, H2.out.2.trans hw2.2⟩
    clear hw2
    go_wp2_with fail
    go_ret
    exact ⟨rfl, H3.out⟩
  · go_wp2_with fail
    go_ret
    rw [HT'.out]
    exact ⟨rfl, H2.out⟩

/-- Whether Failed reports a failure. -/
def BS.failedB (u : BS) (t wait : Int) : Bool := decide (u.state = 1 ∧ u.op + wait ≤ t - u.since)

set_option maxHeartbeats 1000000 in
theorem failed_c (s : BS) (hs : s.Ok) (t wait : Int) (r1 : 0 ≤ wait) (r2 : wait ≤ 100000) (t1 : s.now ≤ t) (t2 : t ≤ 1000000000) (b : Nat) (w : World) (hb : Blk w b s.arr 68) :
    Calls Try.prog 22 #[.pointer (some ⟨b, 0, none⟩), .int .i64 t, .int .i64 wait] w fun e w' => Gives2 b (.bool ((s.pass t).failedB t wait)) (s.pass t) w e w' := by
  have Hs := Lib.hid hs
  have Hu := (BS.pass_ok hs t t1 t2)
  have t0 : 0 ≤ t := by have := hs.now1; omega
  have u1 := Hu.1.since1
  have u2 := Hu.1.since2
  have u3 := Hu.1.op1
  have u4 := Hu.1.op2
  rw [Hu.2] at u2
  have hp := pass_c s hs t t1 t2 b w hb
  clear hs Hu Hs
  generalize s.pass t = u at *
  have HP := Lib.hid hp
  clear hp
  have Hb := Lib.hid hb
  clear hb
  go_enter Try.func22, Try.ntmps22
  go_wp2_with fail
  refine (permitted_yes s t t1 t2 b _ Hb.out).mono ?_; rintro e w' ⟨rfl, rfl⟩
  go_wp2_with fail
  refine HP.out.mono ?_; rintro e w1 ⟨rfl, hw1⟩
  obtain ⟨d0, d1, d2, d3, d4, d5, d6, d7, d8, d9, fd⟩ := BCells.of hw1.1
  have H1 := Lib.hid hw1
  clear hw1
  by_cases h1 : u.state = 1
  · have g1 : (u.state == 1) = true := by simpa using h1
    by_cases h2 : u.op + wait ≤ t - u.since
    · have g2 : decide (u.op + wait ≤ t - u.since) = true := decide_eq_true h2
      have HR : Hid (u.failedB t wait = true) := decide_eq_true ⟨h1, h2⟩
      clear h1 h2
      go_wp2_with fail
      go_quiet (fail)
      go_wp2_with fail
      go_ret2
      rw [HR.out]
      exact ⟨rfl, H1.out.1, H1.out.2.drewN _⟩
    · have g2 : decide (u.op + wait ≤ t - u.since) = false := decide_eq_false h2
      have HR : Hid (u.failedB t wait = false) := decide_eq_false (fun h => h2 h.2)
      clear h1 h2
      go_wp2_with fail
      go_quiet (fail)
      go_wp2_with fail
      go_ret2
      rw [HR.out]
      exact ⟨rfl, H1.out.1, H1.out.2.drewN _⟩
  · have g1 : (u.state == 1) = false := by simpa using h1
    have HR : Hid (u.failedB t wait = false) := decide_eq_false (fun h => h1 h.1)
    clear h1
    go_wp2_with fail
    go_quiet (fail)
    go_wp2_with fail
    go_ret2
    rw [HR.out]
    exact ⟨rfl, H1.out.1, H1.out.2.drewN _⟩

/-- The example's breaker behind each call. -/
def w0 : BS := BS.fresh 50 80 1000 2 true
def w1s : BS := (w0.trip 100).2
def w2s : BS := w1s.pass 149
def w3s : BS := w2s.pass 150
def w4s : BS := w3s.pass 150
theorem w1s_e : w1s = ⟨50, 80, 1000, 2, 100, 1, 100, false, 2, 0⟩ := rfl
theorem w2s_e : w2s = ⟨50, 80, 1000, 2, 149, 1, 100, false, 2, 0⟩ := rfl
theorem w3s_e : w3s = ⟨50, 80, 1000, 2, 150, 2, 100, false, 2, 0⟩ := rfl
theorem w4s_e : w4s = ⟨50, 80, 1000, 2, 150, 2, 100, false, 2, 0⟩ := rfl
theorem wtrip : (w0.trip 100).1 = 0 := rfl
theorem w0_ok : w0.Ok := BS.fresh_ok (by decide) _
theorem w1s_ok : w1s.Ok := BS.trip_ok w0_ok 100 (by decide) (by decide)
theorem w2s_ok : w2s.Ok := (BS.pass_ok w1s_ok 149 (by decide) (by decide)).1
theorem w3s_ok : w3s.Ok := (BS.pass_ok w2s_ok 150 (by decide) (by decide)).1
theorem w4s_ok : w4s.Ok := (BS.pass_ok w3s_ok 150 (by decide) (by decide)).1


/-- What a law carries: the breaker in its block, and that nothing that was there has turned. -/
def Has (w : World) (b : Nat) (s : BS) (w' : World) : Prop := w.heap.size ≤ b ∧ Blk w' b s.arr 68 ∧ Below w.heap.size w w'
theorem Has.go {w w1 w2 : World} {b : Nat} {s s' : BS} (h : Has w b s w1) (k : BAt b s' w1 w2) : Has w b s' w2 :=
  ⟨h.1, k.1, But.below h.2.2 k.2 h.1 (Nat.le_refl _)⟩
theorem Has.alloc {w w1 : World} {b : Nat} {s : BS} (h : Has w b s w1) (o : Obj) : Has w b s (w1.alloc o) :=
  ⟨h.1, h.2.1.alloc o, h.2.2.alloc h.2.2.size o⟩
theorem Has.made {w w1 w2 : World} {b : Nat} {s : BS} (h : Below w.heap.size w w1) (h1 : w1.heap.size ≤ b) (h2 : Blk w2 b s.arr 68) (h3 : Below w1.heap.size w1 w2) : Has w b s w2 :=
  ⟨Nat.le_trans h.size h1, h2, h.trans (h3.mono h.size)⟩

set_option maxHeartbeats 1000000 in
theorem drive_c (w : World) : Calls Try.prog 39 #[] w fun e w' => e = .returned (.agg #[.int .i64 50, .int .i64 80, .int .i64 1000, .int .i64 2]) ∧ Below w.heap.size w w' := by
  go_enter Try.func39, Try.ntmps39
  go_wp2
  exact bodyPost_ret (v := .agg #[.int .i64 50, .int .i64 80, .int .i64 1000, .int .i64 2]) (by simp [results, Try.results39, go_sem]) rfl ⟨rfl, (Below.refl _ _).alloc (Nat.le_refl _) _⟩

set_option maxHeartbeats 2000000 in
/-- The fixed example of chapter 28 holds. -/
theorem breakerWorks_c (w : World) : Calls Try.prog 14 #[] w fun e w' => e = .returned (.bool true) ∧ Below w.heap.size w w' := by
  go_enter Try.func14, Try.ntmps14
  go_wp2_with fail
  refine (drive_c _).mono ?_; rintro e wd ⟨rfl, hd⟩
  have HD := Lib.hid hd
  clear hd
  go_wp2_with fail
  refine (new_ok 50 80 1000 2 true (by decide) _).mono ?_; rintro e w1 ⟨nb, rfl, a1, a2, a3⟩
  have H1 : Hid (Has w nb w0 w1) := Has.made HD.out a1 a2 a3
  clear a1 a2 a3
  go_wp2_with fail
  refine (trip_c w0 w0_ok 100 (by decide) (by decide) nb _ H1.out.2.1).mono ?_; rintro e w2 ⟨rfl, a1⟩
  rw [wtrip]
  have H2 : Hid (Has w nb w1s w2) := H1.out.go a1
  clear a1 H1
  go_wp2_with fail
  refine (at_c w1s w1s_ok 149 (by decide) (by decide) nb _ H2.out.2.1).mono ?_; rintro e w3 ⟨rfl, a1⟩
  have H3 : Hid (Has w nb w2s w3) := H2.out.go a1
  clear a1 H2
  rw [show (w1s.pass 149).state = 1 from rfl]
  go_wp2_with fail
  refine (at_c w2s w2s_ok 150 (by decide) (by decide) nb _ H3.out.2.1).mono ?_; rintro e w4 ⟨rfl, a1⟩
  have H4 : Hid (Has w nb w3s w4) := H3.out.go a1
  clear a1 H3
  rw [show (w2s.pass 150).state = 2 from rfl]
  go_wp2_with fail
  refine (energy_c w3s w3s_ok 150 (by decide) (by decide) nb _ H4.out.2.1).mono ?_; rintro e w5 ⟨rfl, a1⟩
  have H5 : Hid (Has w nb w4s w5) := H4.out.go a1
  clear a1 H4
  rw [show (w3s.pass 150).en = 2 from rfl]
  go_wp2_with fail
  refine (close_early w4s 100 (by decide) nb _ H5.out.2.1).mono ?_; rintro e w6 ⟨rfl, a1⟩
  have H6 : Hid (Has w nb w4s w6) := H5.out.go a1
  clear a1 H5
  go_wp2_with fail
  go_ret
  exact ⟨rfl, H6.out.2.2⟩
end Go.Proofs.Ytjkgkoedkphnjaa
