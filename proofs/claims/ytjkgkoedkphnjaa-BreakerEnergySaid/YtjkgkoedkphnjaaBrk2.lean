/- What the methods of a breaker do: contracts, second part. -/
import Derived.Test.YtjkgkoedkphnjaaBrk
namespace Go.Proofs.Ytjkgkoedkphnjaa
open Go.RowKit

/-- Whether a type of breaker is permitted. -/
def KindOk (op cl ch st : Int) : Prop := 1 ≤ op ∧ op ≤ 10000 ∧ 1 ≤ cl ∧ cl ≤ 10000 ∧ 1 ≤ ch ∧ ch ≤ 100000 ∧ 1 ≤ st ∧ st ≤ 3
instance (op cl ch st : Int) : Decidable (KindOk op cl ch st) := by unfold KindOk; infer_instance
def kindE (op cl ch st : Int) : Int := if KindOk op cl ch st then 0 else 4
theorem kindE_ok {op cl ch st : Int} (h : KindOk op cl ch st) : kindE op cl ch st = 0 := if_pos h
theorem kindE_bad {op cl ch st : Int} (h : ¬ KindOk op cl ch st) : kindE op cl ch st = 4 := if_neg h
theorem ret_int {k : IntKind} {a b : Int} (h : a = b) : Ending.returned (.int k a) = .returned (.int k b) := by rw [h]

set_option maxHeartbeats 1000000 in
theorem check_c (op cl ch st : Int) (w : World) :
    Calls Try.prog 16 #[.agg #[.int .i64 op, .int .i64 cl, .int .i64 ch, .int .i64 st]] w fun e w' => e = .returned (.int .i64 (kindE op cl ch st)) ∧ Below w.heap.size w w' := by
  go_enter Try.func16, Try.ntmps16
  go_wp2
  all_goals (go_ret; refine ⟨ret_int ?_, by repeat (first | exact Below.refl _ _ | refine Below.alloc ?_ (Nat.le_refl _) _)⟩)
  all_goals (first | exact (kindE_ok (by unfold KindOk; omega)).symm | exact (kindE_bad (by unfold KindOk; omega)).symm)

/-- A time that can be reached. -/
def permB (s : BS) (t : Int) : Bool := decide (s.now ≤ t) && decide (t ≤ 1000000000)
theorem permB_yes {s : BS} {t : Int} (h1 : s.now ≤ t) (h2 : t ≤ 1000000000) : permB s t = true := by simp [permB, h1, h2]

set_option maxHeartbeats 400000 in
theorem permitted_yes (s : BS) (t : Int) (t1 : s.now ≤ t) (t2 : t ≤ 1000000000) (b : Nat) (w : World) (hb : Blk w b s.arr 68) :
    Calls Try.prog 40 #[.pointer (some ⟨b, 0, none⟩), .int .i64 t] w fun e w' => e = .returned (.bool true) ∧ w = w' := by
  have c4 := (BS.cells hb).2.2.2.2.1
  clear hb
  go_enter Try.func40, Try.ntmps40
  go_wp2
  go_ret
  exact ⟨rfl, rfl⟩
set_option maxHeartbeats 400000 in
theorem permitted_early (s : BS) (t : Int) (t1 : t < s.now) (b : Nat) (w : World) (hb : Blk w b s.arr 68) :
    Calls Try.prog 40 #[.pointer (some ⟨b, 0, none⟩), .int .i64 t] w fun e w' => e = .returned (.bool false) ∧ w = w' := by
  have c4 := (BS.cells hb).2.2.2.2.1
  clear hb
  go_enter Try.func40, Try.ntmps40
  go_wp2
  go_ret
  exact ⟨rfl, rfl⟩


/-- What a walk wants of a breaker in block b: its cells, and that they can be written. -/
structure BCells (s : BS) (b : Nat) (w : World) : Prop where
  c0 : w.cell? ⟨b, 0, none⟩ = some (.int .i64 s.op)
  c1 : w.cell? ⟨b, 1, none⟩ = some (.int .i64 s.cl)
  c2 : w.cell? ⟨b, 2, none⟩ = some (.int .i64 s.ch)
  c3 : w.cell? ⟨b, 3, none⟩ = some (.int .i64 s.st)
  c4 : w.cell? ⟨b, 4, none⟩ = some (.int .i64 s.now)
  c5 : w.cell? ⟨b, 5, none⟩ = some (.int .i64 s.state)
  c6 : w.cell? ⟨b, 6, none⟩ = some (.int .i64 s.since)
  c7 : w.cell? ⟨b, 7, none⟩ = some (.bool s.jam)
  c8 : w.cell? ⟨b, 8, none⟩ = some (.int .i64 s.en)
  c9 : w.cell? ⟨b, 9, none⟩ = some (.int .i64 s.chd)
  fr : ∀ i : Nat, w.frozen? ⟨b, i, none⟩ = false
theorem BCells.of {s : BS} {b : Nat} {w : World} (h : Blk w b s.arr 68) : BCells s b w :=
  ⟨h.cell 0 rfl, h.cell 1 rfl, h.cell 2 rfl, h.cell 3 rfl, h.cell 4 rfl, h.cell 5 rfl, h.cell 6 rfl, h.cell 7 rfl, h.cell 8 rfl, h.cell 9 rfl, h.free⟩


abbrev putAll (b : Nat) (u : BS) (w : World) : World :=
  (((((((((w.setCell ⟨b, 0, none⟩ (.int .i64 u.op)).setCell ⟨b, 1, none⟩ (.int .i64 u.cl)).setCell ⟨b, 2, none⟩ (.int .i64 u.ch)).setCell ⟨b, 3, none⟩ (.int .i64 u.st)).setCell ⟨b, 4, none⟩ (.int .i64 u.now)).setCell ⟨b, 5, none⟩ (.int .i64 u.state)).setCell ⟨b, 6, none⟩ (.int .i64 u.since)).setCell ⟨b, 7, none⟩ (.bool u.jam)).setCell ⟨b, 8, none⟩ (.int .i64 u.en)).setCell ⟨b, 9, none⟩ (.int .i64 u.chd)
theorem put_c (u : BS) {s : BS} {b : Nat} {w w2 : World} (h1 : Blk w2 b s.arr 68) (h2 : But b w w2) : BAt b u w (putAll b u w2) :=
  ⟨Blk.congr ((((((((((h1.set 0 _).set 1 _).set 2 _).set 3 _).set 4 _).set 5 _).set 6 _).set 7 _).set 8 _).set 9 _) (by unfold BS.arr; simp), (((((((((h2.set 0 _).set 1 _).set 2 _).set 3 _).set 4 _).set 5 _).set 6 _).set 7 _).set 8 _).set 9 _⟩

/-- Behind pass on a copy: the breaker itself is as it was. -/
theorem copy_c {s u : BS} {b : Nat} {w w1 : World} (hb : Blk w b s.arr 68) (h : BAt w.heap.size u (w.alloc (.cells s.arr 68)) w1) : BAt b s w w1 :=
  ⟨h.2.blk (hb.alloc _) (by have := hb.lt; omega), ((But.refl b w).alloc _).inner h.2 (Nat.le_refl _)⟩
theorem copy_set {s : BS} {b : Nat} {w w1 : World} (hb : Blk w b s.arr 68) (h : BAt b s w w1) (i : Nat) (v : Value) : BAt b s w (w1.setCell ⟨w.heap.size, i, none⟩ v) :=
  ⟨h.1.setOther _ (by have := hb.lt; simp only; omega) _, h.2.setNew (Nat.le_refl _) _⟩

/-- What Trip makes of a breaker. -/
def BS.canTrip (u : BS) : Prop := u.state = 0 ∨ u.state = 3
instance (u : BS) : Decidable u.canTrip := by unfold BS.canTrip; infer_instance
def BS.trip (s : BS) (t : Int) : Int × BS :=
  let u := s.pass t
  if u.canTrip then (0, { u with state := 1, since := t }) else (11, s)
theorem BS.trip_ok {s : BS} (h : s.Ok) (t : Int) (h1 : s.now ≤ t) (h2 : t ≤ 1000000000) : (s.trip t).2.Ok := by
  unfold trip; simp only; split
  · obtain ⟨k, kn⟩ := BS.pass_ok h t h1 h2
    exact ⟨k.1, k.2, k.3, k.4, k.5, k.6, k.7, k.8, k.9, k.10, by have := k.9; show 0 ≤ t; omega, by show t ≤ (s.pass t).now; omega, k.13, k.14, k.15, k.16⟩
  · exact h
def BS.close (s : BS) (t : Int) : Int × BS :=
  let u := s.pass t
  if u.state = 2 then
    if u.en = 0 then (8, s)
    else (0, { u with state := 3, since := t, en := u.en - 1, chd := if u.en = u.st then t else u.chd })
  else (11, s)
theorem BS.close_ok {s : BS} (h : s.Ok) (t : Int) (h1 : s.now ≤ t) (h2 : t ≤ 1000000000) : (s.close t).2.Ok := by
  unfold close; simp only; split
  · split
    · exact h
    · rename_i hz
      obtain ⟨k, kn⟩ := BS.pass_ok h t h1 h2
      have := k.13
      refine ⟨k.1, k.2, k.3, k.4, k.5, k.6, k.7, k.8, k.9, k.10, by have := k.9; show 0 ≤ t; omega, by show t ≤ (s.pass t).now; omega, by show 0 ≤ (s.pass t).en - 1; omega, by have := k.14; show (s.pass t).en - 1 ≤ (s.pass t).st; omega, ?_, ?_⟩
      · show 0 ≤ if (s.pass t).en = (s.pass t).st then t else (s.pass t).chd
        have := k.9; have := k.15; split <;> omega
      · show (if (s.pass t).en = (s.pass t).st then t else (s.pass t).chd) ≤ (s.pass t).now
        have := k.16; split <;> omega
  · exact h

/-- A method that returns a code and leaves a breaker. -/
def Gives (b : Nat) (r : Int × BS) (w : World) (e : Ending) (w' : World) : Prop := e = .returned (.int .i64 r.1) ∧ BAt b r.2 w w'

set_option maxHeartbeats 2000000 in
theorem trip_c (s : BS) (hs : s.Ok) (t : Int) (t1 : s.now ≤ t) (t2 : t ≤ 1000000000) (b : Nat) (w : World) (hb : Blk w b s.arr 68) :
    Calls Try.prog 17 #[.pointer (some ⟨b, 0, none⟩), .int .i64 t] w fun e w' => Gives b (s.trip t) w e w' := by
  have X := BCells.of hb
  obtain ⟨c0, c1, c2, c3, c4, c5, c6, c7, c8, c9, f⟩ := X
  have bl := hb.lt
  have T1 := t1
  have Hs := Lib.hid hs
  clear hs
  have Hb := Lib.hid hb
  clear hb
  have HT : Hid (s.trip t = if (s.pass t).canTrip then (0, { (s.pass t) with state := 1, since := t }) else (11, s)) := rfl
  generalize s.trip t = R at *
  go_enter Try.func17, Try.ntmps17
  go_wp2_with fail
  refine (permitted_yes s t t1 t2 b _ Hb.out).mono ?_; rintro e w' ⟨rfl, rfl⟩
  go_wp2_with fail
  have hn := Blk.new w s.arr 68
  refine (pass_c s Hs.out t t1 t2 w.heap.size _ hn).mono ?_; rintro e w1 ⟨rfl, hw1⟩
  clear hn c0 c1 c2 c3 c4 c5 c6 c7 c8 c9 f
  have H1 := Lib.hid (copy_c Hb.out hw1)
  obtain ⟨d0, d1, d2, d3, d4, d5, d6, d7, d8, d9, fd⟩ := BCells.of hw1.1
  obtain ⟨c0, c1, c2, c3, c4, c5, c6, c7, c8, c9, fc⟩ := BCells.of H1.out.1
  generalize s.pass t = u at *
  clear hw1
  by_cases h0 : u.state = 0
  · have g0 : (u.state != 0) = false := by simpa using h0
    have HR : Hid (R = (0, { u with state := 1, since := t })) := HT.out.trans (if_pos (Or.inl h0))
    clear h0
    go_wp2_with fail
    go_ret
    rw [HR.out]
    have H2 := copy_set Hb.out (copy_set Hb.out H1.out 5 (.int .i64 1)) 6 (.int .i64 t)
    exact ⟨rfl, put_c { u with state := 1, since := t } H2.1 H2.2⟩
  · have g0 : (u.state != 0) = true := by simpa using h0
    by_cases h3 : u.state = 3
    · have g3 : (u.state != 3) = false := by simpa using h3
      have HR : Hid (R = (0, { u with state := 1, since := t })) := HT.out.trans (if_pos (Or.inr h3))
      clear h0 h3
      go_wp2_with fail
      go_ret
      rw [HR.out]
      have H2 := copy_set Hb.out (copy_set Hb.out H1.out 5 (.int .i64 1)) 6 (.int .i64 t)
      exact ⟨rfl, put_c { u with state := 1, since := t } H2.1 H2.2⟩
    · have g3 : (u.state != 3) = true := by simpa using h3
      have HR : Hid (R = (11, s)) := HT.out.trans (if_neg (fun h => h.elim h0 h3))
      clear h0 h3
      go_wp2_with fail
      go_ret
      rw [HR.out]
      exact ⟨rfl, H1.out⟩

set_option maxHeartbeats 2000000 in
theorem close_c (s : BS) (hs : s.Ok) (t : Int) (t1 : s.now ≤ t) (t2 : t ≤ 1000000000) (b : Nat) (w : World) (hb : Blk w b s.arr 68) :
    Calls Try.prog 19 #[.pointer (some ⟨b, 0, none⟩), .int .i64 t] w fun e w' => Gives b (s.close t) w e w' := by
  have X := BCells.of hb
  obtain ⟨c0, c1, c2, c3, c4, c5, c6, c7, c8, c9, f⟩ := X
  have bl := hb.lt
  have T1 := t1
  have Hs := Lib.hid hs
  have Hu := Lib.hid (BS.pass_ok hs t t1 t2).1
  clear hs
  have Hb := Lib.hid hb
  clear hb
  have HT : Hid (s.close t = if (s.pass t).state = 2 then
    if (s.pass t).en = 0 then (8, s)
    else (0, { (s.pass t) with state := 3, since := t, en := (s.pass t).en - 1, chd := if (s.pass t).en = (s.pass t).st then t else (s.pass t).chd })
  else (11, s)) := rfl
  generalize s.close t = R at *
  go_enter Try.func19, Try.ntmps19
  go_wp2_with fail
  refine (permitted_yes s t t1 t2 b _ Hb.out).mono ?_; rintro e w' ⟨rfl, rfl⟩
  go_wp2_with fail
  have hn := Blk.new w s.arr 68
  refine (pass_c s Hs.out t t1 t2 w.heap.size _ hn).mono ?_; rintro e w1 ⟨rfl, hw1⟩
  clear hn c0 c1 c2 c3 c4 c5 c6 c7 c8 c9 f
  have H1 := Lib.hid (copy_c Hb.out hw1)
  obtain ⟨d0, d1, d2, d3, d4, d5, d6, d7, d8, d9, fd⟩ := BCells.of hw1.1
  obtain ⟨c0, c1, c2, c3, c4, c5, c6, c7, c8, c9, fc⟩ := BCells.of H1.out.1
  generalize s.pass t = u at *
  clear hw1
  have u1 := Hu.out.en1
  have u2 := Hu.out.en2
  have u3 := Hu.out.st2
  by_cases h0 : u.state = 2
  · have g0 : (u.state != 2) = false := by simpa using h0
    by_cases h3 : u.en = 0
    · have g3 : (u.en == 0) = true := by simpa using h3
      have HR : Hid (R = (8, s)) := HT.out.trans ((if_pos h0).trans (if_pos h3))
      clear h0 h3
      go_wp2_with fail
      go_ret
      rw [HR.out]
      exact ⟨rfl, H1.out⟩
    · have g3 : (u.en == 0) = false := by simpa using h3
      by_cases h4 : u.en = u.st
      · have g4 : (u.en == u.st) = true := by simpa using h4
        have HR : Hid (R = (0, { u with state := 3, since := t, en := u.en - 1, chd := t })) := HT.out.trans ((if_pos h0).trans ((if_neg h3).trans (by rw [if_pos h4])))
        clear h0 h3 h4
        go_wp2_with fail
        go_ret
        rw [HR.out]
        have H2 := copy_set Hb.out (copy_set Hb.out (copy_set Hb.out (copy_set Hb.out H1.out 9 (.int .i64 t)) 8 (.int .i64 (u.en - 1))) 5 (.int .i64 3)) 6 (.int .i64 t)
        exact ⟨rfl, put_c { u with state := 3, since := t, en := u.en - 1, chd := t } H2.1 H2.2⟩
      · have g4 : (u.en == u.st) = false := by simpa using h4
        have HR : Hid (R = (0, { u with state := 3, since := t, en := u.en - 1, chd := u.chd })) := HT.out.trans ((if_pos h0).trans ((if_neg h3).trans (by rw [if_neg h4])))
        clear h0 h3 h4
        go_wp2_with fail
        go_ret
        rw [HR.out]
        have H2 := copy_set Hb.out (copy_set Hb.out (copy_set Hb.out H1.out 8 (.int .i64 (u.en - 1))) 5 (.int .i64 3)) 6 (.int .i64 t)
        exact ⟨rfl, put_c { u with state := 3, since := t, en := u.en - 1, chd := u.chd } H2.1 H2.2⟩
  · have g0 : (u.state != 2) = true := by simpa using h0
    have HR : Hid (R = (11, s)) := HT.out.trans (if_neg h0)
    clear h0
    go_wp2_with fail
    go_ret
    rw [HR.out]
    exact ⟨rfl, H1.out⟩

set_option maxHeartbeats 1000000 in
theorem close_early (s : BS) (t : Int) (t1 : t < s.now) (b : Nat) (w : World) (hb : Blk w b s.arr 68) :
    Calls Try.prog 19 #[.pointer (some ⟨b, 0, none⟩), .int .i64 t] w fun e w' => Gives b (12, s) w e w' := by
  have H : Hid (BAt b s w w) := ⟨hb, But.refl _ _⟩
  have Hb := Lib.hid hb
  clear hb
  go_enter Try.func19, Try.ntmps19
  go_wp2_with fail
  refine (permitted_early s t t1 b _ Hb.out).mono ?_; rintro e w' ⟨rfl, rfl⟩
  go_wp2_with fail
  go_ret
  exact ⟨rfl, H.out⟩

/-- A method that returns a value and OK, and leaves a breaker. -/
def Gives2 (b : Nat) (v : Value) (s : BS) (w : World) (e : Ending) (w' : World) : Prop := e = .returned (.tuple #[v, .int .i64 0]) ∧ BAt b s w w'

set_option maxHeartbeats 1000000 in
theorem at_c (s : BS) (hs : s.Ok) (t : Int) (t1 : s.now ≤ t) (t2 : t ≤ 1000000000) (b : Nat) (w : World) (hb : Blk w b s.arr 68) :
    Calls Try.prog 18 #[.pointer (some ⟨b, 0, none⟩), .int .i64 t] w fun e w' => Gives2 b (.int .i64 (s.pass t).state) (s.pass t) w e w' := by
  have Hs := Lib.hid hs
  clear hs
  have Hb := Lib.hid hb
  clear hb
  go_enter Try.func18, Try.ntmps18
  go_wp2_with fail
  refine (permitted_yes s t t1 t2 b _ Hb.out).mono ?_; rintro e w' ⟨rfl, rfl⟩
  go_wp2_with fail
  refine (pass_c s Hs.out t t1 t2 b _ Hb.out).mono ?_; rintro e w1 ⟨rfl, hw1⟩
  have d5 := (BCells.of hw1.1).c5
  have H1 := Lib.hid hw1
  clear hw1
  go_wp2_with fail
  go_ret2
  exact ⟨rfl, H1.out⟩

set_option maxHeartbeats 1000000 in
theorem energy_c (s : BS) (hs : s.Ok) (t : Int) (t1 : s.now ≤ t) (t2 : t ≤ 1000000000) (b : Nat) (w : World) (hb : Blk w b s.arr 68) :
    Calls Try.prog 20 #[.pointer (some ⟨b, 0, none⟩), .int .i64 t] w fun e w' => Gives2 b (.int .i64 (s.pass t).en) (s.pass t) w e w' := by
  have Hs := Lib.hid hs
  clear hs
  have Hb := Lib.hid hb
  clear hb
  go_enter Try.func20, Try.ntmps20
  go_wp2_with fail
  refine (permitted_yes s t t1 t2 b _ Hb.out).mono ?_; rintro e w' ⟨rfl, rfl⟩
  go_wp2_with fail
  refine (pass_c s Hs.out t t1 t2 b _ Hb.out).mono ?_; rintro e w1 ⟨rfl, hw1⟩
  have d5 := (BCells.of hw1.1).c8
  have H1 := Lib.hid hw1
  clear hw1
  go_wp2_with fail
  go_ret2
  exact ⟨rfl, H1.out⟩
end Go.Proofs.Ytjkgkoedkphnjaa
