/- What the methods of a device for reclosing do. -/
import Derived.Test.YtjkgkoedkphnjaaRec1
namespace Go.Proofs.Ytjkgkoedkphnjaa
open Go.RowKit

/-- What a device holds beside its list of dead times. -/
structure RS where
  rc : Int
  now : Int
  state : Int
  til : Int
  att : Nat
def RS.arr (dv : Value) (s : RS) : Array Value := #[dv, .int .i64 s.rc, .int .i64 s.now, .int .i64 s.state, .int .i64 s.til, .int .i64 (s.att : Nat)]
def RS.ok (s : RS) (t : Int) : Bool := decide (s.now ≤ t) && decide (t ≤ 1000000000)
def RS.pass (s : RS) (t : Int) : RS := if s.state = 2 ∧ s.til ≤ t then { s with now := t, state := 0, att := 0 } else { s with now := t }
def RS.trip (l : List Int) (s : RS) (t : Int) : Int × Int × RS :=
  if s.ok t = false then (0, 12, s) else if s.state = 1 ∨ s.state = 3 then (0, 11, s)
  else if (s.pass t).att = l.length then (2, 0, { (s.pass t) with state := 3 })
  else (0, 0, { (s.pass t) with state := 1, til := t + l.getD (s.pass t).att 0 })
def RS.tick (s : RS) (t : Int) : Int × Int × RS :=
  if s.ok t = false then (0, 12, s) else if (s.pass t).state = 1 ∧ (s.pass t).til ≤ t then (1, 0, { (s.pass t) with att := (s.pass t).att + 1, state := 2, til := t + s.rc })
  else (0, 0, s.pass t)
/-- What always holds of a device. -/
structure RS.Ok (l : List Int) (s : RS) : Prop where
  rc1 : 1 ≤ s.rc
  rc2 : s.rc ≤ 600000
  now1 : -1000000000 ≤ s.now
  att1 : s.att ≤ l.length
  len : l.length ≤ 4
  dead : ∀ k, k < l.length → 1 ≤ l.getD k 0 ∧ l.getD k 0 ≤ 600000

/-- A device in block b. -/
structure RCells (dv : Value) (s : RS) (b : Nat) (w : World) : Prop where
  c0 : w.cell? ⟨b, 0, none⟩ = some dv
  c1 : w.cell? ⟨b, 1, none⟩ = some (.int .i64 s.rc)
  c2 : w.cell? ⟨b, 2, none⟩ = some (.int .i64 s.now)
  c3 : w.cell? ⟨b, 3, none⟩ = some (.int .i64 s.state)
  c4 : w.cell? ⟨b, 4, none⟩ = some (.int .i64 s.til)
  c5 : w.cell? ⟨b, 5, none⟩ = some (.int .i64 (s.att : Nat))
  fr : ∀ i : Nat, w.frozen? ⟨b, i, none⟩ = false
theorem RCells.of {dv : Value} {s : RS} {b : Nat} {w : World} (h : Blk w b (s.arr dv) 76) : RCells dv s b w :=
  ⟨h.cell 0 rfl, h.cell 1 rfl, h.cell 2 rfl, h.cell 3 rfl, h.cell 4 rfl, h.cell 5 rfl, h.free⟩
def RAt (dv : Value) (b : Nat) (s : RS) (w w' : World) : Prop := Blk w' b (s.arr dv) 76 ∧ But b w w'

set_option maxHeartbeats 400000 in
theorem rperm_c (dv : Value) (s : RS) (t : Int) (b : Nat) (w : World) (hb : Blk w b (s.arr dv) 76) :
    Calls Try.prog 49 #[.pointer (some ⟨b, 0, none⟩), .int .i64 t] w fun e w' => e = .returned (.bool (s.ok t)) ∧ w = w' := by
  have c2 := (RCells.of hb).c2
  clear hb
  by_cases h : s.now ≤ t
  · have H : Hid (s.ok t = decide (t ≤ 1000000000)) := by show _ = _; unfold RS.ok; simp [h]
    generalize s.ok t = E at *
    go_enter Try.func49, Try.ntmps49
    go_wp2
    go_ret
    exact ⟨by rw [H.out]; rfl, rfl⟩
  · have H : Hid (s.ok t = false) := by show _ = _; unfold RS.ok; simp [h]
    generalize s.ok t = E at *
    go_enter Try.func49, Try.ntmps49
    go_wp2
    go_ret
    exact ⟨by rw [H.out]; rfl, rfl⟩

set_option maxHeartbeats 400000 in
theorem rpass_c (dv : Value) (s : RS) (t : Int) (b : Nat) (w : World) (hb : Blk w b (s.arr dv) 76) :
    Calls Try.prog 50 #[.pointer (some ⟨b, 0, none⟩), .int .i64 t] w fun e w' => e = .returned (.tuple #[]) ∧ RAt dv b (s.pass t) w w' := by
  obtain ⟨c0, c1, c2, c3, c4, c5, fr⟩ := RCells.of hb
  have bl := hb.lt
  have Hb := Lib.hid hb
  clear hb
  have H : Hid (s.pass t = if s.state = 2 ∧ s.til ≤ t then { s with now := t, state := 0, att := 0 } else { s with now := t }) := rfl
  generalize s.pass t = E at *
  by_cases h2 : s.state = 2
  · have g2 : (s.state == 2) = true := by simpa using h2
    by_cases h3 : s.til ≤ t
    · have g3 : decide (s.til ≤ t) = true := decide_eq_true h3
      have HR := Lib.hid (H.out.trans (if_pos ⟨h2, h3⟩))
      clear H h2
      go_enter Try.func50, Try.ntmps50
      go_wp2_with fail
      go_end0
      refine ⟨rfl, ?_⟩
      rw [HR.out]
      exact ⟨(((Hb.out.set 2 _).set 3 _).set 5 _).congr (by unfold RS.arr; simp), (((But.refl _ _).set 2 _).set 3 _).set 5 _⟩
    · have g3 : decide (s.til ≤ t) = false := decide_eq_false h3
      have HR := Lib.hid (H.out.trans (if_neg (fun h => h3 h.2)))
      clear H h2
      go_enter Try.func50, Try.ntmps50
      go_wp2_with fail
      go_end0
      refine ⟨rfl, ?_⟩
      rw [HR.out]
      exact ⟨(Hb.out.set 2 _).congr (by unfold RS.arr; simp), (But.refl _ _).set 2 _⟩
  · have g2 : (s.state == 2) = false := by simpa using h2
    have HR := Lib.hid (H.out.trans (if_neg (fun h => h2 h.1)))
    clear H h2
    go_enter Try.func50, Try.ntmps50
    go_wp2_with fail
    go_end0
    refine ⟨rfl, ?_⟩
    rw [HR.out]
    exact ⟨(Hb.out.set 2 _).congr (by unfold RS.arr; simp), (But.refl _ _).set 2 _⟩

set_option maxHeartbeats 400000 in
theorem rnext_c (dv : Value) (s : RS) (b : Nat) (w : World) (hb : Blk w b (s.arr dv) 76) :
    Calls Try.prog 44 #[.pointer (some ⟨b, 0, none⟩)] w fun e w' => e = .returned (.tuple #[.int .i64 (if s.state = 1 then s.til else 0), .bool (s.state == 1)]) ∧ w = w' := by
  obtain ⟨c0, c1, c2, c3, c4, c5, fr⟩ := RCells.of hb
  clear hb
  have HE : Hid ((if s.state = 1 then s.til else 0) = if s.state = 1 then s.til else 0) := rfl
  have HB : Hid ((s.state == 1) = (s.state == 1)) := rfl
  by_cases h : s.state = 1
  · have g1 : (s.state != 1) = false := by simp [h]
    have g2 : (s.state == 1) = true := by simp [h]
    rw [if_pos h, g2]
    clear h g2
    go_enter Try.func44, Try.ntmps44
    go_wp2_with fail
    go_ret2
    exact ⟨rfl, rfl⟩
  · have g1 : (s.state != 1) = true := by simp [h]
    have g2 : (s.state == 1) = false := by simp [h]
    rw [if_neg h, g2]
    clear h g2
    go_enter Try.func44, Try.ntmps44
    go_wp2_with fail
    go_ret2
    exact ⟨rfl, rfl⟩

set_option maxHeartbeats 400000 in
theorem rreset_c (dv : Value) (s : RS) (t : Int) (ht : s.ok t = true) (b : Nat) (w : World) (hb : Blk w b (s.arr dv) 76) :
    Calls Try.prog 31 #[.pointer (some ⟨b, 0, none⟩), .int .i64 t] w fun e w' => e = .returned (.int .i64 0) ∧ RAt dv b { s with now := t, state := 0, att := 0 } w w' := by
  have hp := rperm_c dv s t b w hb
  rw [ht] at hp
  obtain ⟨c0, c1, c2, c3, c4, c5, fr⟩ := RCells.of hb
  have bl := hb.lt
  have Hb := Lib.hid hb
  have HP := Lib.hid hp
  clear hb hp
  go_enter Try.func31, Try.ntmps31
  go_wp2_with fail
  refine HP.out.mono ?_; rintro e w' ⟨rfl, rfl⟩
  go_wp2_with fail
  go_ret
  exact ⟨rfl, (((Hb.out.set 2 _).set 3 _).set 5 _).congr (by unfold RS.arr; simp), (((But.refl _ _).set 2 _).set 3 _).set 5 _⟩
end Go.Proofs.Ytjkgkoedkphnjaa
