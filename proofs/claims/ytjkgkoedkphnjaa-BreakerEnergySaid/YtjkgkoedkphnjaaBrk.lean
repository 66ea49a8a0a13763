/- What the methods of a breaker do: contracts. -/
import Derived.Test.YtjkgkoedkphnjaaBrkP
namespace Go.Proofs.Ytjkgkoedkphnjaa
open Go.RowKit

/-- Block b holds the breaker s, and of what was in w nothing but b has turned. -/
def BAt (b : Nat) (s : BS) (w w' : World) : Prop := Blk w' b s.arr 68 ∧ But b w w'

set_option maxHeartbeats 400000 in
theorem move_c (s : BS) (hs : s.Ok) (b : Nat) (w : World) (hb : Blk w b s.arr 68) :
    Calls Try.prog 42 #[.pointer (some ⟨b, 0, none⟩)] w fun e w' => e = .returned (.tuple #[]) ∧ BAt b s.move w w' := by
  obtain ⟨op, cl, ch, st, now, state, since, jam, en, chd⟩ := s
  have c0 : w.cell? ⟨b, 0, none⟩ = some (.int .i64 op) := hb.cell 0 rfl
  have c1 : w.cell? ⟨b, 1, none⟩ = some (.int .i64 cl) := hb.cell 1 rfl
  have c4 : w.cell? ⟨b, 4, none⟩ = some (.int .i64 now) := hb.cell 4 rfl
  have c5 : w.cell? ⟨b, 5, none⟩ = some (.int .i64 state) := hb.cell 5 rfl
  have c6 : w.cell? ⟨b, 6, none⟩ = some (.int .i64 since) := hb.cell 6 rfl
  have f5 : w.frozen? ⟨b, 5, none⟩ = false := hb.free 5
  have k0 := hs.since1; have k1 := hs.since2; have k2 := hs.now2
  simp only at k0 k1 k2
  have Hb := Lib.hid hb
  clear hb
  have Hs := Lib.hid hs
  clear hs
  by_cases h1 : state = 1
  · have g1 : (state == 1) = true := by simpa using h1
    by_cases h2 : op ≤ now - since
    · have H : Hid (BS.move ⟨op, cl, ch, st, now, state, since, jam, en, chd⟩ = ⟨op, cl, ch, st, now, 2, since, jam, en, chd⟩) := by show _ = _; unfold BS.move; rw [if_pos ⟨h1, h2⟩]
      have g2 : decide (op ≤ now - since) = true := decide_eq_true h2
      clear h1 h2
      go_enter Try.func42, Try.ntmps42
      go_wp2
      go_quiet (fail)
      go_wp2
      go_end0
      rw [H.out]
      exact ⟨rfl, (Hb.out.drewN nq).set 5 _, ((But.refl b w).drewN nq).set 5 _⟩
    · have H : Hid (BS.move ⟨op, cl, ch, st, now, state, since, jam, en, chd⟩ = ⟨op, cl, ch, st, now, state, since, jam, en, chd⟩) := by
        show _ = _; unfold BS.move; rw [if_neg (fun h => h2 h.2), if_neg (fun h => by have := h.1; simp only at this; omega)]
      have g2 : decide (op ≤ now - since) = false := decide_eq_false h2
      have g3 : (state == 3) = false := by rw [h1]; rfl
      clear h1 h2
      go_enter Try.func42, Try.ntmps42
      go_wp2
      go_quiet (fail)
      go_wp2
      go_quiet (fail)
      go_wp2
      go_end0
      rw [H.out]
      exact ⟨rfl, Hb.out, by repeat (first | exact But.refl _ _ | refine But.drewN ?_ _)⟩
  · have g1 : (state == 1) = false := by simpa using h1
    by_cases h3 : state = 3
    · have g3 : (state == 3) = true := by simpa using h3
      by_cases h2 : cl ≤ now - since
      · have H : Hid (BS.move ⟨op, cl, ch, st, now, state, since, jam, en, chd⟩ = ⟨op, cl, ch, st, now, 0, since, jam, en, chd⟩) := by
          show _ = _; unfold BS.move; rw [if_neg (fun h => h1 h.1), if_pos ⟨h3, h2⟩]
        have g2 : decide (cl ≤ now - since) = true := decide_eq_true h2
        clear h1 h2 h3
        go_enter Try.func42, Try.ntmps42
        go_wp2
        go_quiet (fail)
        go_wp2
        go_quiet (fail)
        go_wp2
        go_end0
        rw [H.out]
        exact ⟨rfl, (Hb.out.drewN _).set 5 _, ((But.refl b w).drewN _).set 5 _⟩
      · have H : Hid (BS.move ⟨op, cl, ch, st, now, state, since, jam, en, chd⟩ = ⟨op, cl, ch, st, now, state, since, jam, en, chd⟩) := by
          show _ = _; unfold BS.move; rw [if_neg (fun h => h1 h.1), if_neg (fun h => h2 h.2)]
        have g2 : decide (cl ≤ now - since) = false := decide_eq_false h2
        clear h1 h2 h3
        go_enter Try.func42, Try.ntmps42
        go_wp2
        go_quiet (fail)
        go_wp2
        go_quiet (fail)
        go_wp2
        go_end0
        rw [H.out]
        exact ⟨rfl, Hb.out, by repeat (first | exact But.refl _ _ | refine But.drewN ?_ _)⟩
    · have g3 : (state == 3) = false := by simpa using h3
      have H : Hid (BS.move ⟨op, cl, ch, st, now, state, since, jam, en, chd⟩ = ⟨op, cl, ch, st, now, state, since, jam, en, chd⟩) := by
        show _ = _; unfold BS.move; rw [if_neg (fun h => h1 h.1), if_neg (fun h => h3 h.1)]
      clear h1 h3
      go_enter Try.func42, Try.ntmps42
      go_wp2
      go_quiet (fail)
      go_wp2
      go_quiet (fail)
      go_wp2
      go_end0
      rw [H.out]
      exact ⟨rfl, Hb.out, by repeat (first | exact But.refl _ _ | refine But.drewN ?_ _)⟩


/-- A breaker's cells, each by itself. -/
theorem BS.cells {s : BS} {b : Nat} {w : World} (h : Blk w b s.arr 68) :
    w.cell? ⟨b, 0, none⟩ = some (.int .i64 s.op) ∧ w.cell? ⟨b, 1, none⟩ = some (.int .i64 s.cl) ∧ w.cell? ⟨b, 2, none⟩ = some (.int .i64 s.ch) ∧ w.cell? ⟨b, 3, none⟩ = some (.int .i64 s.st) ∧
    w.cell? ⟨b, 4, none⟩ = some (.int .i64 s.now) ∧ w.cell? ⟨b, 5, none⟩ = some (.int .i64 s.state) ∧ w.cell? ⟨b, 6, none⟩ = some (.int .i64 s.since) ∧ w.cell? ⟨b, 7, none⟩ = some (.bool s.jam) ∧
    w.cell? ⟨b, 8, none⟩ = some (.int .i64 s.en) ∧ w.cell? ⟨b, 9, none⟩ = some (.int .i64 s.chd) :=
  ⟨h.cell 0 rfl, h.cell 1 rfl, h.cell 2 rfl, h.cell 3 rfl, h.cell 4 rfl, h.cell 5 rfl, h.cell 6 rfl, h.cell 7 rfl, h.cell 8 rfl, h.cell 9 rfl⟩
theorem BS.frees {s : BS} {b : Nat} {w : World} (h : Blk w b s.arr 68) : ∀ i : Nat, w.frozen? ⟨b, i, none⟩ = false := h.free

/-- The loop of pass: what it carries. -/
def PassRel (b : Nat) (s0 : BS) (t : Int) (w : World) (k : Nat) (wr : World) : Prop :=
  ∃ s : BS, s.Ok ∧ s.now = t ∧ s.store t = s0.store t ∧ (s.st - s.en).toNat ≤ k ∧ BAt b s w wr


theorem pass_rel_step {b : Nat} {s0 s : BS} {t : Int} {w w1 w2 : World} (hs : s.Ok) (hn : s.now = t) (he : s.store t = s0.store t) (hb : BAt b s w w1)
    (c1 : s.en < s.st) (c2 : s.ch ≤ t - s.chd) (h2 : Blk w1 b s.arr 68 → Blk w2 b ((s.arr.setIfInBounds 8 (.int .i64 (s.en + 1))).setIfInBounds 9 (.int .i64 (s.chd + s.ch))) 68)
    (h3 : But b w w1 → But b w w2) :
    PassRel b s0 t w (s.st - (s.en + 1)).toNat w2 := by
  have e : s.store1 t = { s with en := s.en + 1, chd := s.chd + s.ch } := by unfold BS.store1; rw [if_pos ⟨c1, c2⟩]
  obtain ⟨o1, o2⟩ := BS.store1_ok hs t hn.symm
  have o3 := BS.store_step hs ⟨c1, c2⟩
  rw [e] at o1 o2 o3
  exact ⟨_, o1, by rw [o2]; exact hn, by rw [← o3]; exact he, Nat.le_refl _, h2 hb.1, h3 hb.2⟩

set_option maxHeartbeats 1000000 in
theorem pass_c (s : BS) (hs : s.Ok) (t : Int) (t1 : s.now ≤ t) (t2 : t ≤ 1000000000) (b : Nat) (w : World) (hb : Blk w b s.arr 68) :
    Calls Try.prog 41 #[.pointer (some ⟨b, 0, none⟩), .int .i64 t] w fun e w' => e = .returned (.tuple #[]) ∧ BAt b (s.pass t) w w' := by
  have key : ∀ (s1 s2 : BS), s1 = { s with now := t } → s2 = (if s.jam then s1 else s1.move) → BS.pass s t = s2.store t := by
    intro s1 s2 e1 e2; subst e2; subst e1; rfl
  have t0 : 0 ≤ t := by have := hs.now1; omega
  obtain ⟨op, cl, ch, st, now, state, since, jam, en, chd⟩ := s
  have o1 := BS.at_ok hs t t1 t2
  have c4 : w.cell? ⟨b, 4, none⟩ = some (.int .i64 now) := hb.cell 4 rfl
  have c7 : w.cell? ⟨b, 7, none⟩ = some (.bool jam) := hb.cell 7 rfl
  have f4 : w.frozen? ⟨b, 4, none⟩ = false := hb.free 4
  have b1 : Hid (BAt b ⟨op, cl, ch, st, t, state, since, jam, en, chd⟩ w (w.setCell ⟨b, 4, none⟩ (.int .i64 t))) := ⟨hb.set 4 _, (But.refl b w).set 4 _⟩
  clear hb
  generalize hS : BS.pass ⟨op, cl, ch, st, now, state, since, jam, en, chd⟩ t = S at *
  have HS := Lib.hid hS
  clear hS
  have KEY := Lib.hid key
  clear key
  have O1 := Lib.hid o1
  clear o1
  clear hs t1
  go_enter Try.func41, Try.ntmps41
  have START : Hid (∀ (s1 : BS) (W : World), s1.Ok → s1.now = t → S = s1.store t → BAt b s1 w W → ∃ S0 : BS, S = S0.store t ∧ PassRel b S0 t w 3 W) :=
    fun s1 W h1 h2 h3 h4 => ⟨s1, h3, s1, h1, h2, rfl, by have := h1.en1; have := h1.st2; omega, h4⟩
  cases jam
  · go_wp2_with (go_at_call 42; refine (move_c _ O1.out _ _ b1.out.1).mono ?_; rintro e w' ⟨rfl, hw'⟩)
    have HR := Lib.hid (START.out _ w' (BS.move_ok O1.out) (BS.move_now _) (KEY.out _ _ rfl rfl) ⟨hw'.1, b1.out.2.trans hw'.2⟩)
    clear hw' KEY O1 b1 HS c4 c7 f4 START
    obtain ⟨S0, hS0, hr⟩ := HR.out
    have HS0 := Lib.hid hS0
    clear hS0 HR
    go_loopg [38] 3 (fun k _ wr => PassRel b S0 t w k wr)
    case atStart => exact hr
    case round =>
      clear hr
      obtain ⟨s, hs, hn, he, hk, hb⟩ := hrel
      obtain ⟨c0, c1, c2, c3, c4, c5, c6, c7, c8, c9⟩ := BS.cells hb.1
      have f8 := BS.frees hb.1 8
      have f9 := BS.frees hb.1 9
      have e1 := hs.en1
      have e2 := hs.st2
      have e3 := hs.chd1
      have e4 := hs.chd2
      have e5 := hs.ch1
      have e6 := hs.ch2
      rw [hn] at e4
      have HE : Hid (¬ (s.en < s.st ∧ s.ch ≤ t - s.chd) → BAt b S w wr) := fun h => by rw [HS0.out, ← he, BS.store_stop h]; exact hb
      by_cases h1 : s.en < s.st
      · have g1 : decide (s.en < s.st) = true := decide_eq_true h1
        by_cases h2 : s.ch ≤ t - s.chd
        · have g2 : decide (s.ch ≤ t - s.chd) = true := decide_eq_true h2
          have HP : Hid (∀ w2, _ → _ → PassRel b S0 t w _ w2) := fun w2 => pass_rel_step (w2 := w2) hs hn he hb h1 h2
          clear he hb hs hn HE
          go_wp2
          go_quiet (fail)
          go_wp2
          go_region
          go_wp2
          go_roundg (s.st - (s.en + 1)).toNat
          case measure => omega
          case rel => exact HP.out _ (fun h => by repeat (first | exact h | refine Blk.drew ?_ | refine Blk.drewN ?_ _ | refine Blk.set ?_ _ _)) (fun h => by repeat (first | exact h | refine But.drewN ?_ _ | refine But.drew ?_ | refine But.set ?_ _ _))
        · have g2 : decide (s.ch ≤ t - s.chd) = false := decide_eq_false h2
          have HX := Lib.hid (HE.out (fun h => h2 h.2))
          clear he hb hs hn h2 HE
          go_wp2
          go_quiet (fail)
          go_wp2
          go_end0
          exact ⟨rfl, HX.out.1, HX.out.2.drewN _⟩
      · have g1 : decide (s.en < s.st) = false := decide_eq_false h1
        have HX := Lib.hid (HE.out (fun h => h1 h.1))
        clear he hb hs hn h1 HE
        go_wp2
        go_quiet (fail)
        go_wp2
        go_end0
        exact ⟨rfl, HX.out.1, HX.out.2.drewN _⟩
  · go_wp2
    have HR := Lib.hid (START.out _ _ O1.out rfl (KEY.out _ _ rfl rfl) b1.out)
    clear KEY O1 b1 HS c4 c7 f4 START
    obtain ⟨S0, hS0, hr⟩ := HR.out
    have HS0 := Lib.hid hS0
    clear hS0 HR
    go_loopg [38] 3 (fun k _ wr => PassRel b S0 t w k wr)
    case atStart => exact hr
    case round =>
      clear hr
      obtain ⟨s, hs, hn, he, hk, hb⟩ := hrel
      obtain ⟨c0, c1, c2, c3, c4, c5, c6, c7, c8, c9⟩ := BS.cells hb.1
      have f8 := BS.frees hb.1 8
      have f9 := BS.frees hb.1 9
      have e1 := hs.en1
      have e2 := hs.st2
      have e3 := hs.chd1
      have e4 := hs.chd2
      have e5 := hs.ch1
      have e6 := hs.ch2
      rw [hn] at e4
      have HE : Hid (¬ (s.en < s.st ∧ s.ch ≤ t - s.chd) → BAt b S w wr) := fun h => by rw [HS0.out, ← he, BS.store_stop h]; exact hb
      by_cases h1 : s.en < s.st
      · have g1 : decide (s.en < s.st) = true := decide_eq_true h1
        by_cases h2 : s.ch ≤ t - s.chd
        · have g2 : decide (s.ch ≤ t - s.chd) = true := decide_eq_true h2
          have HP : Hid (∀ w2, _ → _ → PassRel b S0 t w _ w2) := fun w2 => pass_rel_step (w2 := w2) hs hn he hb h1 h2
          clear he hb hs hn HE
          go_wp2
          go_quiet (fail)
          go_wp2
          go_region
          go_wp2
          go_roundg (s.st - (s.en + 1)).toNat
          case measure => omega
          case rel => exact HP.out _ (fun h => by repeat (first | exact h | refine Blk.drew ?_ | refine Blk.drewN ?_ _ | refine Blk.set ?_ _ _)) (fun h => by repeat (first | exact h | refine But.drewN ?_ _ | refine But.drew ?_ | refine But.set ?_ _ _))
        · have g2 : decide (s.ch ≤ t - s.chd) = false := decide_eq_false h2
          have HX := Lib.hid (HE.out (fun h => h2 h.2))
          clear he hb hs hn h2 HE
          go_wp2
          go_quiet (fail)
          go_wp2
          go_end0
          exact ⟨rfl, HX.out.1, HX.out.2.drewN _⟩
      · have g1 : decide (s.en < s.st) = false := decide_eq_false h1
        have HX := Lib.hid (HE.out (fun h => h1 h.1))
        clear he hb hs hn h1 HE
        go_wp2
        go_quiet (fail)
        go_wp2
        go_end0
        exact ⟨rfl, HX.out.1, HX.out.2.drewN _⟩
end Go.Proofs.Ytjkgkoedkphnjaa
