/- Trip and Tick of a device for reclosing. -/
import Derived.Test.YtjkgkoedkphnjaaRec2
namespace Go.Proofs.Ytjkgkoedkphnjaa
open Go.RowKit

/-- A device in block b, its list of dead times elsewhere; both lie below N. -/
def RDev (N : Nat) (b : Nat) (l : List Int) (s : RS) (w : World) : Prop :=
  ∃ g off cap, Blk w b (s.arr (.slice (some ⟨g, off, none⟩) l.length cap)) 76 ∧ g ≠ b ∧ b < N ∧ g < N ∧ N ≤ w.heap.size ∧ l.length ≤ cap ∧ (∀ j u, (ints l)[j]? = some u → w.cell? ⟨g, off + j, none⟩ = some u) ∧ s.Ok l
theorem RDev.below {N b : Nat} {l : List Int} {s : RS} {w w' : World} (h : RDev N b l s w) (k : Below N w w') : RDev N b l s w' := by
  obtain ⟨g, off, cap, h1, h2, h3, h4, h5, h6, h7, h8⟩ := h
  exact ⟨g, off, cap, below_blk k h1 h3, h2, h3, h4, Nat.le_trans h5 k.size, h6, fun j u hj => by rw [k.cell (by exact h4)]; exact h7 j u hj, h8⟩
/-- What a method leaves: the device turned, all else as it was. -/
def RGo (N b : Nat) (l : List Int) (s : RS) (w w' : World) : Prop := RDev N b l s w' ∧ But b w w'
theorem RGo.of {N b : Nat} {l : List Int} {s : RS} {g off cap : Nat} {w w' : World} (h : RAt (.slice (some ⟨g, off, none⟩) l.length cap) b s w w') (h2 : g ≠ b) (h3 : b < N) (h4 : g < N) (h5 : N ≤ w.heap.size) (h6 : l.length ≤ cap)
    (h7 : ∀ j u, (ints l)[j]? = some u → w.cell? ⟨g, off + j, none⟩ = some u) (h8 : s.Ok l) : RGo N b l s w w' :=
  ⟨⟨g, off, cap, h.1, h2, h3, h4, Nat.le_trans h5 h.2.size, h6, fun j u hj => by rw [World.cell?_of_block (w := w) (h.2.block g (by omega) (fun e => h2 (by cases e; rfl)))]; exact h7 j u hj, h8⟩, h.2⟩
theorem RS.pass_ok {l : List Int} {s : RS} (h : s.Ok l) {t : Int} (ht : s.ok t = true) : (s.pass t).Ok l := by
  have h1 : s.now ≤ t := by unfold RS.ok at ht; simp at ht; exact ht.1
  have := h.now1
  unfold RS.pass; split
  · exact ⟨h.rc1, h.rc2, by show _ ≤ t; omega, Nat.zero_le _, h.len, h.dead⟩
  · exact ⟨h.rc1, h.rc2, by show _ ≤ t; omega, h.att1, h.len, h.dead⟩
theorem RS.pass_rc (s : RS) (t : Int) : (s.pass t).rc = s.rc := by unfold RS.pass; split <;> rfl

set_option maxHeartbeats 2000000 in
theorem rtrip_c (N b : Nat) (l : List Int) (s : RS) (t : Int) (w : World) (hd : RDev N b l s w) :
    Calls Try.prog 29 #[.pointer (some ⟨b, 0, none⟩), .int .i64 t] w fun e w' => e = .returned (.tuple #[.int .i64 (s.trip l t).1, .int .i64 (s.trip l t).2.1]) ∧ RGo N b l (s.trip l t).2.2 w w' := by
  obtain ⟨g, off, cap, hb, d2, d3, d4, d5, d6, d7, d8⟩ := hd
  obtain ⟨n, hn⟩ : ∃ n, l.length = n := ⟨_, rfl⟩
  have hp := rperm_c _ s t b w hb
  have hq := rpass_c _ s t b w hb
  obtain ⟨c0, c1, c2, c3, c4, c5, fr⟩ := RCells.of hb
  have bl := hb.lt
  have H : Hid (s.trip l t = if s.ok t = false then (0, 12, s) else if s.state = 1 ∨ s.state = 3 then (0, 11, s)
  else if (s.pass t).att = l.length then (2, 0, { (s.pass t) with state := 3 })
  else (0, 0, { (s.pass t) with state := 1, til := t + l.getD (s.pass t).att 0 })) := rfl
  have HG : Hid (∀ s' w', RAt (.slice (some ⟨g, off, none⟩) l.length cap) b s' w w' → s'.Ok l → RGo N b l s' w w') := fun s' w' hr ho => RGo.of hr d2 d3 d4 d5 d6 d7 ho
  have HS : Hid (RGo N b l s w w) := RGo.of ⟨hb, But.refl _ _⟩ d2 d3 d4 d5 d6 d7 d8
  have HO := Lib.hid d8
  have HC := Lib.hid d7
  have HP := Lib.hid hp
  have HQ := Lib.hid hq
  have HOK : Hid (s.ok t = true → (s.pass t).Ok l) := fun h => RS.pass_ok d8 h
  clear hp hq d7 d8 hb
  generalize s.trip l t = R at *
  generalize hpt : s.pass t = u at *
  clear hpt
  have HN := Lib.hid hn
  rw [hn] at HQ HG c0
  clear hn
  cases ht : s.ok t
  · have HR := Lib.hid (H.out.trans (if_pos ht))
    rw [ht] at HP
    clear H ht c0 c1 c2 c3 c4 c5
    go_enter Try.func29, Try.ntmps29
    go_wp2_with fail
    refine HP.out.mono ?_; rintro e w' ⟨rfl, rfl⟩
    go_wp2_with fail
    go_ret2
    rw [HR.out]
    exact ⟨rfl, HS.out⟩
  have HT := Lib.hid ht
  have t1 : s.now ≤ t := by unfold RS.ok at ht; simp at ht; exact ht.1
  have t2 : t ≤ 1000000000 := by unfold RS.ok at ht; simp at ht; exact ht.2
  have H2 := Lib.hid (H.out.trans (if_neg (by rw [ht]; decide)))
  rw [ht] at HP
  clear H ht
  by_cases h1 : s.state = 1
  · have g1 : (s.state == 1) = true := by simp [h1]
    have HR := Lib.hid (H2.out.trans (if_pos (Or.inl h1)))
    clear h1 H2
    go_enter Try.func29, Try.ntmps29
    go_wp2_with fail
    refine HP.out.mono ?_; rintro e w' ⟨rfl, rfl⟩
    go_wp2_with fail
    go_ret2
    rw [HR.out]
    exact ⟨rfl, HS.out⟩
  have g1 : (s.state == 1) = false := by simp [h1]
  by_cases h3 : s.state = 3
  · have g3 : (s.state == 3) = true := by simp [h3]
    have HR := Lib.hid (H2.out.trans (if_pos (Or.inr h3)))
    clear h1 h3 H2
    go_enter Try.func29, Try.ntmps29
    go_wp2_with fail
    refine HP.out.mono ?_; rintro e w' ⟨rfl, rfl⟩
    go_wp2_with fail
    go_ret2
    rw [HR.out]
    exact ⟨rfl, HS.out⟩
  have g3 : (s.state == 3) = false := by simp [h3]
  have H3 := Lib.hid (H2.out.trans (if_neg (fun h => h.elim h1 h3)))
  clear h1 h3 H2
  have n1 := HO.out.now1
  have HU := Lib.hid (HOK.out HT.out)
  have ua := HU.out.att1
  rw [HN.out] at ua
  by_cases ha : u.att = n
  · have ga : ((u.att : Int) == (n : Int)) = true := by simp [ha]
    have HR := Lib.hid (H3.out.trans (if_pos (by rw [HN.out]; exact ha)))
    clear H3 ha
    go_enter Try.func29, Try.ntmps29
    go_wp2_with fail
    refine HP.out.mono ?_; rintro e w' ⟨rfl, rfl⟩
    go_wp2_with fail
    refine HQ.out.mono ?_; rintro e w1 ⟨rfl, hw1⟩
    clear c0 c1 c2 c3 c4 c5 fr
    obtain ⟨e0, e1, e2, e3, e4, e5, fe⟩ := RCells.of hw1.1
    have bl1 := hw1.1.lt
    have H1 := Lib.hid hw1
    clear hw1
    go_wp2_with fail
    refine wp_region_quiet_lit (by kernel_rfl) (by kernel_rfl) ?_
    repeat (first | go_big_quiet_step (fail) | (go_big_quiet_want; go_simp; go_big_quiet_on))
    refine wpQuiet_nil ?_
    intro _ hw'
    obtain ⟨nq, hw''⟩ := hw'
    subst hw''
    go_wp2_with fail
    go_ret2
    rw [HR.out]
    refine ⟨rfl, HG.out _ _ ⟨(((H1.out.1.drewN _).set 3 _).congr (by unfold RS.arr; simp)), (H1.out.2.drewN _).set 3 _⟩ ?_⟩
    exact ⟨HU.out.rc1, HU.out.rc2, HU.out.now1, HU.out.att1, HU.out.len, HU.out.dead⟩
  · have ga : ((u.att : Int) == (n : Int)) = false := by simp; omega
    have HR := Lib.hid (H3.out.trans (if_neg (by rw [HN.out]; exact ha)))
    have hlt : u.att < n := by omega
    have hlt' : u.att < l.length := by rw [HN.out]; exact hlt
    have x0 := HC.out u.att _ (ints_get hlt')
    obtain ⟨q1, q2⟩ := HU.out.dead u.att hlt'
    generalize hD : l.getD u.att 0 = D at *
    have HD := Lib.hid hD
    clear hD
    have gw : IntKind.i64.wrap (t + D) = t + D := IntWalk.i64_in _ (by omega)
    clear H3 ha hlt'
    go_enter Try.func29, Try.ntmps29
    go_wp2_with fail
    refine HP.out.mono ?_; rintro e w' ⟨rfl, rfl⟩
    go_wp2_with fail
    refine HQ.out.mono ?_; rintro e w1 ⟨rfl, hw1⟩
    clear c0 c1 c2 c3 c4 c5 fr
    obtain ⟨e0, e1, e2, e3, e4, e5, fe⟩ := RCells.of hw1.1
    have bl1 := hw1.1.lt
    rw [← World.cell?_of_block (w := w) (w' := w1) (a := ⟨g, off + u.att, none⟩) (hw1.2.block g (by omega) (fun e => d2 (by cases e; rfl)))] at x0
    have H1 := Lib.hid hw1
    clear hw1
    go_wp2_with fail
    refine wp_region_quiet_lit (by kernel_rfl) (by kernel_rfl) ?_
    repeat (first | go_big_quiet_step (fail) | (go_big_quiet_want; go_simp; go_big_quiet_on))
    refine wpQuiet_nil ?_
    intro _ hw'
    obtain ⟨nq, hw''⟩ := hw'
    subst hw''
    go_wp2_with fail
    go_region
    go_wp2_with fail
    go_ret2
    rw [HR.out]
    refine ⟨rfl, HG.out _ _ ⟨(((H1.out.1.drewN _).set 3 _).set 4 _).congr (by unfold RS.arr; simp), ((H1.out.2.drewN _).set 3 _).set 4 _⟩ ?_⟩
    exact ⟨HU.out.rc1, HU.out.rc2, HU.out.now1, HU.out.att1, HU.out.len, HU.out.dead⟩

/-- In a dead time not all attempts are spent. -/
def RS.Wait (l : List Int) (s : RS) : Prop := s.state = 1 → s.att < l.length
theorem RS.pass_wait {l : List Int} {s : RS} (h : s.Wait l) (t : Int) : (s.pass t).Wait l := by
  unfold RS.pass; split
  · rename_i h2; intro h1; exact absurd h1 (by show ¬ (0 : Int) = 1; decide)
  · exact h
theorem RS.trip_wait {l : List Int} {s : RS} (h : s.Wait l) (ho : s.Ok l) (t : Int) : (s.trip l t).2.2.Wait l := by
  unfold RS.trip; split
  · exact h
  · rename_i ht
    split
    · exact h
    · split
      · intro h1; exact absurd h1 (by show ¬ (3 : Int) = 1; decide)
      · rename_i hne
        intro _
        have := (RS.pass_ok ho (t := t) (by simpa using ht)).att1
        show (s.pass t).att < _
        omega
theorem RS.tick_wait {l : List Int} {s : RS} (h : s.Wait l) (t : Int) : (s.tick t).2.2.Wait l := by
  unfold RS.tick; split
  · exact h
  · split
    · intro h1; exact absurd h1 (by show ¬ (2 : Int) = 1; decide)
    · exact RS.pass_wait h t

set_option maxHeartbeats 2000000 in
theorem rtick_c (N b : Nat) (l : List Int) (s : RS) (t : Int) (w : World) (hd : RDev N b l s w) (hwt : s.Wait l) :
    Calls Try.prog 30 #[.pointer (some ⟨b, 0, none⟩), .int .i64 t] w fun e w' => e = .returned (.tuple #[.int .i64 (s.tick t).1, .int .i64 (s.tick t).2.1]) ∧ RGo N b l (s.tick t).2.2 w w' := by
  obtain ⟨g, off, cap, hb, d2, d3, d4, d5, d6, d7, d8⟩ := hd
  have hp := rperm_c _ s t b w hb
  have hq := rpass_c _ s t b w hb
  obtain ⟨c0, c1, c2, c3, c4, c5, fr⟩ := RCells.of hb
  have bl := hb.lt
  have H : Hid (s.tick t = if s.ok t = false then (0, 12, s) else if (s.pass t).state = 1 ∧ (s.pass t).til ≤ t then (1, 0, { (s.pass t) with att := (s.pass t).att + 1, state := 2, til := t + s.rc }) else (0, 0, s.pass t)) := rfl
  have HG : Hid (∀ s' w', RAt (.slice (some ⟨g, off, none⟩) l.length cap) b s' w w' → s'.Ok l → RGo N b l s' w w') := fun s' w' hr ho => RGo.of hr d2 d3 d4 d5 d6 d7 ho
  have HS : Hid (RGo N b l s w w) := RGo.of ⟨hb, But.refl _ _⟩ d2 d3 d4 d5 d6 d7 d8
  have HO := Lib.hid d8
  have HP := Lib.hid hp
  have HQ := Lib.hid hq
  have HOK : Hid (s.ok t = true → (s.pass t).Ok l) := fun h => RS.pass_ok d8 h
  have HW : Hid ((s.pass t).Wait l) := RS.pass_wait hwt t
  have HRC := RS.pass_rc s t
  clear hp hq d7 d8 hb hwt
  generalize s.tick t = R at *
  generalize hpt : s.pass t = u at *
  clear hpt
  cases ht : s.ok t
  · have HR := Lib.hid (H.out.trans (if_pos ht))
    rw [ht] at HP
    clear H ht c0 c1 c2 c3 c4 c5 HRC
    go_enter Try.func30, Try.ntmps30
    go_wp2_with fail
    refine HP.out.mono ?_; rintro e w' ⟨rfl, rfl⟩
    go_wp2_with fail
    go_ret2
    rw [HR.out]
    exact ⟨rfl, HS.out⟩
  have HT := Lib.hid ht
  have t1 : s.now ≤ t := by unfold RS.ok at ht; simp at ht; exact ht.1
  have t2 : t ≤ 1000000000 := by unfold RS.ok at ht; simp at ht; exact ht.2
  have H2 := Lib.hid (H.out.trans (if_neg (by rw [ht]; decide)))
  rw [ht] at HP
  have n1 := HO.out.now1
  have q1 := HO.out.rc1
  have q2 := HO.out.rc2
  rw [← HRC] at q1 q2 H2
  have HU := Lib.hid (HOK.out ht)
  clear H ht HRC
  have ua := HU.out.att1
  have ul := HU.out.len
  by_cases h1 : u.state = 1
  · have g1 : (u.state != 1) = false := by simp [h1]
    have uw := HW.out h1
    by_cases h3 : u.til ≤ t
    · have g3 : decide (t < u.til) = false := decide_eq_false (by omega)
      have HR := Lib.hid (H2.out.trans (if_pos ⟨h1, h3⟩))
      clear h1 h3 H2
      go_enter Try.func30, Try.ntmps30
      go_wp2_with fail
      refine HP.out.mono ?_; rintro e w' ⟨rfl, rfl⟩
      go_wp2_with fail
      refine HQ.out.mono ?_; rintro e w1 ⟨rfl, hw1⟩
      clear c0 c1 c2 c3 c4 c5 fr
      obtain ⟨e0, e1, e2, e3, e4, e5, fe⟩ := RCells.of hw1.1
      have bl1 := hw1.1.lt
      have H1 := Lib.hid hw1
      clear hw1
      go_wp2_with fail
      go_ret2
      rw [HR.out]
      refine ⟨rfl, HG.out _ _ ⟨(((H1.out.1.set 5 _).set 3 _).set 4 _).congr (by unfold RS.arr; simp), ((H1.out.2.set 5 _).set 3 _).set 4 _⟩ ?_⟩
      exact ⟨HU.out.rc1, HU.out.rc2, HU.out.now1, uw, HU.out.len, HU.out.dead⟩
    · have g3 : decide (t < u.til) = true := decide_eq_true (by omega)
      have HR := Lib.hid (H2.out.trans (if_neg (fun h => h3 h.2)))
      clear h1 h3 H2
      go_enter Try.func30, Try.ntmps30
      go_wp2_with fail
      refine HP.out.mono ?_; rintro e w' ⟨rfl, rfl⟩
      go_wp2_with fail
      refine HQ.out.mono ?_; rintro e w1 ⟨rfl, hw1⟩
      clear c0 c1 c2 c3 c4 c5 fr
      obtain ⟨e0, e1, e2, e3, e4, e5, fe⟩ := RCells.of hw1.1
      have H1 := Lib.hid hw1
      clear hw1
      go_wp2_with fail
      go_ret2
      rw [HR.out]
      exact ⟨rfl, HG.out _ _ H1.out HU.out⟩
  · have g1 : (u.state != 1) = true := by simp [h1]
    have HR := Lib.hid (H2.out.trans (if_neg (fun h => h1 h.1)))
    clear h1 H2
    go_enter Try.func30, Try.ntmps30
    go_wp2_with fail
    refine HP.out.mono ?_; rintro e w' ⟨rfl, rfl⟩
    go_wp2_with fail
    refine HQ.out.mono ?_; rintro e w1 ⟨rfl, hw1⟩
    clear c0 c1 c2 c3 c4 c5 fr
    obtain ⟨e0, e1, e2, e3, e4, e5, fe⟩ := RCells.of hw1.1
    have H1 := Lib.hid hw1
    clear hw1
    go_wp2_with fail
    go_ret2
    rw [HR.out]
    exact ⟨rfl, HG.out _ _ H1.out HU.out⟩
end Go.Proofs.Ytjkgkoedkphnjaa
