/- reclose.Shots, second part. -/
import Derived.Test.YtjkgkoedkphnjaaRec5
namespace Go.Proofs.Ytjkgkoedkphnjaa
open Go.RowKit

/-- What Shots does. -/
def shotsGo (l : List Int) : List Int → Int → RS → List Int → List Int × Int × Int
  | [], _, s, out => ((stepP s out 1000000001).2, 0, 0)
  | t :: ts, i, s, out =>
    if ((stepP s out t).1.trip l t).2.1 ≠ 0 then ([], 0, ((stepP s out t).1.trip l t).2.1)
    else if ((stepP s out t).1.trip l t).1 = 2 then ((stepP s out t).2, i + 1, 0)
    else shotsGo l ts (i + 1) ((stepP s out t).1.trip l t).2.2 (stepP s out t).2
def shotsR (l : List Int) (rc : Int) (ts : List Int) : List Int × Int × Int :=
  if recE l rc ≠ 0 then ([], 0, recE l rc) else if 256 < ts.length then ([], 0, 2) else shotsGo l ts 0 (RS.fresh rc) []
theorem shotsGo_drop {l ts : List Int} {k : Nat} (h : k < ts.length) (s : RS) (out : List Int) : shotsGo l (ts.drop k) k s out =
    if ((stepP s out (ts.getD k 0)).1.trip l (ts.getD k 0)).2.1 ≠ 0 then ([], 0, ((stepP s out (ts.getD k 0)).1.trip l (ts.getD k 0)).2.1)
    else if ((stepP s out (ts.getD k 0)).1.trip l (ts.getD k 0)).1 = 2 then ((stepP s out (ts.getD k 0)).2, (k : Int) + 1, 0)
    else shotsGo l (ts.drop (k + 1)) ((k + 1 : Nat) : Int) ((stepP s out (ts.getD k 0)).1.trip l (ts.getD k 0)).2.2 (stepP s out (ts.getD k 0)).2 := by
  rw [List.drop_eq_getElem_cons h]
  conv => lhs; unfold shotsGo
  simp [h]
theorem stepP_len (s : RS) (out : List Int) (t : Int) : (stepP s out t).2.length ≤ out.length + 1 := by unfold stepP; split <;> simp

/-- The answer of Shots, as a value. -/
def ShotsIs (r : List Int × Int × Int) (w : World) (e : Ending) (w' : World) : Prop :=
  ∃ v, e = .returned (.tuple #[v, .int .i64 r.2.1, .int .i64 r.2.2]) ∧ IVal w' v r.1 ∧ Below w.heap.size w w'
theorem ival_nil (w : World) : IVal w (.slice none 0 0) [] := Or.inl ⟨rfl, rfl, none, 0, rfl⟩

theorem row_slice {W : World} {base : Nat} {e : TypeId} {sz n : Nat} {v : Value} {xs : List Value} (h : W.ownsRow base e sz v n xs) : ∃ a c, v = .slice a n c := by
  rcases h.2 with ⟨rfl, rfl⟩ | ⟨g, cap, cur, rfl, _⟩
  · exact ⟨none, 0, rfl⟩
  · exact ⟨_, cap, rfl⟩
theorem SI.start {w0 w1 : World} {b : Nat} {l : List Int} {s : RS} (hd : RDev w1.heap.size b l s w1) (hb : Below w0.heap.size w0 w1) (h0 : w0.heap.size ≤ b) (hw : s.Wait l) :
    SI w0 w1.heap.size b l s [] (.slice none 0 0) ((w1.alloc (.cells #[.pointer (some ⟨b, 0, none⟩)] 49)).alloc (.cells #[.slice none 0 0] 39)) := by
  have hs : w0.heap.size ≤ w1.heap.size := hb.size
  have k1 : Blk (w1.alloc (.cells #[.pointer (some ⟨b, 0, none⟩)] 49)) w1.heap.size #[.pointer (some ⟨b, 0, none⟩)] 49 := Blk.new _ _ _
  have k2 : Below w1.heap.size w1 (w1.alloc (.cells #[.pointer (some ⟨b, 0, none⟩)] 49)) := belowA (Below.refl _ w1) _
  have sz : (w1.alloc (.cells #[.pointer (some ⟨b, 0, none⟩)] 49)).heap.size = w1.heap.size + 1 := by simp
  generalize (w1.alloc (.cells #[.pointer (some ⟨b, 0, none⟩)] 49)) = W at *
  have k3 := k2.alloc k2.size (.cells #[.slice none 0 0] 39)
  refine ⟨hd.below k3, hw, (k1.alloc _).cell 0 rfl, ?_, World.ownsRow_nil _ _ _ _, by simp; omega, belowT hb k3, h0⟩
  rw [← sz]; exact Blk.new _ _ _

set_option maxHeartbeats 4000000 in
theorem shots_c (v tv : Value) (l : List Int) (rc : Int) (ts : List Int) (w : World) (hv : IVal w v l) (htv : IVal w tv ts) :
    Calls Try.prog 25 #[.agg #[v, .int .i64 rc], tv] w fun e w' => ShotsIs (shotsR l rc ts) w e w' := by
  obtain ⟨a, cap, rfl⟩ := hv.slice
  obtain ⟨ta, tcap, rfl⟩ := htv.slice
  have hn : ts.length ≤ 9223372036854775807 := by
    rcases htv with ⟨h, _⟩ | ⟨_, _, _, _, _, h, _⟩
    · omega
    · exact h
  have H : Hid (shotsR l rc ts = if recE l rc ≠ 0 then ([], 0, recE l rc) else if 256 < ts.length then ([], 0, 2) else shotsGo l ts 0 (RS.fresh rc) []) := rfl
  generalize shotsR l rc ts = R at *
  obtain ⟨n, hN⟩ : ∃ n, l.length = n := ⟨_, rfl⟩
  obtain ⟨m, hM⟩ : ∃ m, ts.length = m := ⟨_, rfl⟩
  have HN := Lib.hid hN
  have HM := Lib.hid hM
  have HV : Hid (∀ W, Below w.heap.size w W → IVal W (.slice a n cap) l) := fun W hW => by show Reads _ _ _ _; rw [← hN]; exact hv.below hW
  have HT : Hid (Reads w (.slice ta m tcap) m (ints ts)) := by show Reads _ _ _ _; rw [← hM]; exact htv
  rw [hM] at hn H ⊢
  rw [hN]
  clear hv htv hN hM
  by_cases h0 : recE l rc ≠ 0
  · have HR := Lib.hid (H.out.trans (if_pos h0))
    have HC : Hid _ := Lib.hid (fun W hW => rnew_bad (.slice a n cap) l rc W (HV.out W hW) h0)
    have g0 : (recE l rc != 0) = true := by simpa using h0
    generalize recE l rc = E at *
    clear H h0
    go_enter Try.func25, Try.ntmps25
    go_wp2_with fail
    refine (HC.out _ (belowA (Below.refl _ w) _)).mono ?_; rintro e w1 ⟨rfl, hb1⟩
    have HB := Lib.hid (belowT (belowA (Below.refl _ w) _) hb1)
    clear hb1
    go_wp2_with fail
    go_ret3
    rw [HR.out]
    exact ⟨_, rfl, ival_nil _, by repeat (first | exact HB.out | refine belowA ?_ _)⟩
  have h0' : recE l rc = 0 := by omega
  have H1 := Lib.hid (H.out.trans (if_neg h0))
  have HC : Hid _ := Lib.hid (fun W hW => rnew_ok (.slice a n cap) l rc W (HV.out W hW) h0')
  have HW : Hid ((RS.fresh rc).Wait l) := fun h => absurd h (by show ¬ (0 : Int) = 1; decide)
  clear H h0 h0'
  by_cases h2 : 256 < m
  · have HR := Lib.hid (H1.out.trans (if_pos h2))
    have h2' : (256 : Int) < m := by omega
    clear H1
    go_enter Try.func25, Try.ntmps25
    go_wp2_with fail
    refine (HC.out _ (belowA (Below.refl _ w) _)).mono ?_; rintro e w1 ⟨b, rfl, hb0, hdev, hb1⟩
    have HB := Lib.hid (belowT (belowA (Below.refl _ w) _) hb1)
    clear hb1 hdev hb0
    go_wp2_with fail
    go_ret3
    rw [HR.out]
    refine ⟨_, rfl, ival_nil _, ?_⟩
    exact belowA HB.out _
  have HR := Lib.hid (H1.out.trans (if_neg h2))
  have h2' : (m : Int) ≤ 256 := by omega
  have h2n : m ≤ 256 := by omega
  clear H1 h2
  generalize RS.fresh rc = s0 at *
  have HR2 : Hid (R = shotsGo l (ts.drop 0) (0 : Nat) s0 []) := HR.out
  clear HR
  go_enter Try.func25, Try.ntmps25
  go_wp2_with fail
  refine (HC.out _ (belowA (Below.refl _ w) _)).mono ?_; rintro e w1 ⟨b, rfl, hb0, hdev, hb1⟩
  have HB := Lib.hid (belowT (belowA (Below.refl _ w) _) hb1)
  have HS := Lib.hid (SI.start (w0 := w) hdev HB.out (by simp at hb0; omega) HW.out)
  have HD := Lib.hid hdev
  clear hb1 hdev hb0 HW HC
  go_wp2_with fail
  go_loopw [31] (fun i wr => ∃ k : Nat, k ≤ m ∧ i = .int .i64 k ∧ ∃ s out outv, SI w w1.heap.size b l s out outv wr ∧ out.length ≤ k ∧ R = shotsGo l (ts.drop k) k s out) (fun i _ => m - (intOf i).toNat)
  case atStart => exact ⟨0, Nat.zero_le _, rfl, s0, [], .slice none 0 0, HS.out, Nat.le_refl _, HR2.out⟩
  case round =>
    obtain ⟨k, hk, rfl, s, out, outv, hs, hl, hr⟩ := hrel
    have HI := Lib.hid hs
    have x0 := hs.x
    have o0 := hs.o.cell 0 rfl
    have lN := hs.sz
    clear hs
    by_cases hlt : k < m
    · obtain ⟨tb, toff, tcap', hvv, _, _, hbl, hc⟩ := HT.out.addr (by omega)
      simp only [Value.slice.injEq] at hvv
      obtain ⟨rfl, _, rfl⟩ := hvv
      have hlk : k < ts.length := by rw [HM.out]; exact hlt
      have y0 := hc k _ (ints_get hlk)
      rw [← HI.out.bel.cell (by exact hbl)] at y0
      have hd := hr.trans (shotsGo_drop hlk s out)
      generalize ts.getD k 0 = t at *
      have HDr := Lib.hid hd
      have hq := stepP_len s out t
      clear hd hc hr
      have HA := Lib.hid (attempt_c w w1.heap.size b l s out outv t wr HI.out (by omega))
      generalize stepP s out t = P at *
      go_wp2_with fail
      refine HA.out.mono ?_; rintro e w2 ⟨rfl, ov2, hs2⟩
      have x2 := hs2.x
      have HI2 := Lib.hid hs2
      have HTr := Lib.hid (rtrip_c w1.heap.size b l P.1 t w2 hs2.dev)
      have HK : Hid (∀ w', RGo w1.heap.size b l (P.1.trip l t).2.2 w2 w' → SI w w1.heap.size b l (P.1.trip l t).2.2 P.2 ov2 w') := fun w' hk => hs2.but hk (RS.trip_wait hs2.wt hs2.dev.ok t)
      clear hs2 HA x0 o0 y0 HI
      generalize P.1.trip l t = T at *
      go_wp2_with fail
      refine HTr.out.mono ?_; rintro e w3 ⟨rfl, hg3⟩
      have hs3 := HK.out _ hg3
      obtain ⟨a3, c3, rfl⟩ := row_slice hs3.row
      have o3 := hs3.o.cell 0 rfl
      have l3 := hs3.sz
      have HI3 := Lib.hid hs3
      clear hs3 hg3 HK HTr HI2 x2
      by_cases e1 : T.2.1 = 0
      · have g1 : (T.2.1 != 0) = false := by simp [e1]
        have HDr2 := Lib.hid (HDr.out.trans (if_neg (fun h => h e1)))
        clear HDr
        by_cases e2 : T.1 = 2
        · have g2 : (T.1 == 2) = true := by simp [e2]
          have HR := Lib.hid (HDr2.out.trans (if_pos e2))
          clear HDr2 e2 e1
          have gk : IntKind.i64.wrap ((k : Int) + 1) = (k : Int) + 1 := IntWalk.i64_in _ (by omega)
          go_wp2_with fail
          go_ret3
          rw [HR.out]
          exact ⟨_, rfl, Reads.of_owns HI3.out.row (by show P.2.length ≤ _; omega), HI3.out.bel⟩
        · have g2 : (T.1 == 2) = false := by simp [e2]
          have HR := Lib.hid (HDr2.out.trans (if_neg e2))
          clear HDr2 e2 e1
          go_wp2_with fail
          go_roundw
          case rel => exact ⟨k + 1, by omega, by go_num, T.2.2, P.2, _, HI3.out, by omega, HR.out⟩
          case measure => simp [intOf]; omega
      · have g1 : (T.2.1 != 0) = true := by simp [e1]
        have HR := Lib.hid (HDr.out.trans (if_pos e1))
        clear HDr e1
        go_wp2_with fail
        go_ret3
        rw [HR.out]
        exact ⟨_, rfl, ival_nil _, HI3.out.bel⟩
    · have hkn : ts.drop k = [] := List.drop_eq_nil_of_le (by rw [HM.out]; omega)
      rw [hkn] at hr
      have HR : Hid (R = ((stepP s out 1000000001).2, 0, 0)) := hr
      have hq := stepP_len s out 1000000001
      have HA := Lib.hid (attempt_c w w1.heap.size b l s out outv 1000000001 wr HI.out (by omega))
      generalize stepP s out 1000000001 = P at *
      clear hr hkn
      go_wp2_with fail
      refine HA.out.mono ?_; rintro e w2 ⟨rfl, ov2, hs2⟩
      obtain ⟨a3, c3, rfl⟩ := row_slice hs2.row
      have o3 := hs2.o.cell 0 rfl
      have HI2 := Lib.hid hs2
      clear hs2 HA x0 o0 HI
      go_wp2_with fail
      go_ret3
      rw [HR.out]
      exact ⟨_, rfl, Reads.of_owns HI2.out.row (by show P.2.length ≤ _; omega), HI2.out.bel⟩
end Go.Proofs.Ytjkgkoedkphnjaa
