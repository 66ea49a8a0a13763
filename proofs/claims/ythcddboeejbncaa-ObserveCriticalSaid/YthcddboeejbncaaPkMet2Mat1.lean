/- meter: buses, FreeOf, Free; topology.Of; slices.Index at []int; HasInt. Matrices of rational numbers in rows of the call's own. -/
import Derived.Test.YthcddboeejbncaaPzMet1
import Derived.Test.YthcddboeejbncaaPzTopA
import Derived.Test.YthcddboeejbncaaPkRat5Bal6
namespace Go.Proofs.Ythcddboeejbncaa
open Go.RowKit

def idxI (s : Int) : List Int → Int → Int
  | [], _ => -1
  | x :: xs, i => if (s == x) = true then i else idxI s xs (i + 1)
def hasI (s : Int) (l : List Int) : Bool := l.any (fun x => s == x)
theorem idxI_drop {s : Int} {l : List Int} {k : Nat} (h : k < l.length) : idxI s (l.drop k) k = if (s == l.getD k 0) = true then (k : Int) else idxI s (l.drop (k + 1)) ((k + 1 : Nat) : Int) := by
  rw [List.drop_eq_getElem_cons h]
  conv => lhs; unfold idxI
  simp [h]
theorem hasI_drop {s : Int} {l : List Int} {k : Nat} (h : k < l.length) : hasI s (l.drop k) = ((s == l.getD k 0) || hasI s (l.drop (k + 1))) := by
  unfold hasI
  exact any_drop (x := l.getD k 0) (by simp [h])
theorem ival_bound {w : World} {v : Value} {l : List Int} (h : IVal w v l) : l.length ≤ 9223372036854775807 := by
  rcases h with ⟨h, _⟩ | ⟨_, _, _, _, _, h, _⟩
  · omega
  · exact h
theorem ival_blk {w : World} {b : Nat} {l : List Int} {T : TypeId} (h : Blk w b (ints l).toArray T) (hl : l.length ≤ 1000) : IVal w (.slice (some ⟨b, 0, none⟩) l.length l.length) l :=
  Or.inr ⟨b, 0, l.length, rfl, Nat.le_refl _, by omega, h.lt, fun j u hj => by rw [Nat.zero_add]; exact h.cell j (by simpa using hj)⟩

set_option maxHeartbeats 400000 in
theorem indexI_c (v : Value) (l : List Int) (s : Int) (w : World) (hv : IVal w v l) :
    Calls Try.prog 45 #[v, .int .i64 s] w fun e w' => e = .returned (.int .i64 (idxI s l 0)) ∧ w = w' := by
  have hn := ival_bound hv
  obtain ⟨a, cap, rfl⟩ := hv.slice
  have HE : Hid (idxI s (l.drop 0) (0 : Nat) = idxI s l 0) := by show _ = _; rfl
  generalize idxI s l 0 = E at *
  obtain ⟨n, hN⟩ : ∃ n, l.length = n := ⟨_, rfl⟩
  have HN := Lib.hid hN
  have HV2 : Hid (Reads w (.slice a n cap) n (ints l)) := by show Reads _ _ _ _; rw [← hN]; exact hv
  rw [hN] at hn ⊢
  clear hN hv
  go_enter Try.func45, Try.ntmps45
  go_wp2_with fail
  go_loopw [8] (fun i wr => ∃ k : Nat, k ≤ n ∧ i = .int .i64 k ∧ Hid (idxI s (l.drop k) k = E) ∧ w = wr) (fun i _ => n - (intOf i).toNat)
  case atStart => exact ⟨0, Nat.zero_le _, rfl, HE.out, rfl⟩
  case round =>
    obtain ⟨k, hk, rfl, he, rfl⟩ := hrel
    by_cases hlt : k < n
    · obtain ⟨b, off, cap', hvv, _, _, hbl, hc⟩ := HV2.out.addr (by omega)
      simp only [Value.slice.injEq] at hvv
      obtain ⟨rfl, _, rfl⟩ := hvv
      have hlk : k < l.length := by rw [HN.out]; exact hlt
      have x0 := hc k _ (ints_get hlk)
      have hd := idxI_drop (s := s) hlk
      generalize l.getD k 0 = x at *
      have HD := Lib.hid hd
      clear hd hc
      cases hp : (s == x)
      · have HP := Lib.hid (HD.out.trans (if_neg (by rw [hp]; decide)))
        go_wp2_with fail
        go_roundw
        case rel => exact ⟨k + 1, by omega, by go_num, by show _ = _; rw [← he.out, HP.out], by first | rfl | trivial⟩
        case measure => simp [intOf]; omega
      · have HP := Lib.hid (he.out.symm.trans (HD.out.trans (if_pos hp)))
        go_wp2_with fail
        go_ret
        exact ⟨by rw [HP.out]; rfl, rfl⟩
    · have hkn : l.drop k = [] := List.drop_eq_nil_of_le (by rw [HN.out]; omega)
      have HX : Hid (E = -1) := by show _ = _; rw [← he.out, hkn]; rfl
      clear he hkn
      go_wp2_with fail
      go_ret
      exact ⟨by rw [HX.out]; rfl, rfl⟩
set_option maxHeartbeats 400000 in
theorem hasInt_c (v : Value) (l : List Int) (s : Int) (w : World) (hv : IVal w v l) :
    Calls Try.prog 14 #[v, .int .i64 s] w fun e w' => e = .returned (.bool (hasI s l)) ∧ w = w' := by
  have hn := ival_bound hv
  obtain ⟨a, cap, rfl⟩ := hv.slice
  have HE : Hid (hasI s (l.drop 0) = hasI s l) := by show _ = _; rfl
  generalize hasI s l = E at *
  obtain ⟨n, hN⟩ : ∃ n, l.length = n := ⟨_, rfl⟩
  have HN := Lib.hid hN
  have HV2 : Hid (Reads w (.slice a n cap) n (ints l)) := by show Reads _ _ _ _; rw [← hN]; exact hv
  rw [hN] at hn ⊢
  clear hN hv
  go_enter Try.func14, Try.ntmps14
  go_wp2_with fail
  go_loopw [9] (fun i wr => ∃ k : Nat, k ≤ n ∧ i = .int .i64 k ∧ Hid (hasI s (l.drop k) = E) ∧ w = wr) (fun i _ => n - (intOf i).toNat)
  case atStart => exact ⟨0, Nat.zero_le _, rfl, HE.out, rfl⟩
  case round =>
    obtain ⟨k, hk, rfl, he, rfl⟩ := hrel
    by_cases hlt : k < n
    · obtain ⟨b, off, cap', hvv, _, _, hbl, hc⟩ := HV2.out.addr (by omega)
      simp only [Value.slice.injEq] at hvv
      obtain ⟨rfl, _, rfl⟩ := hvv
      have hlk : k < l.length := by rw [HN.out]; exact hlt
      have x0 := hc k _ (ints_get hlk)
      have hd := hasI_drop (s := s) hlk
      generalize l.getD k 0 = x at *
      rw [show (s == x) = (x == s) by rw [Bool.eq_iff_iff, beq_iff_eq, beq_iff_eq]; exact eq_comm] at hd
      have HD := Lib.hid hd
      clear hd hc
      cases hp : (x == s)
      · have HP : Hid (hasI s (l.drop (k + 1)) = E) := by show _ = _; rw [← he.out, HD.out, hp]; rfl
        clear he HD
        go_wp2_with fail
        go_roundw
        case rel => exact ⟨k + 1, by omega, by go_num, HP, by first | rfl | trivial⟩
        case measure => simp [intOf]; omega
      · have HP : Hid (E = true) := by show _ = _; rw [← he.out, HD.out, hp]; rfl
        clear he HD
        go_wp2_with fail
        go_ret
        exact ⟨by rw [HP.out]; rfl, rfl⟩
    · have hkn : l.drop k = [] := List.drop_eq_nil_of_le (by rw [HN.out]; omega)
      have HX : Hid (E = false) := by show _ = _; rw [← he.out, hkn]; rfl
      clear he hkn
      go_wp2_with fail
      go_ret
      exact ⟨by rw [HX.out]; rfl, rfl⟩
/-- A topology in memory. -/
def TopV (W : World) (tv : Value) (n : Net) : Prop := ∃ ba bc ia ic, tv = .agg #[.slice ba n.nodes.length bc, .slice ia (islandsE n).length ic] ∧ Reads W (.slice ba n.nodes.length bc) n.nodes.length (ints (busesE n)) ∧ IVal W (.slice ia (islandsE n).length ic) (islandsE n)
theorem TopV.below {W W' : World} {tv : Value} {n : Net} (h : TopV W tv n) (k : Below W.heap.size W W') : TopV W' tv n := by
  obtain ⟨ba, bc, ia, ic, h1, h2, h3⟩ := h
  exact ⟨ba, bc, ia, ic, h1, h2.below k, h3.below k⟩
theorem islands_len {n : Net} {m : Nat} (h : cntE (busesE n) = m) : (islandsE n).length = m := by
  unfold islandsE
  rw [(partsE_ok _ _ _).1, h]; rfl
theorem topV_of {n : Net} {w' : World} {b c m : Nat} (hok : Net.Ok n) (hm : cntE (busesE n) = m) (hb : Blk w' b (ints (busesE n)).toArray 3) (hc : Blk w' c (ints (islandsE n)).toArray 3) :
    TopV w' (.agg #[.slice (some ⟨b, 0, none⟩) n.nodes.length n.nodes.length, .slice (some ⟨c, 0, none⟩) m m]) n := by
  have hl := islands_len hm
  have hnn := hok.nn
  have hbn := (busesE_ok n).1
  obtain ⟨m', hm', hm24, _⟩ := cnt_buses hok
  have h1 := ival_blk hb (by omega)
  have h2 := ival_blk hc (by omega)
  rw [hbn] at h1
  refine ⟨some ⟨b, 0, none⟩, n.nodes.length, some ⟨c, 0, none⟩, m, by rw [hl], ?_, ?_⟩
  · have h3 : Reads w' (.slice (some ⟨b, 0, none⟩) n.nodes.length n.nodes.length) (busesE n).length (ints (busesE n)) := h1
    rw [hbn] at h3; exact h3
  · have h3 := h2
    rw [hl] at h3 ⊢
    exact (show IVal w' _ (islandsE n) by unfold IVal; rw [hl]; unfold IVal at h3; rw [hl] at h3; exact h3)
theorem freshV_c (x0 : NAddr) (n : Net) (w : World) (hr : NetR w x0 n) (hok : Net.Ok n) :
    Calls Try.prog 28 #[x0.val n] w fun e w' => (∃ tv, e = .returned tv ∧ TopV w' tv n) ∧ Below w.heap.size w w' := by
  refine (fresh_c x0 n w hr hok).mono ?_
  rintro e w' ⟨b, c, m, rfl, hm, _, _, hb, hc, hbl⟩
  exact ⟨⟨_, rfl, topV_of hok hm hb hc⟩, hbl⟩
set_option maxHeartbeats 1000000 in
theorem buses_len_c (ba ia : Option Addr) (bn bc m ic : Nat) (w : World) :
    Calls Try.prog 65 #[.agg #[.slice ba bn bc, .slice ia m ic]] w fun e w' => e = .returned (.int .i64 m) ∧ Below w.heap.size w w' := by
  have B := Lib.hid (belowA (Below.refl w.heap.size w) (.cells #[.slice ba bn bc, .slice ia m ic] 47))
  go_enter Try.func65, Try.ntmps65
  go_wp2_with fail
  go_ret
  exact ⟨rfl, B.out⟩
/-- The free buses of a list of islands. -/
def freeGo (I : List Int) : List Int → Nat → List Int
  | [], _ => []
  | x :: l, k => if idxI x I 0 < k then (k : Int) :: freeGo I l (k + 1) else freeGo I l (k + 1)
def freeL (I : List Int) : List Int := freeGo I I 0
theorem freeGo_drop {I : List Int} {k : Nat} (h : k < I.length) : freeGo I (I.drop k) k = if idxI (I.getD k 0) I 0 < k then (k : Int) :: freeGo I (I.drop (k + 1)) (k + 1) else freeGo I (I.drop (k + 1)) (k + 1) := by
  rw [List.drop_eq_getElem_cons h]
  conv => lhs; unfold freeGo
  simp [h]
set_option maxRecDepth 100000 in
set_option maxHeartbeats 2000000 in
theorem freeOf_c (ba ia : Option Addr) (bn bc ic : Nat) (I : List Int) (w : World) (hv : IVal w (.slice ia I.length ic) I) (hI : I.length ≤ 1000) :
    Calls Try.prog 29 #[.agg #[.slice ba bn bc, .slice ia I.length ic]] w fun e w' => (∃ v, e = .returned v ∧ IVal w' v (freeL I)) ∧ Below w.heap.size w w' := by
  have HIX := Lib.hid (fun s W (hW : Below w.heap.size w W) => indexI_c (.slice ia I.length ic) I s W (hv.below hW))
  have HE0 : Hid ([] ++ freeGo I (I.drop 0) 0 = freeL I) := rfl
  generalize freeL I = E at *
  obtain ⟨n, hN⟩ : ∃ n, I.length = n := ⟨_, rfl⟩
  have HN := Lib.hid hN
  have HV2 : Hid (Reads w (.slice ia n ic) n (ints I)) := by show Reads _ _ _ _; rw [← hN]; exact hv
  rw [hN] at hI HIX ⊢
  have B0 := Lib.hid (belowA (Below.refl w.heap.size w) (.cells #[.slice ba bn bc, .slice ia n ic] 47))
  have K0 := Lib.hid (Blk.new w #[.slice ba bn bc, .slice ia n ic] 47)
  clear hN hv
  go_enter Try.func29, Try.ntmps29
  go_wp2_with fail
  generalize w.alloc (.cells #[.slice ba bn bc, .slice ia n ic] 47) = w1 at *
  go_loopw [9, 3] (fun i ov wr => ∃ (k : Nat) (out : List Int), k ≤ n ∧ out.length ≤ k ∧ i = .int .i64 k ∧ Hid (out ++ freeGo I (I.drop k) k = E) ∧ Hid (IO (w.heap.size + 1) wr ov out) ∧ Hid (Blk wr w.heap.size #[.slice ba bn bc, .slice ia n ic] 47) ∧ Hid (Below w.heap.size w wr)) (fun i _ _ => n - (intOf i).toNat)
  case atStart => exact ⟨0, [], Nat.zero_le _, Nat.le_refl _, rfl, HE0, ⟨rfl, Or.inl ⟨rfl, rfl⟩⟩, K0, B0⟩
  case round =>
    clear HE0 B0 K0
    obtain ⟨k, out, hk, hol, rfl, he, ho, kb, hb⟩ := hrel
    obtain ⟨oa, oc, rfl⟩ := row_slice (show wr.ownsRow (w.heap.size + 1) 3 1 _ out.length (ints out) from ho.out)
    by_cases hlt : k < n
    · obtain ⟨b1, off1, cap1, hvv, _, _, hbl, h1⟩ := HV2.out.addr (by omega)
      have hbw : b1 < wr.heap.size := Nat.lt_of_lt_of_le hbl hb.out.size
      obtain ⟨_, _, _, hvv', _, _, _, h1⟩ := (HV2.out.below hb.out).addr (by omega)
      simp only [Value.slice.injEq] at hvv hvv'
      obtain ⟨rfl, _, rfl⟩ := hvv
      obtain ⟨hvv', _, rfl⟩ := hvv'
      simp only [Option.some.injEq, Addr.mk.injEq, and_true] at hvv'
      obtain ⟨rfl, rfl⟩ := hvv'
      have hlk : k < I.length := by rw [HN.out]; exact hlt
      have x0 := h1 k _ (ints_get hlk)
      have hd := freeGo_drop hlk
      have y1 := kb.out.cell 1 rfl
      have hlw := kb.out.lt
      generalize I.getD k 0 = x at *
      have HI := Lib.hid (HIX.out x wr hb.out)
      generalize idxI x I 0 = ix at *
      have HD := Lib.hid hd
      clear hd h1
      go_wp2_with fail
      refine HI.out.mono ?_; rintro e w4 ⟨rfl, rfl⟩
      by_cases hix : ix < k
      · have q1 : decide (ix < (k : Int)) = true := decide_eq_true hix
        have he2 : Hid (out ++ [(k : Int)] ++ freeGo I (I.drop (k + 1)) (k + 1) = E) := by show _ = _; rw [← he.out, HD.out, if_pos hix, List.append_assoc]; rfl
        obtain ⟨v9, W9, hr9, ho9, hb9⟩ := (show IO (w.heap.size + 1) (wr.alloc (.cells #[.int .i64 (k : Int)] 3)) (.slice oa out.length oc) out from ownsRow_below ho.out (belowA (Below.refl _ _) _)).app (by rw [World.size_alloc]; have := kb.out.lt; omega) (Blk.new wr #[.int .i64 (k : Int)] 3) (by omega)
        have H9 : Hid (∀ ty, (Builtin.append_ #[39, 39] ty #[.slice oa out.length oc, .slice (some ⟨wr.heap.size, 0, none⟩) 1 1]).run Try.prog (wr.alloc (.cells #[.int .i64 (k : Int)] 3)) = .ok v9 W9) := hr9
        have O9 := Lib.hid ho9
        have B9 := Lib.hid ((hb.out.alloc hb.out.size (.cells #[.int .i64 (k : Int)] 3)).trans (hb9.mono (Nat.le_succ _)))
        have K9 := Lib.hid (below_blk hb9 (kb.out.alloc (.cells #[.int .i64 (k : Int)] 3)) (Nat.lt_succ_self _))
        clear hr9 ho9 hb9 ho kb hb he HD hix
        go_wp2_with (at_builtin; refine wpList_append_told rfl (.tmp 20) (.tmp 22) 39 rfl _ _ rfl rfl _ W9 (H9.out _) ?_)
        go_roundw
        case rel => exact ⟨k + 1, out ++ [(k : Int)], hlt, by simp; omega, by go_num, he2, O9, K9, B9⟩
        case measure => simp [intOf]; omega
      · have q1 : decide (ix < (k : Int)) = false := decide_eq_false hix
        have he2 : Hid (out ++ freeGo I (I.drop (k + 1)) (k + 1) = E) := by show _ = _; rw [← he.out, HD.out, if_neg hix]
        clear he HD hix
        go_wp2_with fail
        go_roundw
        case rel => exact ⟨k + 1, out, hlt, by omega, by go_num, he2, ho, kb, hb⟩
        case measure => simp [intOf]; omega
    · obtain rfl : k = n := by omega
      have he2 : Hid (out = E) := by show _ = _; rw [← he.out, List.drop_eq_nil_of_le (by rw [HN.out]; omega)]; simp [freeGo]
      clear he
      go_wp2_with fail
      go_ret
      exact ⟨⟨_, rfl, by rw [← he2.out]; exact Reads.of_owns ho.out (by omega)⟩, hb.out⟩
/-- What topology.Of returns. -/
def TopP (n : Net) (w : World) (e : Ending) (w' : World) : Prop :=
  ∃ ba bn bc ia m ic, e = .returned (.tuple #[.agg #[.slice ba bn bc, .slice ia m ic], .int .i64 (netE n)]) ∧ (netE n = 0 → TopV w' (.agg #[.slice ba bn bc, .slice ia m ic]) n) ∧ Below w.heap.size w w'
set_option maxRecDepth 100000 in
set_option maxHeartbeats 2000000 in
theorem topOf_c (x0 : NAddr) (n : Net) (w : World) (hr : NetR w x0 n) (hwf : n.Wf) :
    Calls Try.prog 16 #[x0.val n] w (TopP n w) := by
  have HNE := Lib.hid (fun W (hW : Below w.heap.size w W) => net_c x0 n W (hr.below hW) hwf)
  have HFR := Lib.hid (fun (h : netE n = 0) W (hW : Below w.heap.size w W) => fresh_c x0 n W (hr.below hW) (netE_ok h))
  have HE : Hid (∀ (w' : World) (ba ia : Option Addr) (bn bc m ic : Nat) (ne : Int), netE n = ne → (netE n = 0 → TopV w' (.agg #[.slice ba bn bc, .slice ia m ic]) n) → Below w.heap.size w w' → TopP n w (.returned (.tuple #[.agg #[.slice ba bn bc, .slice ia m ic], .int .i64 ne])) w') :=
    fun w' ba ia bn bc m ic ne h0 h1 h2 => ⟨ba, bn, bc, ia, m, ic, by rw [h0], h1, h2⟩
  have HT : Hid (∀ W b c m, netE n = 0 → cntE (busesE n) = (m : Nat) → Blk W b (ints (busesE n)).toArray 3 → Blk W c (ints (islandsE n)).toArray 3 → TopV W (.agg #[.slice (some ⟨b, 0, none⟩) n.nodes.length n.nodes.length, .slice (some ⟨c, 0, none⟩) m m]) n) := fun W b c m h0 h1 h2 h3 => topV_of (netE_ok h0) h1 h2 h3
  generalize TopP n w = TP at *
  generalize TopV = TV at *
  generalize busesE n = BE at *
  generalize islandsE n = IE at *
  obtain ⟨NE, hNE⟩ : ∃ x, netE n = x := ⟨_, rfl⟩
  rw [hNE] at HNE HFR HE HT
  obtain ⟨na, nc, sa, sc, ba, bc, ga, gc, la, lc, ta, tc⟩ := x0
  simp only [NAddr.val] at HNE HFR ⊢
  generalize n.nodes.length = nn at *
  generalize n.sws.length = sn at *
  generalize n.brs.length = bn at *
  generalize n.gens.length = gn at *
  generalize n.loads.length = lon at *
  generalize n.stores.length = tn at *
  have B1 := Lib.hid (belowA (belowA (Below.refl w.heap.size w) (.cells #[.slice na nn nc, .slice sa sn sc, .slice ba bn bc, .slice ga gn gc, .slice la lon lc, .slice ta tn tc] 29)) (.cells #[.slice none 0 0, .slice none 0 0] 47))
  have K1 := Lib.hid ((Blk.new w #[.slice na nn nc, .slice sa sn sc, .slice ba bn bc, .slice ga gn gc, .slice la lon lc, .slice ta tn tc] 29).alloc (.cells #[.slice none 0 0, .slice none 0 0] 47))
  have R1 := Lib.hid (Blk.new2 w (.cells #[.slice na nn nc, .slice sa sn sc, .slice ba bn bc, .slice ga gn gc, .slice la lon lc, .slice ta tn tc] 29) #[.slice none 0 0, .slice none 0 0] 47)
  have HNE1 := Lib.hid (HNE.out _ B1.out)
  clear hr hNE HNE
  go_enter Try.func16, Try.ntmps16
  go_wp2_with fail
  refine HNE1.out.mono ?_; rintro e w2 ⟨rfl, hb2⟩
  have B2 := Lib.hid (belowT B1.out hb2)
  have K2 := Lib.hid (below_blk hb2 K1.out K1.out.lt)
  have R2 := Lib.hid (below_blk hb2 R1.out R1.out.lt)
  have hsz : w.heap.size + 2 ≤ w2.heap.size := by have := hb2.size; simp only [World.size_alloc] at this; omega
  clear hb2 B1 K1 R1 HNE1
  obtain ⟨rb, hrb⟩ : ∃ b, w.heap.size + 1 = b := ⟨_, rfl⟩
  have HRB := Lib.hid hrb
  rw [hrb] at R2 ⊢
  have f0 := R2.out.free 0
  have f1 := R2.out.free 1
  have c0 := R2.out.cell 0 rfl
  have c1 := R2.out.cell 1 rfl
  have hlr := R2.out.lt
  have hlk := K2.out.lt
  clear hrb
  by_cases hne : NE = 0
  · have q1 : (NE != 0) = false := by simp [hne]
    have y0 := K2.out.cell 0 rfl
    have y1 := K2.out.cell 1 rfl
    have y2 := K2.out.cell 2 rfl
    have y3 := K2.out.cell 3 rfl
    have y4 := K2.out.cell 4 rfl
    have y5 := K2.out.cell 5 rfl
    have HFX := Lib.hid (HFR.out hne w2 B2.out)
    have HN0 := Lib.hid hne
    clear hne HFR
    go_wp2_with fail
    refine HFX.out.mono ?_; rintro e w3 ⟨b, c, m, rfl, hm, hge, hge2, hkb, hkc, hb3⟩
    have HM := Lib.hid hm
    have B3 := Lib.hid (belowT B2.out hb3)
    have R3 := below_blk hb3 R2.out R2.out.lt
    have HB3 := Lib.hid hkb
    have HC3 := Lib.hid hkc
    have hbr : b ≠ rb := by omega
    have hcr : c ≠ rb := by omega
    have g0 := R3.free 0
    have g1 := R3.free 1
    have d0 := R3.cell 0 rfl
    have d1 := R3.cell 1 rfl
    have hlr3 := R3.lt
    have RF := (R3.set 0 (.slice (some ⟨b, 0, none⟩) nn nn)).set 1 (.slice (some ⟨c, 0, none⟩) m m)
    have u0 := RF.cell 0 rfl
    have u1 := RF.cell 1 rfl
    have HTX := Lib.hid (HT.out ((w3.setCell ⟨rb, 0, none⟩ (.slice (some ⟨b, 0, none⟩) nn nn)).setCell ⟨rb, 1, none⟩ (.slice (some ⟨c, 0, none⟩) m m)) b c m HN0.out HM.out ((HB3.out.setOther ⟨rb, 0, none⟩ hbr _).setOther ⟨rb, 1, none⟩ hbr _) ((HC3.out.setOther ⟨rb, 0, none⟩ hcr _).setOther ⟨rb, 1, none⟩ hcr _))
    have hge3 : w.heap.size ≤ rb := by have := HRB.out; omega
    have HBX := Lib.hid ((B3.out.setCell (p := ⟨rb, 0, none⟩) hge3 (.slice (some ⟨b, 0, none⟩) nn nn)).setCell (p := ⟨rb, 1, none⟩) hge3 (.slice (some ⟨c, 0, none⟩) m m))
    clear RF hkb hkc hb3 hm HFX hge hge2 R3
    go_wp2_with fail
    refine bodyPost_ret (v := .tuple #[.agg #[.slice (some ⟨b, 0, none⟩) nn nn, .slice (some ⟨c, 0, none⟩) m m], .int .i64 0]) (by simp [results, Try.results16, go_sem, u0, u1]) rfl (HE.out _ _ _ _ _ _ _ _ HN0.out (fun _ => HTX.out) HBX.out)
  · have q1 : (NE != 0) = true := by simp [hne]
    have RF := (R2.out.set 0 (.slice none 0 0)).set 1 (.slice none 0 0)
    have u0 := RF.cell 0 rfl
    have u1 := RF.cell 1 rfl
    have hge3 : w.heap.size ≤ rb := by have := HRB.out; omega
    have HBX := Lib.hid ((B2.out.setCell (p := ⟨rb, 0, none⟩) hge3 (.slice none 0 0)).setCell (p := ⟨rb, 1, none⟩) hge3 (.slice none 0 0))
    clear RF
    go_wp2_with fail
    refine bodyPost_ret (v := .tuple #[.agg #[.slice none 0 0, .slice none 0 0], .int .i64 NE]) (by simp [results, Try.results16, go_sem, u0, u1]) rfl (HE.out _ _ _ _ _ _ _ _ rfl (fun h => absurd h hne) HBX.out)
end Go.Proofs.Ythcddboeejbncaa
namespace Go.Proofs.Ythcddboeejbncaa
open Go.RowKit

/-- The entry c of a row's cells. -/
def EntC (W : World) (cur : Array Value) (c : Nat) (q : Rat) : Prop := ∃ ng vn vd, cur[3 * c]? = some (.bool ng) ∧ cur[3 * c + 1]? = some vn ∧ cur[3 * c + 2]? = some vd ∧ QC W ng vn vd q
/-- A row: its block holds the entries. -/
def RowM (W : World) (rb L : Nat) (f : Nat → Rat) : Prop := ∃ cur, Blk W rb cur 80 ∧ True ∧ 3 * L ≤ cur.size ∧ ∀ c, c < L → EntC W cur c (f c)
structure GM (W : World) (base gb R L : Nat) (rb rc : Nat → Nat) (M : Nat → Nat → Rat) : Prop where
  gblk : ∃ cur, Blk W gb cur 76 ∧ True ∧ R ≤ cur.size ∧ ∀ i, i < R → cur[i]? = some (.slice (some ⟨rb i, 0, none⟩) L (rc i))
  gbase : base ≤ gb
  rbase : ∀ i, i < R → base ≤ rb i ∧ rb i ≠ gb ∧ L ≤ rc i
  inj : ∀ i j, i < R → j < R → i ≠ j → rb i ≠ rb j
  row : ∀ i, i < R → RowM W (rb i) L (M i)
  len : L ≤ 9223372036854775807
theorem EntC.keep {W W' : World} {cur cs : Array Value} {c b : Nat} {T : TypeId} {q : Rat} (h : EntC W cur c q) (k : Blk W b cs T) (hc : NoDig cs) (hb : But b W W') : EntC W' cur c q := by
  obtain ⟨ng, vn, vd, h1, h2, h3, h4⟩ := h
  exact ⟨ng, vn, vd, h1, h2, h3, h4.1, h4.2.1.keep k hc hb, h4.2.2.imp (fun h => h.keep k hc hb) (fun h => ⟨h.1, h.2.keep k hc hb⟩)⟩
theorem EntC.keepT {W W' : World} {cur cs : Array Value} {c b : Nat} {T : TypeId} {q : Rat} (h : EntC W cur c q) (k : Blk W b cs T) (hT : T ≠ 123) (hb : But b W W') : EntC W' cur c q := by
  obtain ⟨ng, vn, vd, h1, h2, h3, h4⟩ := h
  exact ⟨ng, vn, vd, h1, h2, h3, h4.keepT k hT hb⟩
theorem EntC.below {W W' : World} {cur : Array Value} {c : Nat} {q : Rat} (h : EntC W cur c q) (k : Below W.heap.size W W') : EntC W' cur c q := by
  obtain ⟨ng, vn, vd, h1, h2, h3, h4⟩ := h
  exact ⟨ng, vn, vd, h1, h2, h3, h4.below k⟩
theorem RowM.below {W W' : World} {rb L : Nat} {f : Nat → Rat} (h : RowM W rb L f) (k : Below W.heap.size W W') : RowM W' rb L f := by
  obtain ⟨cur, h1, h2, h3, h4⟩ := h
  exact ⟨cur, below_blk k h1 h1.lt, h2, h3, fun c hc => (h4 c hc).below k⟩
/-- A store elsewhere. -/
theorem RowM.keep {W W' : World} {rb L b : Nat} {f : Nat → Rat} {cs : Array Value} {T : TypeId} (h : RowM W rb L f) (k : Blk W b cs T) (hc : NoDig cs) (hb : But b W W') (hn : rb ≠ b) : RowM W' rb L f := by
  obtain ⟨cur, h1, h2, h3, h4⟩ := h
  exact ⟨cur, hb.blk h1 hn, h2, h3, fun c hc' => (h4 c hc').keep k hc hb⟩
theorem RowM.keepT {W W' : World} {rb L b : Nat} {f : Nat → Rat} {cs : Array Value} {T : TypeId} (h : RowM W rb L f) (k : Blk W b cs T) (hT : T ≠ 123) (hb : But b W W') (hn : rb ≠ b) : RowM W' rb L f := by
  obtain ⟨cur, h1, h2, h3, h4⟩ := h
  refine ⟨cur, hb.blk h1 hn, h2, h3, fun c hc' => ?_⟩
  obtain ⟨ng, vn, vd, e1, e2, e3, e4⟩ := h4 c hc'
  exact ⟨ng, vn, vd, e1, e2, e3, e4.keepT k hT hb⟩
theorem GM.below {W W' : World} {base gb R L : Nat} {rb rc : Nat → Nat} {M : Nat → Nat → Rat} (h : GM W base gb R L rb rc M) (k : Below W.heap.size W W') : GM W' base gb R L rb rc M := by
  obtain ⟨cur, h1, h2, h3, h4⟩ := h.gblk
  exact ⟨⟨cur, below_blk k h1 h1.lt, h2, h3, h4⟩, h.gbase, h.rbase, h.inj, fun i hi => (h.row i hi).below k, h.len⟩
theorem GM.congr {W : World} {base gb R L : Nat} {rb rc : Nat → Nat} {M M' : Nat → Nat → Rat} (h : GM W base gb R L rb rc M) (e : ∀ i c, i < R → c < L → M i c = M' i c) : GM W base gb R L rb rc M' :=
  ⟨h.gblk, h.gbase, h.rbase, h.inj, fun i hi => by
    obtain ⟨cur, h1, h2, h3, h4⟩ := h.row i hi
    exact ⟨cur, h1, h2, h3, fun c hc => by rw [← e i c hi hc]; exact h4 c hc⟩, h.len⟩
theorem GM.rowCell {W : World} {base gb R L : Nat} {rb rc : Nat → Nat} {M : Nat → Nat → Rat} (h : GM W base gb R L rb rc M) {i : Nat} (hi : i < R) : W.cell? ⟨gb, i, none⟩ = some (.slice (some ⟨rb i, 0, none⟩) L (rc i)) := by
  obtain ⟨cur, h1, _, _, h4⟩ := h.gblk
  exact h1.cell i (h4 i hi)
theorem GM.ent {W : World} {base gb R L : Nat} {rb rc : Nat → Nat} {M : Nat → Nat → Rat} (h : GM W base gb R L rb rc M) {i c : Nat} (hi : i < R) (hc : c < L) :
    ∃ ng na nl nc da dl dc, W.cell? ⟨rb i, c * 3, none⟩ = some (.bool ng) ∧ W.cell? ⟨rb i, c * 3 + 1, none⟩ = some (.slice na nl nc) ∧ W.cell? ⟨rb i, c * 3 + 2, none⟩ = some (.slice da dl dc) ∧ QC W ng (.slice na nl nc) (.slice da dl dc) (M i c) := by
  obtain ⟨cur, h1, _, _, h4⟩ := h.row i hi
  obtain ⟨ng, vn, vd, e1, e2, e3, e4⟩ := h4 c hc
  obtain ⟨na, nc, da, dl, dc, rfl, rfl, _⟩ := e4.parts
  rw [Nat.mul_comm] at e1 e2 e3
  exact ⟨ng, na, _, nc, da, dl, dc, h1.cell _ e1, h1.cell _ e2, h1.cell _ e3, e4⟩
theorem GM.free {W : World} {base gb R L : Nat} {rb rc : Nat → Nat} {M : Nat → Nat → Rat} (h : GM W base gb R L rb rc M) {i : Nat} (hi : i < R) (j : Nat) : W.frozen? ⟨rb i, j, none⟩ = false := by
  obtain ⟨cur, h1, _⟩ := h.row i hi
  exact h1.free j
theorem GM.rlt {W : World} {base gb R L : Nat} {rb rc : Nat → Nat} {M : Nat → Nat → Rat} (h : GM W base gb R L rb rc M) {i : Nat} (hi : i < R) : rb i < W.heap.size := by
  obtain ⟨cur, h1, _⟩ := h.row i hi
  exact h1.lt
theorem GM.glt {W : World} {base gb R L : Nat} {rb rc : Nat → Nat} {M : Nat → Nat → Rat} (h : GM W base gb R L rb rc M) : gb < W.heap.size := by
  obtain ⟨cur, h1, _⟩ := h.gblk
  exact h1.lt
/-- One entry changed. -/
def setM (M : Nat → Nat → Rat) (i c : Nat) (q : Rat) : Nat → Nat → Rat := fun i' c' => if i' = i ∧ c' = c then q else M i' c'
def putQ (W : World) (b o : Nat) (ng : Bool) (vn vd : Value) : World := ((W.setCell ⟨b, o, none⟩ (.bool ng)).setCell ⟨b, o + 1, none⟩ vn).setCell ⟨b, o + 2, none⟩ vd
theorem but_putQ (W : World) (b o : Nat) (ng : Bool) (vn vd : Value) : But b W (putQ W b o ng vn vd) := (((But.refl b W).set o _).set (o + 1) _).set (o + 2) _
theorem noDig_set {cs : Array Value} (h : NoDig cs) (j : Nat) (v : Value) (hv : ∀ z, v ≠ .int .u32 z) : NoDig (cs.setIfInBounds j v) := by
  intro i z
  rw [Array.getElem?_setIfInBounds]
  split
  · split
    · intro e; exact hv z (Option.some.inj e)
    · simp
  · exact h i z
theorem GM.put {W : World} {base gb R L : Nat} {rb rc : Nat → Nat} {M : Nat → Nat → Rat} (h : GM W base gb R L rb rc M) {i c : Nat} (hi : i < R) (hc : c < L) {ng : Bool} {vn vd : Value} {q : Rat} (hq : QC W ng vn vd q) : GM (putQ W (rb i) (c * 3) ng vn vd) base gb R L rb rc (setM M i c q) := by
  obtain ⟨cur, h1, h2, h3, h4⟩ := h.row i hi
  have hb := but_putQ W (rb i) (c * 3) ng vn vd
  obtain ⟨na, nc, da, dl, dc, rfl, rfl, _⟩ := hq.parts
  obtain ⟨gcur, g1, g2, g3, g4⟩ := h.gblk
  refine ⟨⟨gcur, hb.blk g1 (fun e => (h.rbase i hi).2.1 e.symm), g2, g3, g4⟩, h.gbase, h.rbase, h.inj, fun j hj => ?_, h.len⟩
  by_cases hji : j = i
  · subst hji
    refine ⟨((cur.setIfInBounds (c * 3) (.bool ng)).setIfInBounds (c * 3 + 1) (.slice na _ nc)).setIfInBounds (c * 3 + 2) (.slice da dl dc), ((h1.set (c * 3) _).set (c * 3 + 1) _).set (c * 3 + 2) _, ?_, by simpa using h3, fun k hk => ?_⟩
    · exact trivial
    · have hq' : QC (putQ W (rb j) (c * 3) ng (.slice na (ln q.num.natAbs) nc) (.slice da dl dc)) ng (.slice na (ln q.num.natAbs) nc) (.slice da dl dc) q :=
        hq.keepT h1 (by decide) hb
      by_cases hkc : k = c
      · subst hkc
        have e : setM M j k q j k = q := if_pos ⟨rfl, rfl⟩
        rw [e]
        refine ⟨ng, _, _, ?_, ?_, ?_, hq'⟩
        · rw [Array.getElem?_setIfInBounds_ne (by omega), Array.getElem?_setIfInBounds_ne (by omega), Nat.mul_comm 3 k, Array.getElem?_setIfInBounds_self_of_lt (by omega)]
        · rw [Array.getElem?_setIfInBounds_ne (by omega), Nat.mul_comm 3 k, Array.getElem?_setIfInBounds_self_of_lt (by simp; omega)]
        · rw [Nat.mul_comm 3 k, Array.getElem?_setIfInBounds_self_of_lt (by simp; omega)]
      · have e : setM M j c q j k = M j k := if_neg (fun h => hkc h.2)
        rw [e]
        obtain ⟨ng', vn', vd', e1, e2, e3, e4⟩ := (h4 k hk).keepT h1 (by decide) hb
        refine ⟨ng', vn', vd', ?_, ?_, ?_, e4⟩
        · rw [Array.getElem?_setIfInBounds_ne (by omega), Array.getElem?_setIfInBounds_ne (by omega), Array.getElem?_setIfInBounds_ne (by omega)]; exact e1
        · rw [Array.getElem?_setIfInBounds_ne (by omega), Array.getElem?_setIfInBounds_ne (by omega), Array.getElem?_setIfInBounds_ne (by omega)]; exact e2
        · rw [Array.getElem?_setIfInBounds_ne (by omega), Array.getElem?_setIfInBounds_ne (by omega), Array.getElem?_setIfInBounds_ne (by omega)]; exact e3
  · have hr := (h.row j hj).keepT h1 (by decide) hb (h.inj j i hj hi hji)
    obtain ⟨cur', k1, k2, k3, k4⟩ := hr
    exact ⟨cur', k1, k2, k3, fun k hk => by
      have e : setM M i c q j k = M j k := if_neg (fun h => hji h.1)
      rw [e]; exact k4 k hk⟩
/-- What reads beside the rows: a boxed number. -/
theorem QC.put {W : World} {b o : Nat} {ng g : Bool} {vn vd un ud : Value} {q : Rat} {cs : Array Value} {T : TypeId} (h : QC W g un ud q) (k : Blk W b cs T) (hT : T ≠ 123) : QC (putQ W b o ng vn vd) g un ud q := h.keepT k hT (but_putQ ..)
theorem GM.keepT {W W' : World} {base gb R L b : Nat} {rb rc : Nat → Nat} {M : Nat → Nat → Rat} {cs : Array Value} {T : TypeId} (h : GM W base gb R L rb rc M) (k : Blk W b cs T) (hT : T ≠ 123) (hb : But b W W') (hg : gb ≠ b) (hr : ∀ i, i < R → rb i ≠ b) : GM W' base gb R L rb rc M := by
  obtain ⟨cur, h1, h2, h3, h4⟩ := h.gblk
  exact ⟨⟨cur, hb.blk h1 hg, h2, h3, h4⟩, h.gbase, h.rbase, h.inj, fun i hi => (h.row i hi).keepT k hT hb (hr i hi), h.len⟩
/-- w' is w but for the blocks of S and new ones. -/
structure ButS (S : Nat → Prop) (w w' : World) : Prop where
  os : w'.os = w.os
  tape : w'.tape = w.tape
  output : w'.output = w.output
  size : w.heap.size ≤ w'.heap.size
  block : ∀ b, b < w.heap.size → ¬ S b → w'.heap[b]? = w.heap[b]?
theorem ButS.refl (S : Nat → Prop) (w : World) : ButS S w w := ⟨rfl, rfl, rfl, Nat.le_refl _, fun _ _ _ => rfl⟩
theorem ButS.below {S : Nat → Prop} {w w1 w2 : World} (h : ButS S w w1) (k : Below w1.heap.size w1 w2) : ButS S w w2 :=
  ⟨k.os.trans h.os, k.tape.trans h.tape, k.output.trans h.output, Nat.le_trans h.size k.size, fun b hb hn => (k.block b (Nat.lt_of_lt_of_le hb h.size)).trans (h.block b hb hn)⟩
theorem ButS.trans {S : Nat → Prop} {w w1 w2 : World} (h : ButS S w w1) (k : ButS S w1 w2) : ButS S w w2 :=
  ⟨k.os.trans h.os, k.tape.trans h.tape, k.output.trans h.output, Nat.le_trans h.size k.size, fun b hb hn => (k.block b (Nat.lt_of_lt_of_le hb h.size) hn).trans (h.block b hb hn)⟩
theorem ButS.mono {S S' : Nat → Prop} {w w1 : World} (h : ButS S w w1) (hs : ∀ b, S b → S' b) : ButS S' w w1 :=
  ⟨h.os, h.tape, h.output, h.size, fun b hb hn => h.block b hb (fun hS => hn (hs b hS))⟩
theorem ButS.above {S : Nat → Prop} {w w1 w2 : World} (h : ButS S w w1) (k : Below w.heap.size w1 w2) : ButS S w w2 :=
  ⟨k.os.trans h.os, k.tape.trans h.tape, k.output.trans h.output, Nat.le_trans h.size k.size, fun b hb hn => (k.block b hb).trans (h.block b hb hn)⟩
theorem ButS.alloc {S : Nat → Prop} {w w1 : World} (h : ButS S w w1) (o : Obj) : ButS S w (w1.alloc o) := h.below (belowA (Below.refl _ _) o)
theorem ButS.set {S : Nat → Prop} {w w1 : World} (h : ButS S w w1) {a : Addr} (ha : S a.block ∨ w.heap.size ≤ a.block) (v : Value) : ButS S w (w1.setCell a v) :=
  ⟨h.os, h.tape, h.output, by simpa [World.setCell] using h.size, fun b hb hn => by
    rw [Below.heap_setCell _ _ _ _ (fun e => by
      rcases ha with ha | ha
      · exact hn (e ▸ ha)
      · omega)]
    exact h.block b hb hn⟩
theorem ButS.toBelow {S : Nat → Prop} {base : Nat} {w w1 : World} (h : ButS S w w1) (hS : ∀ b, S b → base ≤ b) (hb : base ≤ w.heap.size) : Below base w w1 :=
  ⟨h.os, h.tape, h.output, h.size, fun b hb' => h.block b (by omega) (fun hs => by have := hS b hs; omega)⟩
theorem ButS.blk {S : Nat → Prop} {w w1 : World} (k : ButS S w w1) {b : Nat} {c : Array Value} {t : TypeId} (h : Blk w b c t) (hn : ¬ S b) : Blk w1 b c t := by
  have := h.lt; unfold Blk at h ⊢; rw [k.block b this hn]; exact h
/-- The blocks of the rows. -/
def RS (rb : Nat → Nat) (R : Nat) : Nat → Prop := fun b => ∃ i, i < R ∧ rb i = b
end Go.Proofs.Ythcddboeejbncaa
