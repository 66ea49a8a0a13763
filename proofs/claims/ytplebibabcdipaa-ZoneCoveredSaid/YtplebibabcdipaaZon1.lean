/- zone.branch, zone.CheckPlace. -/
import Derived.Test.YtplebibabcdipaaIdx
import Derived.Test.YtplebibabcdipaaNetK
namespace Go.Proofs.Ytplebibabcdipaa
open Go.RowKit

/-- A relay, a place. -/
structure ZRel where
  node : ByteArray
  branch : ByteArray
  zones : List ZSt
structure Plc where
  branch : ByteArray
  part : Int
/-- The index of a branch, or -1. -/
def brAt (n : Net) (nm : ByteArray) : Int := idxP (fun b : NBr => sameB b.name nm) n.brs 0

set_option maxHeartbeats 1000000 in
theorem zb1_c (x : NBr) (nm : ByteArray) (nb : Nat) (w : World) (c0 : w.cell? ⟨nb, 0, none⟩ = some (.string nm)) (hnb : nb < w.heap.size) :
    Calls Try.prog 84 #[.agg x.cells.toArray, .pointer (some ⟨nb, 0, none⟩)] w fun e w' => e = .returned (.bool (sameB x.name nm)) ∧ Below w.heap.size w w' := by
  obtain ⟨n0, fr, to, x3, x4, x5, x6, x7, x8⟩ := x
  show Calls _ _ #[.agg #[.string n0, .string fr, .string to, .int .i64 x3, .int .i64 x4, .int .i64 x5, .int .i64 x6, .int .i64 x7, .int .i64 x8], _] _ _
  have HE : Hid (sameB n0 nm = (n0.toList == nm.toList)) := rfl
  have B : Hid (Below w.heap.size w (w.alloc (.cells #[.string n0, .string fr, .string to, .int .i64 x3, .int .i64 x4, .int .i64 x5, .int .i64 x6, .int .i64 x7, .int .i64 x8] 36))) := belowA (Below.refl _ _) _
  simp only
  generalize sameB n0 nm = E at *
  go_enter Try.func84, Try.ntmps84
  go_wp2_with fail
  go_ret
  exact ⟨by rw [HE.out]; rfl, B.out⟩

set_option maxHeartbeats 1000000 in
theorem zbr_c (x0 : NAddr) (n : Net) (nm : ByteArray) (w : World) (hr : NetR w x0 n) :
    Calls Try.prog 36 #[x0.val n, .string nm] w fun e w' => e = .returned (.int .i64 (brAt n nm)) ∧ Below w.heap.size w w' := by
  obtain ⟨na, nc, sa, sc, ba, bc, ga, gc, la, lc, ta, tc⟩ := x0
  obtain ⟨nl, sws, brs, gens, loads, stores⟩ := n
  have r2 := hr.brs
  have HE : Hid (brAt ⟨nl, sws, brs, gens, loads, stores⟩ nm = idxP (fun b : NBr => sameB b.name nm) brs 0) := rfl
  generalize brAt ⟨nl, sws, brs, gens, loads, stores⟩ nm = E at *
  simp only at r2
  show Calls _ _ #[netV na nl.length nc sa sws.length sc ba brs.length bc ga gens.length gc la loads.length lc ta stores.length tc, _] _ _
  generalize nl.length = nn at *
  generalize sws.length = sn at *
  obtain ⟨bn, hB⟩ : ∃ n, brs.length = n := ⟨_, rfl⟩
  generalize gens.length = gn at *
  generalize loads.length = ln at *
  generalize stores.length = tn at *
  have HC : Hid (∀ W g caps P, Below w.heap.size w W → (∀ (args : Array Value) (w : World), (callFunc g args).run Try.prog w = .ok (.enter g args) w) → TellsE W g caps (fun a : NBr => .agg a.cells.toArray) brs P →
      Calls Try.prog 54 #[.slice ba bn bc, .func (.func g) #[] caps] W fun e w' => e = .returned (.int .i64 (idxP P brs 0)) ∧ Below W.heap.size W w') := by
    intro W g caps P hb eg hf
    rw [← hB]
    exact indexBr_c (.slice ba brs.length bc) brs P g caps W (r2.below hb) eg hf
  rw [hB]
  clear hr r2 hB
  have B1 := belowA (Below.refl w.heap.size w) (.cells #[.slice na nn nc, .slice sa sn sc, .slice ba bn bc, .slice ga gn gc, .slice la ln lc, .slice ta tn tc] 29)
  have K1 := Blk.new w #[.slice na nn nc, .slice sa sn sc, .slice ba bn bc, .slice ga gn gc, .slice la ln lc, .slice ta tn tc] 29
  generalize hW1 : w.alloc (.cells #[.slice na nn nc, .slice sa sn sc, .slice ba bn bc, .slice ga gn gc, .slice la ln lc, .slice ta tn tc] 29) = W1 at *
  have B2 := Lib.hid (belowA B1 (.cells #[.string nm] 9))
  have K2 := K1.alloc (.cells #[.string nm] 9)
  have K3 := Blk.new W1 #[.string nm] 9
  generalize hW2 : W1.alloc (.cells #[.string nm] 9) = W2 at *
  have x2 := K2.cell 2 rfl
  have y0 := K3.cell 0 rfl
  have ly := K3.lt
  have HC2 := Lib.hid (HC.out W2 84 #[.pointer (some ⟨W1.heap.size, 0, none⟩)] (fun b => sameB b.name nm) B2.out (fun a w' => enters_of Try.func84 (by kernel_rfl) rfl a w')
    (fun a W _ hW => (zb1_c a nm W1.heap.size W (by rw [hW.cell (p := ⟨W1.heap.size, 0, none⟩) ly]; exact y0) (Nat.lt_of_lt_of_le ly hW.size)).mono fun e w' ⟨he, hw⟩ => ⟨he, hW.trans (hw.mono hW.size)⟩))
  clear HC K1 K2 K3 B1
  go_enter Try.func36, Try.ntmps36
  go_wp2_with fail
  refine HC2.out.mono ?_; rintro e w3 ⟨rfl, hb3⟩
  have B3 := Lib.hid hb3
  clear hb3
  go_wp2_with fail
  go_ret
  exact ⟨by rw [HE.out]; rfl, belowT B2.out B3.out⟩

/-- What CheckPlace answers. -/
def placeE (n : Net) (p : Plc) : Int := if netE n ≠ 0 then netE n else if brAt n p.branch < 0 then 6 else if p.part < 0 ∨ 1000 < p.part then 4 else 0
set_option maxHeartbeats 1000000 in
theorem place_c (x0 : NAddr) (n : Net) (nm : ByteArray) (pt : Int) (w : World) (hr : NetR w x0 n) (hwf : n.Wf) :
    Calls Try.prog 14 #[x0.val n, .agg #[.string nm, .int .i64 pt]] w fun e w' => e = .returned (.int .i64 (placeE n ⟨nm, pt⟩)) ∧ Below w.heap.size w w' := by
  have HN := Lib.hid (fun W (hb : Below w.heap.size w W) => net_c x0 n W (hr.below hb) hwf)
  have HB := Lib.hid (fun W (hb : Below w.heap.size w W) => zbr_c x0 n nm W (hr.below hb))
  have HE : Hid (placeE n ⟨nm, pt⟩ = if netE n ≠ 0 then netE n else if brAt n nm < 0 then 6 else if pt < 0 ∨ 1000 < pt then 4 else 0) := rfl
  generalize placeE n ⟨nm, pt⟩ = E at *
  generalize netE n = Z at *
  generalize brAt n nm = K at *
  clear hr hwf
  obtain ⟨na, nc, sa, sc, ba, bc, ga, gc, la, lc, ta, tc⟩ := x0
  obtain ⟨nl, sws, brs, gens, loads, stores⟩ := n
  simp only [NAddr.val] at HN HB ⊢
  generalize nl.length = nn at *
  generalize sws.length = sn at *
  generalize brs.length = bn at *
  generalize gens.length = gn at *
  generalize loads.length = ln at *
  generalize stores.length = tn at *
  have B1 := belowA (Below.refl w.heap.size w) (.cells #[.slice na nn nc, .slice sa sn sc, .slice ba bn bc, .slice ga gn gc, .slice la ln lc, .slice ta tn tc] 29)
  have K1 := Blk.new w #[.slice na nn nc, .slice sa sn sc, .slice ba bn bc, .slice ga gn gc, .slice la ln lc, .slice ta tn tc] 29
  generalize hW1 : w.alloc (.cells #[.slice na nn nc, .slice sa sn sc, .slice ba bn bc, .slice ga gn gc, .slice la ln lc, .slice ta tn tc] 29) = W1 at *
  have B2 := Lib.hid (belowA B1 (.cells #[.string nm, .int .i64 pt] 31))
  have K2 := K1.alloc (.cells #[.string nm, .int .i64 pt] 31)
  have K3 := Blk.new W1 #[.string nm, .int .i64 pt] 31
  generalize hW2 : W1.alloc (.cells #[.string nm, .int .i64 pt] 31) = W2 at *
  have x0 := K2.cell 0 rfl
  have x1 := K2.cell 1 rfl
  have x2 := K2.cell 2 rfl
  have x3 := K2.cell 3 rfl
  have x4 := K2.cell 4 rfl
  have x5 := K2.cell 5 rfl
  have H1 := Lib.hid (HN.out W2 B2.out)
  clear B1 K1 HN
  go_enter Try.func14, Try.ntmps14
  go_wp2_with fail
  refine H1.out.mono ?_; rintro e w3 ⟨rfl, hb3⟩
  have B3 := Lib.hid (belowT B2.out hb3)
  have K2' := below_blk hb3 K2 K2.lt
  have K3' := below_blk hb3 K3 K3.lt
  clear x0 x1 x2 x3 x4 x5 hb3 K2 K3 H1
  have x0 := K2'.cell 0 rfl
  have x1 := K2'.cell 1 rfl
  have x2 := K2'.cell 2 rfl
  have x3 := K2'.cell 3 rfl
  have x4 := K2'.cell 4 rfl
  have x5 := K2'.cell 5 rfl
  have y0 := K3'.cell 0 rfl
  by_cases hz : Z = 0
  · have g1 : (Z != 0) = false := by simp [hz]
    have HE2 := Lib.hid (HE.out.trans (if_neg (fun h => h hz)))
    have H2 := Lib.hid (HB.out w3 B3.out)
    clear hz HE HB
    go_wp2_with fail
    refine H2.out.mono ?_; rintro e w4 ⟨rfl, hb4⟩
    have B4 := Lib.hid (belowT B3.out hb4)
    have K4 := below_blk hb4 K3' K3'.lt
    clear x0 x1 x2 x3 x4 x5 y0 hb4 K2' K3' H2
    have y1 := K4.cell 1 rfl
    by_cases hk : K < 0
    · have g2 : decide (K < 0) = true := decide_eq_true hk
      have HR := Lib.hid (HE2.out.trans (if_pos hk))
      clear hk HE2
      go_wp2_with fail
      go_ret
      exact ⟨by rw [HR.out]; rfl, B4.out⟩
    · have g2 : decide (K < 0) = false := decide_eq_false hk
      have HE3 := Lib.hid (HE2.out.trans (if_neg hk))
      clear hk HE2
      by_cases h1 : pt < 0
      · have HR := Lib.hid (HE3.out.trans (if_pos (Or.inl h1)))
        have g3 : decide (pt < 0) = true := decide_eq_true h1
        clear h1 HE3
        go_wp2_with fail
        go_ret
        exact ⟨by rw [HR.out]; rfl, B4.out⟩
      · have g3 : decide (pt < 0) = false := decide_eq_false h1
        by_cases h2 : 1000 < pt
        · have HR := Lib.hid (HE3.out.trans (if_pos (Or.inr h2)))
          have g4 : decide (1000 < pt) = true := decide_eq_true h2
          clear h1 h2 HE3
          go_wp2_with fail
          go_ret
          exact ⟨by rw [HR.out]; rfl, B4.out⟩
        · have HR := Lib.hid (HE3.out.trans (if_neg (fun h => h.elim h1 h2)))
          have g4 : decide (1000 < pt) = false := decide_eq_false h2
          clear h1 h2 HE3
          go_wp2_with fail
          go_ret
          exact ⟨by rw [HR.out]; rfl, B4.out⟩
  · have g1 : (Z != 0) = true := by simp [hz]
    have HR := Lib.hid (HE.out.trans (if_pos hz))
    clear hz HE
    go_wp2_with fail
    go_ret
    exact ⟨by rw [HR.out]; rfl, B3.out⟩
end Go.Proofs.Ytplebibabcdipaa
