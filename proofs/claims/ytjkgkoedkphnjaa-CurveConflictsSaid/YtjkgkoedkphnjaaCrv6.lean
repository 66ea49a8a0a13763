/- The fixed example of chapter 23 holds. -/
import Derived.Test.YtjkgkoedkphnjaaCrv5
namespace Go.Proofs.Ytjkgkoedkphnjaa
open Go.RowKit

def slopeP : Pts := [(100, 1000), (200, 500)]
def Slice2 (l : Pts) (w : World) (e : Ending) (w' : World) : Prop := ∃ v, e = .returned v ∧ PVal w' v l ∧ Below w.heap.size w w'

theorem PVal.new2 (w : World) (t : TypeId) (a b c d : Int) (cap : Nat) (hc : 2 ≤ cap) : PVal (w.alloc (.cells #[.int .i64 a, .int .i64 b, .int .i64 c, .int .i64 d] t)) (.slice (some ⟨w.heap.size, 0, none⟩) 2 cap) [(a, b), (c, d)] := by
  have h := Blk.new w #[.int .i64 a, .int .i64 b, .int .i64 c, .int .i64 d] t
  refine Or.inr ⟨w.heap.size, 0, cap, rfl, hc, by unfold maxLen; simp, h.lt, fun i hi => ?_⟩
  have : i = 0 ∨ i = 1 := by simp at hi; omega
  rcases this with rfl | rfl
  · exact ⟨h.cell 0 rfl, h.cell 1 rfl⟩
  · exact ⟨h.cell 2 rfl, h.cell 3 rfl⟩

set_option maxHeartbeats 1000000 in
theorem slope_c (w : World) : Calls Try.prog 51 #[] w fun e w' => Slice2 slopeP w e w' := by
  go_enter Try.func51, Try.ntmps51
  go_wp2
  go_ret
  exact ⟨_, rfl, PVal.new2 _ _ _ _ _ _ 2 (by decide), belowA (Below.refl _ _) _⟩

theorem slope_ok : slopeP.Ok := (Pts.err_zero slopeP).1 (by decide)


theorem ex_time : slopeP.timeR 100 150 = (750, 0) := by decide +kernel
theorem ex_scaleE : slopeP.scaleE 500 = 0 := by decide +kernel
theorem ex_scaled : slopeP.scaled 500 = [(100, 500), (200, 250)] := by decide +kernel
theorem ex_least : slopeP.leastR 100 750 = (150, 0) := by decide +kernel
theorem ex_conf1 : conflictR slopeP 100 slopeP 100 0 0 300 = (0, 8) := by decide +kernel
theorem ex_conf2 : conflictR slopeP 100 slopeP 100 1 0 300 = (100, 0) := by decide +kernel

set_option maxHeartbeats 4000000 in
theorem curveWorks_c (w : World) : Calls Try.prog 32 #[] w fun e w' => e = .returned (.bool true) ∧ Below w.heap.size w w' := by
  go_enter Try.func32, Try.ntmps32
  go_wp2_with fail
  refine (slope_c _).mono ?_; rintro e w1 ⟨v1, rfl, p1, b1⟩
  have B1 := Lib.hid b1
  obtain ⟨a1, n1, c1, rfl⟩ := p1.slice
  have P1 := Lib.hid p1
  clear b1 p1
  go_wp2_with fail
  refine (time_c _ slopeP 100 150 _ P1.out).mono ?_; rintro e w2 ⟨rfl, b2⟩
  rw [ex_time]; unfold two
  have B2 := Lib.hid (belowT B1.out b2)
  clear b2 P1 B1
  go_wp2_with fail
  refine (slope_c _).mono ?_; rintro e w3 ⟨v3, rfl, p3, b3⟩
  have B3 := Lib.hid (belowT B2.out b3)
  obtain ⟨a3, n3, c3, rfl⟩ := p3.slice
  have P3 := Lib.hid p3
  clear b3 p3 B2
  go_wp2_with fail
  refine (scale_c _ slopeP 500 _ P3.out).mono ?_; rintro e w4 ⟨v4, rfl, b4, _, p4⟩
  have p4 := p4 ex_scaleE
  rw [ex_scaleE]
  rw [ex_scaled] at p4
  have B4 := Lib.hid (belowT B3.out b4)
  rcases p4 with ⟨h, _⟩ | ⟨g4, o4, c4, rfl, _, _, p4⟩
  · cases h
  have P4 := Lib.hid p4
  clear b4 p4 B3 P3
  simp only [List.length_cons, List.length_nil, Nat.zero_add, Nat.reduceAdd]
  go_wp2_with fail
  refine (slope_c _).mono ?_; rintro e w5 ⟨v5, rfl, p5, b5⟩
  have B5 := Lib.hid (belowT B4.out b5)
  have P45 := Lib.hid (P4.out.below b5)
  obtain ⟨a5, n5, c5, rfl⟩ := p5.slice
  have P5 := Lib.hid p5
  clear b5 p5 B4 P4
  go_wp2_with fail
  refine (least_c _ slopeP 100 750 _ P5.out).mono ?_; rintro e w6 ⟨rfl, b6⟩
  rw [ex_least]; unfold two
  have B6 := Lib.hid (belowT B5.out b6)
  have P46 := Lib.hid (P45.out.below b6)
  clear b6 P5 P45 B5
  go_wp2_with fail
  refine (slope_c _).mono ?_; rintro e w7 ⟨v7, rfl, p7, b7⟩
  have B7 := Lib.hid (belowT B6.out b7)
  have P47 := Lib.hid (P46.out.below b7)
  obtain ⟨a7, n7, c7, rfl⟩ := p7.slice
  have P7 := Lib.hid p7
  clear b7 p7 B6 P46
  go_wp2_with fail
  refine (slope_c _).mono ?_; rintro e w8 ⟨v8, rfl, p8, b8⟩
  have B8 := Lib.hid (belowT B7.out b8)
  have P48 := Lib.hid (P47.out.below b8)
  have P7' := Lib.hid (P7.out.below b8)
  obtain ⟨a8, n8, c8, rfl⟩ := p8.slice
  have P8 := Lib.hid p8
  clear b8 p8 B7 P47 P7
  go_wp2_with fail
  refine (conflict_c _ _ slopeP slopeP 100 100 0 0 300 _ P7'.out P8.out).mono ?_; rintro e w9 ⟨rfl, b9⟩
  rw [ex_conf1]; unfold two
  have B9 := Lib.hid (belowT B8.out b9)
  have P49 := Lib.hid (P48.out.below b9)
  clear b9 P7' P8 P48 B8
  go_wp2_with fail
  refine (slope_c _).mono ?_; rintro e wa ⟨va, rfl, pa, ba⟩
  have BA := Lib.hid (belowT B9.out ba)
  have P4a := Lib.hid (P49.out.below ba)
  obtain ⟨aa, na, ca, rfl⟩ := pa.slice
  have PA := Lib.hid pa
  clear ba pa B9 P49
  go_wp2_with fail
  refine (slope_c _).mono ?_; rintro e wb ⟨vb, rfl, pb, bb⟩
  have BB := Lib.hid (belowT BA.out bb)
  have P4b := Lib.hid (P4a.out.below bb)
  have PA' := Lib.hid (PA.out.below bb)
  obtain ⟨ab, nb, cb, rfl⟩ := pb.slice
  have PB := Lib.hid pb
  clear bb pb BA P4a PA
  go_wp2_with fail
  refine (conflict_c _ _ slopeP slopeP 100 100 1 0 300 _ PA'.out PB.out).mono ?_; rintro e wc ⟨rfl, bc⟩
  rw [ex_conf2]; unfold two
  have BC := Lib.hid (belowT BB.out bc)
  have x1 := ((P4b.out.below bc).2 1 (by decide)).2
  have x2 : wc.cell? ⟨g4, o4 + 3, none⟩ = some (.int .i64 250) := x1
  have x3 : wc.cell? ⟨g4, o4 + 1 * 2 + 1, none⟩ = some (.int .i64 250) := x1
  have x4 : wc.cell? ⟨g4, o4 + 2 + 1, none⟩ = some (.int .i64 250) := x1
  clear x1 bc PA' PB P4b BB
  go_wp2
  go_ret
  exact ⟨rfl, BC.out⟩
end Go.Proofs.Ytjkgkoedkphnjaa
