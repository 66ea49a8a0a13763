/- The law CurveConflicts: at the current that Conflict returns the backup is not selective, and at no lower one. For every input; no condition. -/
import Derived.Test.YtjkgkoedkphnjaaLawCrvScales
namespace Go.Proofs.Ytjkgkoedkphnjaa
open Go.RowKit

/-- Whether the law's closure calls a current wrong. -/
def wrongB (r1 r2 : Int × Int) (margin : Int) : Bool := decide (r2.2 = 0) && (decide (r1.2 ≠ 0) || decide (r2.1 < r1.1 + margin))

set_option maxHeartbeats 2000000 in
theorem wrong_c (va vb : Value) (a b : Pts) (pa pb margin k : Int) (b0 b1 b2 b3 b4 : Nat) (w : World) (hva : PVal w va a) (hvb : PVal w vb b)
    (c0 : Blk w b0 #[va] 53) (c1 : Blk w b1 #[.int .i64 pa] 3) (c2 : Blk w b2 #[vb] 53) (c3 : Blk w b3 #[.int .i64 pb] 3) (c4 : Blk w b4 #[.int .i64 margin] 3)
    (m0 : 0 ≤ margin) (m1 : margin ≤ 3600000) :
    Calls Try.prog 38 #[.int .i64 k, .pointer (some ⟨b0, 0, none⟩), .pointer (some ⟨b1, 0, none⟩), .pointer (some ⟨b2, 0, none⟩), .pointer (some ⟨b3, 0, none⟩), .pointer (some ⟨b4, 0, none⟩)] w fun e w' =>
      e = .returned (.bool (wrongB (a.timeR pa k) (b.timeR pb k) margin)) ∧ Below w.heap.size w w' := by
  obtain ⟨_, _, _, rfl⟩ := hva.slice
  obtain ⟨_, _, _, rfl⟩ := hvb.slice
  have d0 := c0.cell 0 rfl
  have d1 := c1.cell 0 rfl
  have HV := Lib.hid (And.intro hva hvb)
  have HC := Lib.hid (And.intro c2 (And.intro c3 c4))
  have HR := Lib.hid (timeR_cases a pa k)
  have HR2 := Lib.hid (timeR_cases b pb k)
  have HRa : Hid (∀ t, a.Ok → 1 ≤ pa → a.time pa k = some t → 0 ≤ t ∧ t ≤ 3600000) := fun t h1 h2 h3 => Pts.time_range h1 h2 h3
  have HRb : Hid (∀ t, b.Ok → 1 ≤ pb → b.time pb k = some t → 0 ≤ t ∧ t ≤ 3600000) := fun t h1 h2 h3 => Pts.time_range h1 h2 h3
  clear hva hvb c0 c1 c2 c3 c4
  obtain ⟨R1, hR1⟩ : ∃ R, a.timeR pa k = R := ⟨_, rfl⟩
  obtain ⟨R2, hR2⟩ : ∃ R, b.timeR pb k = R := ⟨_, rfl⟩
  rw [hR1] at HR
  rw [hR2] at HR2
  have H1 := Lib.hid hR1
  have H2 := Lib.hid hR2
  rw [hR1, hR2]
  clear hR1 hR2
  obtain ⟨t, f⟩ := R1
  obtain ⟨u, g⟩ := R2
  go_enter Try.func38, Try.ntmps38
  go_wp2_with fail
  refine (time_c _ a pa k _ HV.out.1).mono ?_; rintro e w2 ⟨rfl, e2⟩
  rw [H1.out]
  unfold two
  have B2 := Lib.hid e2
  have V2 := Lib.hid (HV.out.2.below e2)
  have C2 := Lib.hid (And.intro (below_blk e2 HC.out.1 HC.out.1.lt) (And.intro (below_blk e2 HC.out.2.1 HC.out.2.1.lt) (below_blk e2 HC.out.2.2 HC.out.2.2.lt)))
  clear e2 HV HC d0 d1
  have d2 := C2.out.1.cell 0 rfl
  have d3 := C2.out.2.1.cell 0 rfl
  go_wp2_with fail
  refine (time_c _ b pb k _ V2.out).mono ?_; rintro e w3 ⟨rfl, e3⟩
  rw [H2.out]
  unfold two
  have B3 := Lib.hid (belowT B2.out e3)
  have d4 := (below_blk e3 C2.out.2.2 C2.out.2.2.lt).cell 0 rfl
  clear e3 V2 d2 d3 B2
  rcases HR2.out with ⟨q1, q2⟩ | ⟨q1, q3, q4, _, _, _, q5⟩
  · have HW : Hid (wrongB (t, f) (u, g) margin = false) := by show _ = _; unfold wrongB; simp [q1]
    have g1 : (g == 0) = false := by simpa using q1
    clear q1 q2
    go_wp2
    go_ret
    rw [HW.out]
    exact ⟨rfl, B3.out⟩
  · have hu := HRb.out u q3 q4 q5
    subst q1
    clear q3 q4 q5
    rcases HR.out with ⟨p1, p2⟩ | ⟨p1, p3, p4, _, _, _, p5⟩
    · have HW : Hid (wrongB (t, f) (u, 0) margin = true) := by show _ = _; unfold wrongB; simp [p1]
      have g1 : (f != 0) = true := by simpa using p1
      clear p1 p2
      go_wp2
      go_ret
      rw [HW.out]
      exact ⟨rfl, B3.out⟩
    · have ht := HRa.out t p3 p4 p5
      subst p1
      clear p3 p4 p5
      by_cases hw : u < t + margin
      · have HW : Hid (wrongB (t, 0) (u, 0) margin = true) := by show _ = _; unfold wrongB; simp [hw]
        have g1 : decide (u < t + margin) = true := decide_eq_true hw
        clear hw
        go_wp2
        go_ret
        rw [HW.out]
        exact ⟨rfl, B3.out⟩
      · have HW : Hid (wrongB (t, 0) (u, 0) margin = false) := by show _ = _; unfold wrongB; simp; omega
        have g1 : decide (u < t + margin) = false := decide_eq_false hw
        clear hw
        go_wp2
        go_ret
        rw [HW.out]
        exact ⟨rfl, B3.out⟩

theorem wrong_eq {a b : Pts} (ha : a.Ok) (hb : b.Ok) {pa pb margin k : Int} (r1 : 1 ≤ pa) (r2 : pa ≤ 1000000) (r3 : 1 ≤ pb) (r4 : pb ≤ 1000000) (k0 : 0 ≤ k) (k1 : k ≤ 1000000) :
    wrongB (a.timeR pa k) (b.timeR pb k) margin = badAt a pa b pb margin k := by
  rw [timeR_ok ha, timeR_ok hb, if_neg (by omega), if_neg (by omega)]
  unfold wrongB badAt
  cases b.time pb k with
  | none => simp
  | some u => cases a.time pa k with
    | none => simp
    | some t => simp

/-- What Conflict tells. -/
theorem conflictR_cases (a : Pts) (pa : Int) (b : Pts) (pb margin low high : Int) :
    ((conflictR a pa b pb margin low high).2 ≠ 0 ∧ (conflictR a pa b pb margin low high).2 ≠ 8 ∧ (conflictR a pa b pb margin low high).1 = 0) ∨
    (0 ≤ margin ∧ margin ≤ 3600000 ∧ 0 ≤ low ∧ high ≤ 1000000 ∧ low ≤ high ∧
      (((conflictR a pa b pb margin low high).2 = 8 ∧ ∀ x, low ≤ x → x ≤ high → wrongB (a.timeR pa x) (b.timeR pb x) margin = false) ∨
       ((conflictR a pa b pb margin low high).2 = 0 ∧ low ≤ (conflictR a pa b pb margin low high).1 ∧ (conflictR a pa b pb margin low high).1 ≤ high ∧
         wrongB (a.timeR pa (conflictR a pa b pb margin low high).1) (b.timeR pb (conflictR a pa b pb margin low high).1) margin = true ∧
         ∀ x, low ≤ x → x < (conflictR a pa b pb margin low high).1 → wrongB (a.timeR pa x) (b.timeR pb x) margin = false))) := by
  unfold conflictR
  split
  · rename_i h
    have := a.err_codes
    exact Or.inl ⟨h, by simp only; omega, rfl⟩
  rename_i ha
  split
  · rename_i h
    have := b.err_codes
    exact Or.inl ⟨h, by simp only; omega, rfl⟩
  rename_i hb
  have hla := (Pts.err_zero a).1 (Decidable.not_not.1 ha)
  have hlb := (Pts.err_zero b).1 (Decidable.not_not.1 hb)
  split
  · exact Or.inl ⟨by decide, by decide, rfl⟩
  rename_i hr
  split
  · exact Or.inl ⟨by decide, by decide, rfl⟩
  refine Or.inr ⟨by omega, by omega, by omega, by omega, by omega, ?_⟩
  cases hs : scan (badAt a pa b pb margin) (high + 1 - low).toNat low with
  | none =>
    refine Or.inl ⟨rfl, fun x x0 x1 => ?_⟩
    rw [wrong_eq hla hlb (by omega) (by omega) (by omega) (by omega) (by omega) (by omega)]
    exact scan_none hs x x0 (by omega)
  | some k =>
    obtain ⟨k0, k1, k2, k3⟩ := scan_some hs
    refine Or.inr ⟨rfl, k0, by simp only; omega, ?_, fun x x0 x1 => ?_⟩
    · simp only; rw [wrong_eq hla hlb (by omega) (by omega) (by omega) (by omega) (by omega) (by omega)]; exact k2
    · rw [wrong_eq hla hlb (by omega) (by omega) (by omega) (by omega) (by omega) (by simp only at x1; omega)]
      exact k3 x x0 x1

/-- What the law's world holds: both characteristics, and the captured variables. -/
structure CfB (a : Pts) (pa : Int) (b : Pts) (pb margin : Int) (va vb : Value) (w w' : World) : Prop where
  pva : PVal w' va a
  pvb : PVal w' vb b
  x0 : Blk w' w.heap.size #[va] 53
  x1 : Blk w' (w.heap.size + 1) #[.int .i64 pa] 3
  x2 : Blk w' (w.heap.size + 1 + 1) #[vb] 53
  x3 : Blk w' (w.heap.size + 1 + 1 + 1) #[.int .i64 pb] 3
  x4 : Blk w' (w.heap.size + 1 + 1 + 1 + 1) #[.int .i64 margin] 3
  below : Below w.heap.size w w'
theorem CfB.go {a : Pts} {pa : Int} {b : Pts} {pb margin : Int} {va vb : Value} {w w1 w2 : World} (h : CfB a pa b pb margin va vb w w1) (k : Below w1.heap.size w1 w2) : CfB a pa b pb margin va vb w w2 :=
  ⟨h.pva.below k, h.pvb.below k, below_blk k h.x0 h.x0.lt, below_blk k h.x1 h.x1.lt, below_blk k h.x2 h.x2.lt, below_blk k h.x3 h.x3.lt, below_blk k h.x4 h.x4.lt, belowT h.below k⟩
theorem CfB.cells {a : Pts} {pa : Int} {b : Pts} {pb margin : Int} {va vb : Value} {w w' : World} (h : CfB a pa b pb margin va vb w w') :
    w'.cell? ⟨w.heap.size, 0, none⟩ = some va ∧ w'.cell? ⟨w.heap.size + 1, 0, none⟩ = some (.int .i64 pa) ∧ w'.cell? ⟨w.heap.size + 1 + 1, 0, none⟩ = some vb ∧ w'.cell? ⟨w.heap.size + 1 + 1 + 1, 0, none⟩ = some (.int .i64 pb) ∧ w'.cell? ⟨w.heap.size + 1 + 1 + 1 + 1, 0, none⟩ = some (.int .i64 margin) :=
  ⟨h.x0.cell 0 rfl, h.x1.cell 0 rfl, h.x2.cell 0 rfl, h.x3.cell 0 rfl, h.x4.cell 0 rfl⟩

set_option maxHeartbeats 4000000 in
theorem conflicts_walk (va : Value) (a : Pts) (pa : Int) (vb : Value) (b : Pts) (pb margin low high at_ : Int) (w : World) (hva : PVal w va a) (hvb : PVal w vb b) :
    Calls Try.prog 13 #[va, .int .i64 pa, vb, .int .i64 pb, .int .i64 margin, .int .i64 low, .int .i64 high, .int .i64 at_] w fun e w' => e = .returned (.bool true) ∧ Below w.heap.size w w' := by
  obtain ⟨sa, na, ca, rfl⟩ := hva.slice
  obtain ⟨sb, nb, cb, rfl⟩ := hvb.slice
  have HC := Lib.hid (conflictR_cases a pa b pb margin low high)
  have X0 := (((((Blk.new w #[.slice sa na ca] 53).alloc (.cells #[.int .i64 pa] 3)).alloc (.cells #[.slice sb nb cb] 53)).alloc (.cells #[.int .i64 pb] 3)).alloc (.cells #[.int .i64 margin] 3))
  have X1 := ((((Blk.new2 w (.cells #[.slice sa na ca] 53) #[.int .i64 pa] 3).alloc (.cells #[.slice sb nb cb] 53)).alloc (.cells #[.int .i64 pb] 3)).alloc (.cells #[.int .i64 margin] 3))
  have X2 := (((Blk.new2 (w.alloc (.cells #[.slice sa na ca] 53)) (.cells #[.int .i64 pa] 3) #[.slice sb nb cb] 53).alloc (.cells #[.int .i64 pb] 3)).alloc (.cells #[.int .i64 margin] 3))
  have X3 := ((Blk.new2 ((w.alloc (.cells #[.slice sa na ca] 53)).alloc (.cells #[.int .i64 pa] 3)) (.cells #[.slice sb nb cb] 53) #[.int .i64 pb] 3).alloc (.cells #[.int .i64 margin] 3))
  have X4 := (Blk.new2 (((w.alloc (.cells #[.slice sa na ca] 53)).alloc (.cells #[.int .i64 pa] 3)).alloc (.cells #[.slice sb nb cb] 53)) (.cells #[.int .i64 pb] 3) #[.int .i64 margin] 3)
  have XB : Below w.heap.size w (((((w.alloc (.cells #[.slice sa na ca] 53)).alloc (.cells #[.int .i64 pa] 3)).alloc (.cells #[.slice sb nb cb] 53)).alloc (.cells #[.int .i64 pb] 3)).alloc (.cells #[.int .i64 margin] 3)) :=
    belowA (belowA (belowA (belowA (belowA (Below.refl _ _) _) _) _) _) _
  simp only [World.size_alloc] at X2 X3 X4
  have HX := Lib.hid (And.intro X0 (And.intro X1 (And.intro X2 (And.intro X3 (And.intro X4 XB)))))
  have HV := Lib.hid (And.intro hva hvb)
  clear X0 X1 X2 X3 X4 XB hva hvb
  go_enter Try.func13, Try.ntmps13
  go_wp2_with fail
  generalize ((((w.alloc (.cells #[.slice sa na ca] 53)).alloc (.cells #[.int .i64 pa] 3)).alloc (.cells #[.slice sb nb cb] 53)).alloc (.cells #[.int .i64 pb] 3)).alloc (.cells #[.int .i64 margin] 3) = W0 at *
  refine (curveWorks_c _).mono ?_; rintro e w1 ⟨rfl, b1⟩
  have B1 : Hid (CfB a pa b pb margin (.slice sa na ca) (.slice sb nb cb) w w1) := ⟨HV.out.1.below (belowT HX.out.2.2.2.2.2 b1), HV.out.2.below (belowT HX.out.2.2.2.2.2 b1), below_blk b1 HX.out.1 HX.out.1.lt, below_blk b1 HX.out.2.1 HX.out.2.1.lt, below_blk b1 HX.out.2.2.1 HX.out.2.2.1.lt, below_blk b1 HX.out.2.2.2.1 HX.out.2.2.2.1.lt, below_blk b1 HX.out.2.2.2.2.1 HX.out.2.2.2.2.1.lt, belowT HX.out.2.2.2.2.2 b1⟩
  clear HX HV b1
  obtain ⟨d0, d1, d2, d3, d4⟩ := B1.out.cells
  go_wp2_with fail
  refine (conflict_c _ _ a b pa pb margin low high _ B1.out.pva B1.out.pvb).mono ?_; rintro e w2 ⟨rfl, b2⟩
  have B2 := Lib.hid (B1.out.go b2)
  clear b2 d0 d1 d2 d3 d4 B1
  unfold two
  have C := HC.out
  clear HC
  generalize conflictR a pa b pb margin low high = R at *
  obtain ⟨k, e1⟩ := R
  simp only at C ⊢
  rcases C with ⟨c1, c2, rfl⟩ | ⟨m0, m1, l0, h1, lh, C⟩
  · have g1 : (e1 != 0) = true := by simpa using c1
    have g2 : (e1 != 8) = true := by simpa using c2
    clear c1 c2
    go_wp2
    go_ret
    exact ⟨rfl, B2.out.below⟩
  · have eg := enters_of Try.func38 (by kernel_rfl) rfl
    have EG := Lib.hid eg
    clear eg
    have hD : ¬ high - low + 1 = 0 := by omega
    have t1 := Int.tmod_lt_of_pos at_ (show 0 < high - low + 1 by omega)
    have t2 := Int.lt_tmod_of_pos at_ (show 0 < high - low + 1 by omega)
    have t3 : 0 ≤ (at_.tmod (high - low + 1) + high - low + 1) % (high - low + 1) ∧ (at_.tmod (high - low + 1) + high - low + 1) % (high - low + 1) < high - low + 1 :=
      ⟨Int.emod_nonneg _ (by omega), Int.emod_lt_of_pos _ (by omega)⟩
    rcases C with ⟨rfl, c3⟩ | ⟨rfl, k0, k1, c3, c4⟩
    · have C3 := Lib.hid c3
      clear c3
      go_wp2_with fail
      have X1 : low ≤ low + (at_.tmod (high - low + 1) + high - low + 1) % (high - low + 1) ∧ low + (at_.tmod (high - low + 1) + high - low + 1) % (high - low + 1) ≤ high := by omega
      generalize low + (at_.tmod (high - low + 1) + high - low + 1) % (high - low + 1) = X at *
      refine (wrong_c _ _ a b pa pb margin X _ _ _ _ _ w2 B2.out.pva B2.out.pvb B2.out.x0 B2.out.x1 B2.out.x2 B2.out.x3 B2.out.x4 m0 m1).mono ?_; rintro e w3 ⟨rfl, b3⟩
      have B3 := Lib.hid (B2.out.go b3)
      rw [C3.out X X1.1 X1.2]
      clear b3 t1 t2 t3 B2
      go_wp2_with fail
      go_ret
      exact ⟨rfl, B3.out.below⟩
    · have C3 := Lib.hid (And.intro c3 c4)
      clear c3 c4
      go_wp2_with fail
      refine (wrong_c _ _ a b pa pb margin k _ _ _ _ _ w2 B2.out.pva B2.out.pvb B2.out.x0 B2.out.x1 B2.out.x2 B2.out.x3 B2.out.x4 m0 m1).mono ?_; rintro e w3 ⟨rfl, b3⟩
      have B3 := Lib.hid (B2.out.go b3)
      rw [C3.out.1]
      clear b3 B2
      have q1 : ¬ k < low := by omega
      have q2 : ¬ high < k := by omega
      go_wp2_with fail
      have X1 : low ≤ low + (at_.tmod (high - low + 1) + high - low + 1) % (high - low + 1) ∧ low + (at_.tmod (high - low + 1) + high - low + 1) % (high - low + 1) ≤ high := by omega
      generalize low + (at_.tmod (high - low + 1) + high - low + 1) % (high - low + 1) = X at *
      refine (wrong_c _ _ a b pa pb margin X _ _ _ _ _ w3 B3.out.pva B3.out.pvb B3.out.x0 B3.out.x1 B3.out.x2 B3.out.x3 B3.out.x4 m0 m1).mono ?_; rintro e w4 ⟨rfl, b4⟩
      have B4 := Lib.hid (B3.out.go b4)
      clear b4 t1 t2 t3 B3
      by_cases hX : X < k
      · rw [C3.out.2 X X1.1 hX]
        go_wp2_with fail
        go_ret
        exact ⟨rfl, B4.out.below⟩
      · have q3 : k ≤ X := by omega
        cases wrongB (a.timeR pa X) (b.timeR pb X) margin
        · go_wp2_with fail
          go_ret
          exact ⟨rfl, B4.out.below⟩
        · go_wp2_with fail
          go_ret
          exact ⟨rfl, B4.out.below⟩
end Go.Proofs.Ytjkgkoedkphnjaa
