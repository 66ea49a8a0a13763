/- Over-current characteristics: the contract of at. -/
import Derived.Test.YtjkgkoedkphnjaaCrv
import Derived.Test.YtjkgkoedkphnjaaSearch
namespace Go.Proofs.Ytjkgkoedkphnjaa
open Go.RowKit

/-- Whether the multiple of a point is too great for a current (both multiplied). -/
def ovr (pk m : Int) (x : Int × Int) : Bool := decide (m < x.1 * pk)

set_option maxHeartbeats 400000 in
/-- The closure of at: whether the multiple of point k is too great for the current. -/
theorem at1_c (l : Pts) (pk m : Int) (b off cap b3 b4 b8 : Nat) (k : Int) (w : World) (hp : PAt w b off l) (hk0 : 0 ≤ k) (hk1 : k < l.length)
    (c3 : w.cell? ⟨b3, 0, none⟩ = some (.slice (some ⟨b, off, none⟩) l.length cap)) (c4 : w.cell? ⟨b4, 0, none⟩ = some (.int .i64 pk)) (c8 : w.cell? ⟨b8, 0, none⟩ = some (.int .i64 m))
    (m1 : 100 ≤ (l.pt k.toNat).1) (m2 : (l.pt k.toNat).1 ≤ 10000) (p1 : 1 ≤ pk) (p2 : pk ≤ 1000000) :
    Calls Try.prog 56 #[.int .i64 k, .pointer (some ⟨b3, 0, none⟩), .pointer (some ⟨b4, 0, none⟩), .pointer (some ⟨b8, 0, none⟩)] w fun e w' =>
      e = .returned (.bool (ovr pk m (l.pt k.toNat))) ∧ Below w.heap.size w w' := by
  obtain ⟨n, rfl⟩ := Int.eq_ofNat_of_zero_le hk0
  have hn : n < l.length := by omega
  have x0 := (hp.2 n hn).1
  simp only [Int.toNat_natCast] at m1 m2 ⊢
  obtain ⟨xm, xt, hx⟩ : ∃ xm xt, l.pt n = (xm, xt) := ⟨_, _, rfl⟩
  rw [hx] at x0 m1 m2 ⊢
  clear hx
  obtain ⟨N, hN⟩ : ∃ N, l.length = N := ⟨_, rfl⟩
  rw [hN] at hn hk1 c3
  clear hN
  simp only at x0 m1 m2 ⊢
  have hm : 100 ≤ xm * pk ∧ xm * pk ≤ 10000000000 := by
    constructor
    · have : 100 * 1 ≤ xm * pk := Int.mul_le_mul m1 p1 (by decide) (by omega)
      omega
    · have : xm * pk ≤ 10000 * 1000000 := Int.mul_le_mul m2 p2 (by omega) (by omega)
      omega
  clear hp
  go_enter Try.func56, Try.ntmps56
  go_wp2
  refine wp_region_quiet_lit (by kernel_rfl) (by kernel_rfl) ?_
  repeat (first | go_big_quiet_step (fail) | (go_big_quiet_want; go_simp; go_big_quiet_on))
  refine wpQuiet_nil ?_
  intro _ hw'
  obtain ⟨nq, hw''⟩ := hw'
  subst hw''
  go_wp2
  go_ret
  exact ⟨rfl, below_drewN (Below.refl _ _) _⟩

/-- Which point is the last one at most m. -/
def Pts.seg (l : Pts) (pk m : Int) : Int := bis (fun k => ovr pk m (l.pt k.toNat)) l.length 0 l.length - 1
/-- The time at a current. -/
def Pts.time (l : Pts) (pk cur : Int) : Option Int :=
  if 100 * cur < (l.pt 0).1 * pk then none
  else
    let k := l.seg pk (100 * cur)
    let p := l.pt k.toNat
    if k = l.length - 1 then some p.2
    else
      let q := l.pt (k + 1).toNat
      some (p.2 - (p.2 - q.2) * (100 * cur - p.1 * pk) / ((q.1 - p.1) * pk))
def tval : Option Int → Value
  | none => .tuple #[.int .i64 0, .bool false]
  | some t => .tuple #[.int .i64 t, .bool true]

theorem Pts.Ok.inc {l : Pts} (h : l.Ok) : ∀ d i : Nat, i + d < l.length → (l.pt i).1 + d ≤ (l.pt (i + d)).1 := by
  intro d
  induction d with
  | zero => intro i _; simp
  | succ d ih =>
    intro i hi
    have h1 := ih i (by omega)
    have h2 := h.up (i + d) (by omega)
    rw [show i + (d + 1) = i + d + 1 from by omega]
    omega

theorem ovr_mono {l : Pts} (h : l.Ok) {pk m : Int} (p1 : 1 ≤ pk) {x y : Int} (x0 : 0 ≤ x) (xy : x ≤ y) (y1 : y < l.length) (hx : ovr pk m (l.pt x.toNat) = true) : ovr pk m (l.pt y.toNat) = true := by
  unfold ovr at hx ⊢
  have h1 := h.inc (y.toNat - x.toNat) x.toNat (by omega)
  rw [show x.toNat + (y.toNat - x.toNat) = y.toNat from by omega] at h1
  have h2 : (l.pt x.toNat).1 * pk ≤ (l.pt y.toNat).1 * pk := Int.mul_le_mul_of_nonneg_right (by omega) (by omega)
  have h3 := of_decide_eq_true hx
  exact decide_eq_true (by omega)

/-- Where the segment lies. -/
theorem Pts.seg_spec {l : Pts} (h : l.Ok) {pk m : Int} (p1 : 1 ≤ pk) (h0 : ¬ m < (l.pt 0).1 * pk) :
    0 ≤ l.seg pk m ∧ l.seg pk m < l.length ∧ (l.pt (l.seg pk m).toNat).1 * pk ≤ m ∧ (l.seg pk m + 1 < l.length → m < (l.pt (l.seg pk m + 1).toNat).1 * pk) := by
  have hl := h.len1
  obtain ⟨a, b, c, d⟩ := bis_spec (fun k => ovr pk m (l.pt k.toNat)) l.length 0 l.length (by omega) (by omega) (fun x y k1 k2 k3 k4 => ovr_mono h p1 k1 k2 k3 k4)
  unfold Pts.seg
  generalize bis (fun k => ovr pk m (l.pt k.toNat)) l.length 0 l.length = r at *
  have r0 : r ≠ 0 := by
    intro hr
    have := d (by omega)
    rw [hr] at this
    have := of_decide_eq_true this
    simp only [Int.toNat_zero] at this
    exact h0 this
  refine ⟨by omega, by omega, ?_, fun h' => ?_⟩
  · have := c (r - 1) (by omega) (by omega)
    have := of_decide_eq_false this
    omega
  · have := d (by omega)
    have := of_decide_eq_true this
    rw [show r - 1 + 1 = r from by omega]
    exact this

set_option maxHeartbeats 1000000 in
theorem at_c (l : Pts) (hl : l.Ok) (pk cur : Int) (p1 : 1 ≤ pk) (p2 : pk ≤ 1000000) (q1 : 0 ≤ cur) (q2 : cur ≤ 1000000) (b off cap : Nat) (w : World) (hp : PAt w b off l) :
    Calls Try.prog 52 #[.slice (some ⟨b, off, none⟩) l.length cap, .int .i64 pk, .int .i64 cur] w fun e w' => e = .returned (tval (l.time pk cur)) ∧ Below w.heap.size w w' := by
  have bl := hp.1
  have bl1 : b < w.heap.size + 1 := by omega
  have bl2 : b < w.heap.size + 1 + 1 := by omega
  have bl3 : b < w.heap.size + 2 := by omega
  have x0 := (hp.2 0 (by have := hl.len1; omega)).1
  have m1 := hl.m1 0 (by have := hl.len1; omega)
  have m2 := hl.m2 0 (by have := hl.len1; omega)
  have hm : 100 ≤ (l.pt 0).1 * pk ∧ (l.pt 0).1 * pk ≤ 10000000000 := by
    constructor
    · have : 100 * 1 ≤ (l.pt 0).1 * pk := Int.mul_le_mul m1 p1 (by decide) (by omega)
      omega
    · have : (l.pt 0).1 * pk ≤ 10000 * 1000000 := Int.mul_le_mul m2 p2 (by omega) (by omega)
      omega
  by_cases h0 : 100 * cur < (l.pt 0).1 * pk
  · have HT : Hid (l.time pk cur = none) := by show _ = _; unfold Pts.time; rw [if_pos h0]
    generalize l.time pk cur = R at *
    have n1 := hl.len1
    obtain ⟨N, hN⟩ : ∃ N, l.length = N := ⟨_, rfl⟩
    rw [hN] at n1 ⊢
    clear hN hp
    generalize (l.pt 0).1 = xm at *
    simp only [Nat.zero_mul, Nat.add_zero] at x0
    have g0 : decide (100 * cur < xm * pk) = true := decide_eq_true h0
    clear h0
    go_enter Try.func52, Try.ntmps52
    go_wp2
    refine wp_region_quiet_lit (by kernel_rfl) (by kernel_rfl) ?_
    repeat (first | go_big_quiet_step (fail) | (go_big_quiet_want; go_simp; go_big_quiet_on))
    refine wpQuiet_nil ?_
    intro _ hw'
    obtain ⟨nq, hw''⟩ := hw'
    subst hw''
    go_wp2
    go_ret2
    rw [HT.out]
    exact ⟨rfl, below_drewN (by repeat (first | exact Below.refl _ _ | refine belowA ?_ _)) _⟩
  · have g0 : decide (100 * cur < (l.pt 0).1 * pk) = false := decide_eq_false h0
    have hs := Pts.seg_spec hl p1 h0
    have HT : Hid (l.time pk cur = if l.seg pk (100 * cur) = l.length - 1 then some (l.pt (l.seg pk (100 * cur)).toNat).2
      else some ((l.pt (l.seg pk (100 * cur)).toNat).2 - ((l.pt (l.seg pk (100 * cur)).toNat).2 - (l.pt (l.seg pk (100 * cur) + 1).toNat).2) * (100 * cur - (l.pt (l.seg pk (100 * cur)).toNat).1 * pk) / (((l.pt (l.seg pk (100 * cur) + 1).toNat).1 - (l.pt (l.seg pk (100 * cur)).toNat).1) * pk))) := by
      show _ = _; unfold Pts.time; rw [if_neg h0]
    have HSeg : Hid (l.seg pk (100 * cur) = bis (fun k => ovr pk (100 * cur) (l.pt k.toNat)) l.length 0 l.length - 1) := rfl
    generalize l.seg pk (100 * cur) = K at *
    generalize l.time pk cur = R at *
    have HP := Lib.hid hp
    have HL := Lib.hid hl
    obtain ⟨k0, k1, k2, k3⟩ := hs
    have n1 := hl.len1
    have n2 := hl.len2
    obtain ⟨N, hN⟩ : ∃ N, l.length = N := ⟨_, rfl⟩
    have HN := Lib.hid hN
    rw [hN] at n1 n2 k1 k3 ⊢
    clear hN hp hl h0
    simp only [Nat.zero_mul, Nat.add_zero] at x0
    obtain ⟨xm, hx⟩ : ∃ xm, (l.pt 0).1 = xm := ⟨_, rfl⟩
    rw [hx] at x0 m1 m2 hm g0
    clear hx
    go_enter Try.func52, Try.ntmps52
    go_wp2
    refine wp_region_quiet_lit (by kernel_rfl) (by kernel_rfl) ?_
    repeat (first | go_big_quiet_step (fail) | (go_big_quiet_want; go_simp; go_big_quiet_on))
    refine wpQuiet_nil ?_
    intro _ hw'
    obtain ⟨nq, hw''⟩ := hw'
    subst hw''
    go_wp2_with fail
    have B3 := (((Blk.new w #[.slice (some ⟨b, off, none⟩) N cap] 53).alloc (.cells #[.int .i64 pk] 3)).alloc (.cells #[.int .i64 (100 * cur)] 3)).drewN nq
    have B4 := ((Blk.new (w.alloc (.cells #[.slice (some ⟨b, off, none⟩) N cap] 53)) #[.int .i64 pk] 3).alloc (.cells #[.int .i64 (100 * cur)] 3)).drewN nq
    have B8 := (Blk.new ((w.alloc (.cells #[.slice (some ⟨b, off, none⟩) N cap] 53)).alloc (.cells #[.int .i64 pk] 3)) #[.int .i64 (100 * cur)] 3).drewN nq
    have BW : Below w.heap.size w ((((w.alloc (.cells #[.slice (some ⟨b, off, none⟩) N cap] 53)).alloc (.cells #[.int .i64 pk] 3)).alloc (.cells #[.int .i64 (100 * cur)] 3)).drewN nq) :=
      below_drewN (belowA (belowA (belowA (Below.refl _ _) _) _) _) _
    simp only [World.size_alloc] at B4 B8
    generalize (((w.alloc (.cells #[.slice (some ⟨b, off, none⟩) N cap] 53)).alloc (.cells #[.int .i64 pk] 3)).alloc (.cells #[.int .i64 (100 * cur)] 3)).drewN nq = W0 at *
    have HB := Lib.hid (And.intro B3 (And.intro B4 (And.intro B8 BW)))
    clear B3 B4 B8 BW
    have hmul : ∀ x : Int, 100 ≤ x → x ≤ 10000 → 100 ≤ x * pk ∧ x * pk ≤ 10000000000 := by
      intro x h1 h2
      constructor
      · have : 100 * 1 ≤ x * pk := Int.mul_le_mul h1 p1 (by decide) (by omega)
        omega
      · have : x * pk ≤ 10000 * 1000000 := Int.mul_le_mul h2 p2 (by omega) (by omega)
        omega
    have HMul := Lib.hid hmul
    clear hmul
    refine (search_c (N : Int) (by omega) (by omega) (fun k => ovr pk (100 * cur) (l.pt k.toNat)) 56 _ W0 (fun a w' => enters_of Try.func56 (by kernel_rfl) rfl a w') ?_).mono ?_
    · show ∀ _, _
      intro k W k0 k1 hW
      have hlen : k < l.length := by rw [HN.out]; exact k1
      exact (at1_c l pk (100 * cur) b off cap w.heap.size (w.heap.size + 1) (w.heap.size + 1 + 1) k W ((HP.out.below HB.out.2.2.2).below hW) k0 hlen
        (by rw [HN.out]; exact (below_blk hW HB.out.1 HB.out.1.lt).cell 0 rfl) ((below_blk hW HB.out.2.1 HB.out.2.1.lt).cell 0 rfl) ((below_blk hW HB.out.2.2.1 HB.out.2.2.1.lt).cell 0 rfl)
        (HL.out.m1 _ (by omega)) (HL.out.m2 _ (by omega)) p1 p2).mono fun e w' ⟨he, hb⟩ => ⟨he, belowT hW hb⟩
    · rintro e W1 ⟨rfl, hb1⟩
      have hr : bis (fun k => ovr pk (100 * cur) (l.pt k.toNat)) (N : Int).toNat 0 N = K + 1 := by
        have := HSeg.out; rw [HN.out] at this; rw [Int.toNat_natCast]; omega
      rw [hr]
      clear hr HSeg x0 m1 m2 hm g0
      have HB1 := Lib.hid (And.intro (below_blk hb1 HB.out.1 HB.out.1.lt) (And.intro (below_blk hb1 HB.out.2.1 HB.out.2.1.lt) (And.intro (below_blk hb1 HB.out.2.2.1 HB.out.2.2.1.lt) (belowT HB.out.2.2.2 hb1))))
      have HP1 := Lib.hid ((HP.out.below HB.out.2.2.2).below hb1)
      clear hb1 HP HB
      have c3 := HB1.out.1.cell 0 rfl
      have c4 := HB1.out.2.1.cell 0 rfl
      have c8 := HB1.out.2.2.1.cell 0 rfl
      have l3 := HB1.out.1.lt
      have l4 := HB1.out.2.1.lt
      have l8 := HB1.out.2.2.1.lt
      have lb := HP1.out.1
      have l3' : w.heap.size < W1.heap.size + 1 := by omega
      have l4' : w.heap.size + 1 < W1.heap.size + 1 := by omega
      have l8' : w.heap.size + 1 + 1 < W1.heap.size + 1 := by omega
      have lb' : b < W1.heap.size + 1 := by omega
      have x0 := (HP1.out.2 K.toNat (by rw [HN.out]; omega)).1
      have x1 := (HP1.out.2 K.toNat (by rw [HN.out]; omega)).2
      have xm1 := HL.out.m1 K.toNat (by rw [HN.out]; omega)
      have xm2 := HL.out.m2 K.toNat (by rw [HN.out]; omega)
      have xt1 := HL.out.t1 K.toNat (by rw [HN.out]; omega)
      have xt2 := HL.out.t2 K.toNat (by rw [HN.out]; omega)
      have xp := HMul.out _ xm1 xm2
      by_cases hlast : K = N - 1
      · have HR : Hid (R = some (l.pt K.toNat).2) := HT.out.trans (if_pos (by rw [HN.out]; exact hlast))
        have g1 : (K == (N : Int) - 1) = true := by simpa using hlast
        clear HT HMul hlast k2 k3
        generalize (l.pt K.toNat).1 = pm at *
        generalize (l.pt K.toNat).2 = pt at *
        go_wp2
        go_ret2
        rw [HR.out]
        exact ⟨rfl, belowA HB1.out.2.2.2 _⟩
      · have HR : Hid (R = _) := HT.out.trans (if_neg (by rw [HN.out]; exact hlast))
        have g1 : (K == (N : Int) - 1) = false := by simpa using hlast
        have k4 : K + 1 < N := by omega
        have k5 := k3 k4
        have y0 := (HP1.out.2 (K + 1).toNat (by rw [HN.out]; omega)).1
        have y1 := (HP1.out.2 (K + 1).toNat (by rw [HN.out]; omega)).2
        have ym1 := HL.out.m1 (K + 1).toNat (by rw [HN.out]; omega)
        have ym2 := HL.out.m2 (K + 1).toNat (by rw [HN.out]; omega)
        have yt1 := HL.out.t1 (K + 1).toNat (by rw [HN.out]; omega)
        have yt2 := HL.out.t2 (K + 1).toNat (by rw [HN.out]; omega)
        have hu := HL.out.up K.toNat (by rw [HN.out]; omega)
        have hd := HL.out.dn K.toNat (by rw [HN.out]; omega)
        rw [show K.toNat + 1 = (K + 1).toNat from by omega] at hu hd
        clear HT k3
        generalize (l.pt K.toNat).1 = pm at *
        generalize (l.pt K.toNat).2 = pt at *
        generalize (l.pt (K + 1).toNat).1 = qm at *
        generalize (l.pt (K + 1).toNat).2 = qt at *
        have z1 := HMul.out (qm) ym1 ym2
        have z2 : 1 ≤ (qm - pm) * pk ∧ (qm - pm) * pk ≤ 10000000000 := by
          constructor
          · have : 1 * 1 ≤ (qm - pm) * pk := Int.mul_le_mul (by omega) p1 (by decide) (by omega)
            omega
          · have : (qm - pm) * pk ≤ 10000 * 1000000 := Int.mul_le_mul (by omega) p2 (by omega) (by omega)
            omega
        have z3 : 0 ≤ (pt - qt) * (100 * cur - pm * pk) ∧ (pt - qt) * (100 * cur - pm * pk) ≤ 360000000000000 := by
          constructor
          · exact Int.mul_nonneg (by omega) (by omega)
          · have : (pt - qt) * (100 * cur - pm * pk) ≤ 3600000 * 100000000 := Int.mul_le_mul (by omega) (by omega) (by omega) (by omega)
            omega
        have z4 : 0 ≤ (pt - qt) * (100 * cur - pm * pk) / ((qm - pm) * pk) ∧ (pt - qt) * (100 * cur - pm * pk) / ((qm - pm) * pk) ≤ 360000000000000 := by
          constructor
          · exact Int.ediv_nonneg z3.1 (by omega)
          · exact Int.le_trans (Int.ediv_le_self _ z3.1) z3.2
        clear HMul hlast
        go_wp2
        refine wp_region_quiet_lit (by kernel_rfl) (by kernel_rfl) ?_
        repeat (first | go_big_quiet_step (fail) | (go_big_quiet_want; go_simp; go_big_quiet_on))
        refine wpQuiet_nil ?_
        intro _ hw'
        obtain ⟨nq, hw''⟩ := hw'
        subst hw''
        go_wp2
        go_ret2
        rw [HR.out]
        exact ⟨rfl, below_drewN (belowA (belowA HB1.out.2.2.2 _) _) _⟩
end Go.Proofs.Ytjkgkoedkphnjaa
