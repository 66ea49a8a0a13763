/- Over-current characteristics: the contract of Conflict. -/
import Derived.Test.YtjkgkoedkphnjaaCrv3
namespace Go.Proofs.Ytjkgkoedkphnjaa
open Go.RowKit

theorem frac_le {a x d : Int} (ha : 0 ≤ a) (hx : 0 ≤ x) (hxd : x ≤ d) (hd : 0 < d) : 0 ≤ a * x / d ∧ a * x / d ≤ a := by
  constructor
  · exact Int.ediv_nonneg (Int.mul_nonneg ha hx) (by omega)
  · have h1 : a * x ≤ a * d := Int.mul_le_mul_of_nonneg_left hxd ha
    have h2 := Int.ediv_le_ediv hd h1
    rw [Int.mul_ediv_cancel _ (by omega)] at h2
    exact h2

/-- The times of a permitted characteristic are in range. -/
theorem Pts.time_range {l : Pts} (h : l.Ok) {pk cur t : Int} (p1 : 1 ≤ pk) (ht : l.time pk cur = some t) : 0 ≤ t ∧ t ≤ 3600000 := by
  unfold Pts.time at ht
  split at ht
  · cases ht
  · rename_i h0
    obtain ⟨k0, k1, k2, k3⟩ := Pts.seg_spec h p1 h0
    simp only at ht
    generalize l.seg pk (100 * cur) = K at *
    have a1 := h.t1 K.toNat (by omega)
    have a2 := h.t2 K.toNat (by omega)
    split at ht
    · simp only [Option.some.injEq] at ht; omega
    · rename_i h4
      simp only [Option.some.injEq] at ht
      have k5 := k3 (by omega)
      have b1 := h.t1 (K + 1).toNat (by omega)
      have d1 := h.dn K.toNat (by omega)
      have u1 := h.up K.toNat (by omega)
      rw [show K.toNat + 1 = (K + 1).toNat from by omega] at d1 u1
      have e : ((l.pt (K + 1).toNat).1 - (l.pt K.toNat).1) * pk = (l.pt (K + 1).toNat).1 * pk - (l.pt K.toNat).1 * pk := Int.sub_mul _ _ _
      have := frac_le (a := (l.pt K.toNat).2 - (l.pt (K + 1).toNat).2) (x := 100 * cur - (l.pt K.toNat).1 * pk) (d := ((l.pt (K + 1).toNat).1 - (l.pt K.toNat).1) * pk) (by omega) (by omega) (by omega) (by omega)
      omega

/-- Whether the backup is not selective at a current. -/
def badAt (a : Pts) (pa : Int) (b : Pts) (pb margin k : Int) : Bool :=
  match b.time pb k with
  | none => false
  | some u => match a.time pa k with
    | none => true
    | some t => decide (u < t + margin)
/-- The first number from k on, of d ones, of which P holds. -/
def scan (P : Int → Bool) : Nat → Int → Option Int
  | 0, _ => none
  | d + 1, k => if P k then some k else scan P d (k + 1)
theorem scan_some {P : Int → Bool} : ∀ {d : Nat} {k r : Int}, scan P d k = some r → k ≤ r ∧ r < k + d ∧ P r = true ∧ ∀ x, k ≤ x → x < r → P x = false := by
  intro d
  induction d with
  | zero => intro k r h; simp [scan] at h
  | succ d ih =>
    intro k r h
    unfold scan at h
    split at h
    · simp only [Option.some.injEq] at h; subst h
      exact ⟨by omega, by omega, by assumption, fun x h1 h2 => by omega⟩
    · rename_i hp
      obtain ⟨a, b, c, e⟩ := ih h
      refine ⟨by omega, by omega, c, fun x h1 h2 => ?_⟩
      by_cases hx : x = k
      · subst hx; simpa using hp
      · exact e x (by omega) h2
theorem scan_none {P : Int → Bool} : ∀ {d : Nat} {k : Int}, scan P d k = none → ∀ x, k ≤ x → x < k + d → P x = false := by
  intro d
  induction d with
  | zero => intro k _ x h1 h2; omega
  | succ d ih =>
    intro k h x h1 h2
    unfold scan at h
    split at h
    · cases h
    · rename_i hp
      by_cases hx : x = k
      · subst hx; simpa using hp
      · exact ih h x (by omega) (by omega)

/-- What Conflict returns. -/
def conflictR (a : Pts) (pa : Int) (b : Pts) (pb margin low high : Int) : Int × Int :=
  if a.err ≠ 0 then (0, a.err)
  else if b.err ≠ 0 then (0, b.err)
  else if pa < 1 ∨ 1000000 < pa ∨ pb < 1 ∨ 1000000 < pb ∨ margin < 0 ∨ 3600000 < margin ∨ low < 0 ∨ 1000000 < high ∨ high < low then (0, 4)
  else if 20000 < high - low then (0, 2)
  else match scan (badAt a pa b pb margin) (high + 1 - low).toNat low with
    | none => (0, 8)
    | some k => (k, 0)

/-- What the two rounds of the check carry. -/
def CkRel (a b : Pts) (w : World) (k : Nat) (v : Value) (wr : World) : Prop :=
  Below w.heap.size w wr ∧ ((k = 2 ∧ v = .int .i64 0) ∨ (k = 1 ∧ v = .int .i64 1 ∧ a.err = 0) ∨ (k = 0 ∧ v = .int .i64 2 ∧ a.err = 0 ∧ b.err = 0))

set_option maxHeartbeats 4000000 in
theorem conflict_c (va vb : Value) (a b : Pts) (pa pb margin low high : Int) (w : World) (hva : PVal w va a) (hvb : PVal w vb b) :
    Calls Try.prog 37 #[va, .int .i64 pa, vb, .int .i64 pb, .int .i64 margin, .int .i64 low, .int .i64 high] w fun e w' => e = .returned (two (conflictR a pa b pb margin low high)) ∧ Below w.heap.size w w' := by
  have HT : Hid (conflictR a pa b pb margin low high =
    (if a.err ≠ 0 then (0, a.err)
      else if b.err ≠ 0 then (0, b.err)
      else if pa < 1 ∨ 1000000 < pa ∨ pb < 1 ∨ 1000000 < pb ∨ margin < 0 ∨ 3600000 < margin ∨ low < 0 ∨ 1000000 < high ∨ high < low then (0, 4)
      else if 20000 < high - low then (0, 2)
      else match scan (badAt a pa b pb margin) (high + 1 - low).toNat low with
        | none => (0, 8)
        | some k => (k, 0))) := rfl
  have HC : Hid (∀ w1, Below w.heap.size w w1 → (PVal w1 va a ∧ PVal w1 vb b)) := fun w1 h => ⟨hva.below h, hvb.below h⟩
  obtain ⟨sa, la, ca, rfl⟩ := hva.slice
  obtain ⟨sb, lb, cb, rfl⟩ := hvb.slice
  clear hva hvb
  have i0 : ∀ w, (Instr.index 80 (.agg #[.slice sa la ca, .slice sb lb cb]) (.int .i64 0)).run Try.prog w = .ok (.slice sa la ca) w := fun _ => by kernel_rfl
  have i1 : ∀ w, (Instr.index 80 (.agg #[.slice sa la ca, .slice sb lb cb]) (.int .i64 1)).run Try.prog w = .ok (.slice sb lb cb) w := fun _ => by kernel_rfl
  generalize conflictR a pa b pb margin low high = R at *
  go_enter Try.func37, Try.ntmps37
  go_wp2
  go_loopg [27] 2 (fun k v wr => CkRel a b w k v wr)
  case atStart => exact ⟨Below.refl _ _, Or.inl ⟨rfl, rfl⟩⟩
  case round =>
    obtain ⟨hb, hv⟩ := hrel
    rcases hv with ⟨rfl, rfl⟩ | ⟨rfl, rfl, h1⟩ | ⟨rfl, rfl, h1, h2⟩
    · have HB := Lib.hid hb
      clear hb
      go_wp2_with fail
      refine (curveCheck_c _ a wr (HC.out wr HB.out).1).mono ?_; rintro e w1 ⟨rfl, hb1⟩
      have HB1 := Lib.hid (belowT HB.out hb1)
      clear hb1
      by_cases he : a.err = 0
      · have HE := Lib.hid he
        rw [he]
        clear he
        go_wp2_with fail
        go_roundg 1
        case measure => omega
        case rel => exact ⟨HB1.out, Or.inr (Or.inl ⟨rfl, rfl, HE.out⟩)⟩
      · have HT1 := Lib.hid (HT.out.trans (if_pos he))
        have g0 : (a.err != 0) = true := by simpa using he
        generalize a.err = E at *
        clear he HT
        go_wp2_with fail
        go_ret2
        rw [HT1.out]
        exact ⟨rfl, HB1.out⟩
    · have HB := Lib.hid hb
      have HE1 := Lib.hid h1
      clear hb h1
      go_wp2_with fail
      refine (curveCheck_c _ b wr (HC.out wr HB.out).2).mono ?_; rintro e w1 ⟨rfl, hb1⟩
      have HB1 := Lib.hid (belowT HB.out hb1)
      clear hb1
      by_cases he : b.err = 0
      · have HE := Lib.hid he
        rw [he]
        clear he
        go_wp2_with fail
        go_roundg 0
        case measure => omega
        case rel => exact ⟨HB1.out, Or.inr (Or.inr ⟨rfl, rfl, HE1.out, HE.out⟩)⟩
      · have HT1 := Lib.hid (HT.out.trans ((if_neg (fun h => h HE1.out)).trans (if_pos he)))
        have g0 : (b.err != 0) = true := by simpa using he
        generalize b.err = E at *
        clear he HT
        go_wp2_with fail
        go_ret2
        rw [HT1.out]
        exact ⟨rfl, HB1.out⟩
    · have HB := Lib.hid hb
      have hla := (Pts.err_zero a).1 h1
      have hlb := (Pts.err_zero b).1 h2
      have HT1 := Lib.hid (HT.out.trans ((if_neg (fun h => h h1)).trans (if_neg (fun h => h h2))))
      clear hb h1 h2 HT i0 i1
      by_cases hr : pa < 1 ∨ 1000000 < pa ∨ pb < 1 ∨ 1000000 < pb ∨ margin < 0 ∨ 3600000 < margin ∨ low < 0 ∨ 1000000 < high ∨ high < low
      · have HT2 := Lib.hid (HT1.out.trans (if_pos hr))
        clear HT1 hla hlb
        go_wp2_with fail
        all_goals
          go_ret2
          rw [HT2.out]
          exact ⟨rfl, HB.out⟩
      · have HT2 := Lib.hid (HT1.out.trans (if_neg hr))
        have r1 : 1 ≤ pa := by omega
        have r2 : pa ≤ 1000000 := by omega
        have r3 : 1 ≤ pb := by omega
        have r4 : pb ≤ 1000000 := by omega
        have r5 : 0 ≤ margin := by omega
        have r6 : margin ≤ 3600000 := by omega
        have r7 : 0 ≤ low := by omega
        have r8 : high ≤ 1000000 := by omega
        have r9 : low ≤ high := by omega
        clear HT1 hr
        by_cases hd : 20000 < high - low
        · have HT3 := Lib.hid (HT2.out.trans (if_pos hd))
          clear HT2 hla hlb
          go_wp2_with fail
          go_ret2
          rw [HT3.out]
          exact ⟨rfl, HB.out⟩
        · have HT3 := Lib.hid (HT2.out.trans (if_neg hd))
          clear HT2
          obtain ⟨ba, oa, ca', hva, hpa⟩ := (HC.out w (Below.refl _ _)).1.addr hla
          obtain ⟨bb, ob, cb', hvb, hpb⟩ := (HC.out w (Below.refl _ _)).2.addr hlb
          simp only [Value.slice.injEq] at hva hvb
          obtain ⟨rfl, rfl, rfl⟩ := hva
          obtain ⟨rfl, rfl, rfl⟩ := hvb
          have HA : Hid (∀ k : Int, 0 ≤ k → k ≤ 1000000 → ∀ w1, Below w.heap.size w w1 → _) := fun k q1 q2 w1 hb => at_c a hla pa k r1 r2 q1 q2 ba oa ca w1 (hpa.below hb)
          have HAB : Hid (∀ k : Int, 0 ≤ k → k ≤ 1000000 → ∀ w1, Below w.heap.size w w1 → _) := fun k q1 q2 w1 hb => at_c b hlb pb k r3 r4 q1 q2 bb ob cb w1 (hpb.below hb)
          have HRa : Hid (∀ (k t : Int), a.time pa k = some t → 0 ≤ t ∧ t ≤ 3600000) := fun k t => Pts.time_range hla r1
          clear hpa hpb hla hlb HC
          go_wp2_with fail
          go_loopg [19] (high + 1 - low).toNat (fun d v wr => ∃ k : Int, v = .int .i64 k ∧ low ≤ k ∧ Hid (d = (high + 1 - k).toNat) ∧ k ≤ high + 1 ∧ Hid (scan (badAt a pa b pb margin) d k = scan (badAt a pa b pb margin) (high + 1 - low).toNat low) ∧ Hid (Below w.heap.size w wr))
          case atStart => exact ⟨low, rfl, by omega, rfl, by omega, rfl, HB.out⟩
          case round =>
            clear HB
            obtain ⟨k, rfl, k1, kd, k2, hs, HB⟩ := hrel
            by_cases hlt : k ≤ high
            · go_wp2_with fail
              refine (HA.out k (by omega) (by omega) _ HB.out).mono ?_; rintro e w1 ⟨rfl, hb1⟩
              have HB1 := Lib.hid (belowT HB.out hb1)
              clear hb1
              obtain ⟨d, hd'⟩ : ∃ d, gk = d + 1 := ⟨gk - 1, by have := kd.out; omega⟩
              have HD := Lib.hid hd'
              clear hd'
              have HS : Hid (scan (badAt a pa b pb margin) (high + 1 - low).toNat low = if badAt a pa b pb margin k then some k else scan (badAt a pa b pb margin) d (k + 1)) := by
                show _ = _; rw [← hs.out, HD.out]; rfl
              have HBd : Hid (badAt a pa b pb margin k = match b.time pb k with
                | none => false
                | some u => match a.time pa k with
                  | none => true
                  | some t => decide (u < t + margin)) := rfl
              clear hs
              have HRk := Lib.hid (HRa.out k)
              cases hta : a.time pa k with
              | none =>
                have HTA := Lib.hid hta
                clear hta
                unfold tval
                go_wp2_with fail
                refine (HAB.out k (by omega) (by omega) _ HB1.out).mono ?_; rintro e w2 ⟨rfl, hb2⟩
                have HB2 := Lib.hid (belowT HB1.out hb2)
                clear hb2
                cases htb : b.time pb k with
                | none =>
                  have HTB := Lib.hid htb
                  clear htb
                  unfold tval
                  go_wp2_with fail
                  go_roundg d
                  case measure => have := HD.out; omega
                  case rel =>
                    refine ⟨k + 1, rfl, by omega, by show _ = _; have := HD.out; have := kd.out; omega, by omega, ?_, HB2⟩
                    show _ = _
                    rw [HS.out, HBd.out, HTB.out]; rfl
                | some u =>
                  have HTB := Lib.hid htb
                  clear htb
                  unfold tval
                  go_wp2_with fail
                  go_ret2
                  rw [HT3.out, HS.out, HBd.out, HTB.out, HTA.out]
                  exact ⟨rfl, HB2.out⟩
              | some t =>
                have ht := HRk.out t hta
                have HTA := Lib.hid hta
                clear hta
                unfold tval
                go_wp2_with fail
                refine (HAB.out k (by omega) (by omega) _ HB1.out).mono ?_; rintro e w2 ⟨rfl, hb2⟩
                have HB2 := Lib.hid (belowT HB1.out hb2)
                clear hb2
                cases htb : b.time pb k with
                | none =>
                  have HTB := Lib.hid htb
                  clear htb
                  unfold tval
                  go_wp2_with fail
                  go_roundg d
                  case measure => have := HD.out; omega
                  case rel =>
                    refine ⟨k + 1, rfl, by omega, by show _ = _; have := HD.out; have := kd.out; omega, by omega, ?_, HB2⟩
                    show _ = _
                    rw [HS.out, HBd.out, HTB.out]; rfl
                | some u =>
                  have HTB := Lib.hid htb
                  clear htb
                  unfold tval
                  by_cases hu : u < t + margin
                  · have g1 : decide (u < t + margin) = true := decide_eq_true hu
                    have G1 := Lib.hid g1
                    clear hu
                    go_wp2_with fail
                    go_ret2
                    rw [HT3.out, HS.out, HBd.out, HTB.out, HTA.out]
                    simp only [G1.out, if_true]
                    exact ⟨rfl, HB2.out⟩
                  · have g1 : decide (u < t + margin) = false := decide_eq_false hu
                    have G1 := Lib.hid g1
                    clear hu
                    go_wp2_with fail
                    go_roundg d
                    case measure => have := HD.out; omega
                    case rel =>
                      refine ⟨k + 1, rfl, by omega, by show _ = _; have := HD.out; have := kd.out; omega, by omega, ?_, HB2⟩
                      show _ = _
                      rw [HS.out, HBd.out, HTB.out, HTA.out]
                      simp only [G1.out]; rfl
            · have HS : Hid (scan (badAt a pa b pb margin) (high + 1 - low).toNat low = none) := by
                show _ = _; rw [← hs.out, kd.out, show (high + 1 - k).toNat = 0 from by omega]; rfl
              go_wp2_with fail
              go_ret2
              rw [HT3.out, HS.out]
              exact ⟨rfl, HB.out⟩
end Go.Proofs.Ytjkgkoedkphnjaa
