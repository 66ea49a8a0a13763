/- cmp.Compare; slices.SortStableFunc at []int, for at most 19 numbers: what is sorted, and how. -/
import Derived.Test.YtplebibabcdipaaZon9
namespace Go.Proofs.Ytplebibabcdipaa
open Go.RowKit

/-- A block whose first cells are the numbers r. -/
def IB (w : World) (g : Nat) (r : List Int) : Prop := ∃ cur : Array Value, Blk w g cur 3 ∧ ∀ (j : Nat) x, r[j]? = some x → cur[j]? = some (.int .i64 x)
theorem IB.cell {w : World} {g : Nat} {r : List Int} (h : IB w g r) {j : Nat} (hj : j < r.length) : w.cell? ⟨g, j, none⟩ = some (.int .i64 (r.getD j 0)) := by
  obtain ⟨cur, hb, hc⟩ := h
  exact hb.cell j (hc j _ (by rw [List.getD_eq_getElem?_getD, List.getElem?_eq_getElem hj]; rfl))
theorem IB.free {w : World} {g : Nat} {r : List Int} (h : IB w g r) (j : Nat) : w.frozen? ⟨g, j, none⟩ = false := by
  obtain ⟨cur, hb, _⟩ := h
  exact hb.free j
theorem IB.lt {w : World} {g : Nat} {r : List Int} (h : IB w g r) : g < w.heap.size := by
  obtain ⟨cur, hb, _⟩ := h
  exact hb.lt
theorem IB.set {w : World} {g : Nat} {r : List Int} (h : IB w g r) (i : Nat) (y : Int) : IB (w.setCell ⟨g, i, none⟩ (.int .i64 y)) g (r.set i y) := by
  obtain ⟨cur, hb, hc⟩ := h
  refine ⟨_, hb.set i _, fun j x hj => ?_⟩
  rw [List.getElem?_set] at hj
  rw [Array.getElem?_setIfInBounds]
  split at hj
  · rename_i hij
    subst hij
    split at hj
    · rename_i hl
      obtain rfl := Option.some.inj hj
      have := hc i (r.getD i 0) (by rw [List.getD_eq_getElem?_getD, List.getElem?_eq_getElem hl]; rfl)
      have hs := (Array.getElem?_eq_some_iff.1 this).1
      rw [if_pos rfl, if_pos hs]
    · cases hj
  · rename_i hij
    rw [if_neg hij]
    exact hc j x hj
theorem IB.drewN {w : World} {g : Nat} {r : List Int} (h : IB w g r) (n : Nat) : IB (w.drewN n) g r := h
theorem IB.drew {w : World} {g : Nat} {r : List Int} (h : IB w g r) : IB w.drew g r := h
theorem IB.below {w w' : World} {g : Nat} {r : List Int} (h : IB w g r) (k : Below w.heap.size w w') : IB w' g r := by
  obtain ⟨cur, hb, hc⟩ := h
  exact ⟨cur, below_blk k hb hb.lt, hc⟩
theorem IB.of_row {w : World} {base n : Nat} {g cap : Nat} {r : List Int} (h : w.ownsRow base 3 1 (.slice (some ⟨g, 0, none⟩) n cap) n (ints r)) : IB w g r := by
  rcases h.2 with ⟨e, _⟩ | ⟨g', cap', cur, e, hg, hh, hn, hcap, hsz, htake⟩
  · cases e
  · cases e
    refine ⟨cur, hh, fun j x hj => ?_⟩
    have hi : (ints r)[j]? = some (.int .i64 x) := by unfold ints; simp [hj]
    rw [← htake, List.getElem?_take] at hi
    split at hi
    · simpa using hi
    · cases hi

def cmpI (a b : Int) : Int := if a < b then -1 else if b < a then 1 else 0
set_option maxHeartbeats 400000 in
theorem nan_c (a : Int) (w : World) : Calls Try.prog 88 #[.int .i64 a] w fun e w' => e = .returned (.bool false) ∧ w = w' := by
  go_enter Try.func88, Try.ntmps88
  go_wp2
  go_ret
  exact ⟨rfl, rfl⟩
set_option maxHeartbeats 1000000 in
theorem compare_c (a b : Int) (w : World) : Calls Try.prog 44 #[.int .i64 a, .int .i64 b] w fun e w' => e = .returned (.int .i64 (cmpI a b)) ∧ w = w' := by
  have H1 := Lib.hid (nan_c a)
  have H2 := Lib.hid (nan_c b)
  have HE : Hid (cmpI a b = if a < b then -1 else if b < a then 1 else 0) := rfl
  generalize cmpI a b = E at *
  by_cases h1 : a < b
  · have g1 : decide (a < b) = true := decide_eq_true h1
    have HR : Hid (E = -1) := HE.out.trans (if_pos h1)
    clear h1 HE
    go_enter Try.func44, Try.ntmps44
    go_wp2_with fail
    refine (H1.out w).mono ?_; rintro e w' ⟨rfl, rfl⟩
    go_wp2_with fail
    refine (H2.out w).mono ?_; rintro e w' ⟨rfl, rfl⟩
    go_wp2_with fail
    go_ret
    exact ⟨by rw [HR.out]; rfl, rfl⟩
  · have g1 : decide (a < b) = false := decide_eq_false h1
    by_cases h2 : b < a
    · have g2 : decide (b < a) = true := decide_eq_true h2
      have HR : Hid (E = 1) := HE.out.trans ((if_neg h1).trans (if_pos h2))
      clear h1 h2 HE
      go_enter Try.func44, Try.ntmps44
      go_wp2_with fail
      refine (H1.out w).mono ?_; rintro e w' ⟨rfl, rfl⟩
      go_wp2_with fail
      refine (H2.out w).mono ?_; rintro e w' ⟨rfl, rfl⟩
      go_wp2_with fail
      go_ret
      exact ⟨by rw [HR.out]; rfl, rfl⟩
    · have g2 : decide (b < a) = false := decide_eq_false h2
      have HR : Hid (E = 0) := HE.out.trans ((if_neg h1).trans (if_neg h2))
      clear h1 h2 HE
      go_enter Try.func44, Try.ntmps44
      go_wp2_with fail
      refine (H1.out w).mono ?_; rintro e w' ⟨rfl, rfl⟩
      go_wp2_with fail
      refine (H2.out w).mono ?_; rintro e w' ⟨rfl, rfl⟩
      go_wp2_with fail
      go_ret
      exact ⟨by rw [HR.out]; rfl, rfl⟩

set_option maxHeartbeats 1000000 in
theorem cov1_c (x y : Nat) (ts : List Int) (tb tg toff tn tc : Nat) (w : World) (hx : x < tn) (hy : y < tn) (c0 : w.cell? ⟨tb, 0, none⟩ = some (.slice (some ⟨tg, toff, none⟩) tn tc))
    (ht : ∀ i, i < tn → w.cell? ⟨tg, toff + i, none⟩ = some (.int .i64 (ts.getD i 0))) :
    Calls Try.prog 43 #[.int .i64 x, .int .i64 y, .pointer (some ⟨tb, 0, none⟩)] w fun e w' => e = .returned (.int .i64 (cmpI (ts.getD x 0) (ts.getD y 0))) ∧ ∃ md, w' = w.drewN md := by
  have h0 := ht x hx
  have h1 := ht y hy
  have HI : Hid (∀ nd, Calls Try.prog 44 #[.int .i64 (ts.getD x 0), .int .i64 (ts.getD y 0)] (w.drewN nd) fun e w' => e = .returned (.int .i64 (cmpI (ts.getD x 0) (ts.getD y 0))) ∧ ∃ md, w' = w.drewN md) := fun nd =>
    Calls.quiet_of_same ((compare_c (ts.getD x 0) (ts.getD y 0) (w.drewN nd)).mono fun e w' h => ⟨h.1, h.2.symm⟩)
  generalize cmpI (ts.getD x 0) (ts.getD y 0) = E at *
  generalize ts.getD x 0 = a at *
  generalize ts.getD y 0 = b at *
  clear ht
  go_enter Try.func43, Try.ntmps43
  go_wp2_with fail
  refine wp_region_quiet_lit (by kernel_rfl) (by kernel_rfl) ?_
  repeat (first | go_big_quiet_step ((exact HI.out _)) | (go_big_quiet_want; go_simp; go_big_quiet_on))
  refine wpQuiet_nil ?_
  intro _ hw'
  obtain ⟨nq, hw''⟩ := hw'
  subst hw''
  go_wp2_with fail
  go_ret
  exact ⟨rfl, _, rfl⟩
end Go.Proofs.Ytplebibabcdipaa
