/- Over-current characteristics: plain. Over-current characteristics: contracts of Check and at. sort.Search: a contract for whatever function value that answers by P and draws at most. Over-current characteristics: the contract of at. Over-current characteristics: the contracts of Time and Least. Over-current characteristics: the contract of Conflict. Over-current characteristics: the contract of Scale. -/
import Derived.Test.YtplebibabcdipaaWld
import Derived.Shelf.Abstract
namespace Go.Proofs.Ytplebibabcdipaa
open Go.RowKit

/-- A characteristic: its points (multiple, time). -/
abbrev Pts := List (Int × Int)
namespace Pts
def rng (x : Int × Int) : Bool := decide (x.1 < 100) || decide (10000 < x.1) || decide (x.2 < 0) || decide (3600000 < x.2)
def out (q x : Int × Int) : Bool := decide (x.1 ≤ q.1) || decide (q.2 < x.2)
/-- What Check finds from a point on; q is the point before. -/
def chk : Option (Int × Int) → Pts → Int
  | _, [] => 0
  | none, x :: xs => if rng x then 4 else chk (some x) xs
  | some q, x :: xs => if rng x then 4 else if out q x then 3 else chk (some x) xs
def err (l : Pts) : Int := if 32 < l.length then 2 else if l.length < 2 then 3 else chk none l
def pt (l : Pts) (i : Nat) : Int × Int := l.getD i (0, 0)
/-- A permitted characteristic. -/
structure Ok (l : Pts) : Prop where
  len1 : 2 ≤ l.length
  len2 : l.length ≤ 32
  m1 : ∀ i, i < l.length → 100 ≤ (l.pt i).1
  m2 : ∀ i, i < l.length → (l.pt i).1 ≤ 10000
  t1 : ∀ i, i < l.length → 0 ≤ (l.pt i).2
  t2 : ∀ i, i < l.length → (l.pt i).2 ≤ 3600000
  up : ∀ i, i + 1 < l.length → (l.pt i).1 < (l.pt (i + 1)).1
  dn : ∀ i, i + 1 < l.length → (l.pt (i + 1)).2 ≤ (l.pt i).2

theorem chk_some (q : Int × Int) (l : Pts) : chk (some q) l = 0 ↔ (∀ i, i < l.length → rng (l.pt i) = false) ∧ (∀ _h : 0 < l.length, out q (l.pt 0) = false) ∧ (∀ i, i + 1 < l.length → out (l.pt i) (l.pt (i + 1)) = false) := by
  induction l generalizing q with
  | nil => simp [chk]
  | cons x xs ih =>
    simp only [chk]
    by_cases h1 : rng x = true
    · rw [if_pos h1]
      constructor
      · intro h; omega
      · rintro ⟨h, _, _⟩
        have := h 0 (by simp)
        simp [pt, h1] at this
    · rw [if_neg h1]
      by_cases h2 : out q x = true
      · rw [if_pos h2]
        constructor
        · intro h; omega
        · rintro ⟨_, h, _⟩
          have := h (by simp)
          simp [pt, h2] at this
      · rw [if_neg h2, ih]
        simp only [Bool.not_eq_true] at h1 h2
        constructor
        · rintro ⟨a, b, c⟩
          refine ⟨?_, ?_, ?_⟩
          · intro i hi
            cases i with
            | zero => simpa [pt] using h1
            | succ i => have := a i (by simpa using hi); simpa [pt] using this
          · intro _; simpa [pt] using h2
          · intro i hi
            cases i with
            | zero => have := b (by simp at hi; omega); simpa [pt] using this
            | succ i => have := c i (by simpa using hi); simpa [pt] using this
        · rintro ⟨a, b, c⟩
          refine ⟨?_, ?_, ?_⟩
          · intro i hi; have := a (i + 1) (by simpa using hi); simpa [pt] using this
          · intro hi; have := c 0 (by simp; omega); simpa [pt] using this
          · intro i hi; have := c (i + 1) (by simpa using hi); simpa [pt] using this

theorem chk_none (l : Pts) : chk none l = 0 ↔ (∀ i, i < l.length → rng (l.pt i) = false) ∧ (∀ i, i + 1 < l.length → out (l.pt i) (l.pt (i + 1)) = false) := by
  cases l with
  | nil => simp [chk]
  | cons x xs =>
    simp only [chk]
    by_cases h1 : rng x = true
    · rw [if_pos h1]
      constructor
      · intro h; omega
      · rintro ⟨h, _⟩
        have := h 0 (by simp)
        simp [pt, h1] at this
    · rw [if_neg h1, chk_some]
      simp only [Bool.not_eq_true] at h1
      constructor
      · rintro ⟨a, b, c⟩
        refine ⟨?_, ?_⟩
        · intro i hi
          cases i with
          | zero => simpa [pt] using h1
          | succ i => have := a i (by simpa using hi); simpa [pt] using this
        · intro i hi
          cases i with
          | zero => have := b (by simp at hi; omega); simpa [pt] using this
          | succ i => have := c i (by simpa using hi); simpa [pt] using this
      · rintro ⟨a, c⟩
        refine ⟨?_, ?_, ?_⟩
        · intro i hi; have := a (i + 1) (by simpa using hi); simpa [pt] using this
        · intro hi; have := c 0 (by simp; omega); simpa [pt] using this
        · intro i hi; have := c (i + 1) (by simpa using hi); simpa [pt] using this

theorem rng_no {x : Int × Int} : rng x = false ↔ 100 ≤ x.1 ∧ x.1 ≤ 10000 ∧ 0 ≤ x.2 ∧ x.2 ≤ 3600000 := by
  unfold rng; simp; omega
theorem out_no {q x : Int × Int} : out q x = false ↔ q.1 < x.1 ∧ x.2 ≤ q.2 := by
  unfold out; simp

theorem err_zero (l : Pts) : l.err = 0 ↔ l.Ok := by
  unfold err
  constructor
  · intro h
    split at h
    · omega
    · split at h
      · omega
      · obtain ⟨a, c⟩ := (chk_none l).1 h
        exact ⟨by omega, by omega, fun i hi => (rng_no.1 (a i hi)).1, fun i hi => (rng_no.1 (a i hi)).2.1, fun i hi => (rng_no.1 (a i hi)).2.2.1, fun i hi => (rng_no.1 (a i hi)).2.2.2, fun i hi => (out_no.1 (c i hi)).1, fun i hi => (out_no.1 (c i hi)).2⟩
  · intro h
    rw [if_neg (by have := h.len2; omega), if_neg (by have := h.len1; omega)]
    exact (chk_none l).2 ⟨fun i hi => rng_no.2 ⟨h.m1 i hi, h.m2 i hi, h.t1 i hi, h.t2 i hi⟩, fun i hi => out_no.2 ⟨h.up i hi, h.dn i hi⟩⟩
theorem chk_codes (q : Option (Int × Int)) (l : Pts) : chk q l = 0 ∨ chk q l = 3 ∨ chk q l = 4 := by
  induction l generalizing q with
  | nil => cases q <;> exact Or.inl rfl
  | cons x xs ih =>
    cases q with
    | none => simp only [chk]; split; · exact Or.inr (Or.inr rfl)
              · exact ih _
    | some q =>
      simp only [chk]; split
      · exact Or.inr (Or.inr rfl)
      · split
        · exact Or.inr (Or.inl rfl)
        · exact ih _
theorem err_codes (l : Pts) : l.err = 0 ∨ l.err = 2 ∨ l.err = 3 ∨ l.err = 4 := by
  unfold err; split
  · exact Or.inr (Or.inl rfl)
  · split
    · exact Or.inr (Or.inr (Or.inl rfl))
    · rcases chk_codes none l with h | h | h
      · exact Or.inl h
      · exact Or.inr (Or.inr (Or.inl h))
      · exact Or.inr (Or.inr (Or.inr h))

/-- What is left to check from point k on. -/
def at_ (l : Pts) (k : Nat) : Int := chk (if k = 0 then none else some (l.pt (k - 1))) (l.drop k)
theorem at_zero (l : Pts) : l.at_ 0 = chk none l := by simp [at_]
theorem at_end (l : Pts) : l.at_ l.length = 0 := by
  unfold at_; rw [List.drop_length]; split <;> rfl
theorem drop_pt {l : Pts} {k : Nat} (h : k < l.length) : l.drop k = l.pt k :: l.drop (k + 1) := by
  rw [List.drop_eq_getElem_cons h]; simp [pt, h]
theorem at_rng {l : Pts} {k : Nat} (h : k < l.length) (hr : rng (l.pt k) = true) : l.at_ k = 4 := by
  unfold at_; rw [drop_pt h]; split <;> simp [chk, hr]
theorem at_out {l : Pts} {k : Nat} (h : k < l.length) (hr : rng (l.pt k) = false) (h0 : 0 < k) (ho : out (l.pt (k - 1)) (l.pt k) = true) : l.at_ k = 3 := by
  unfold at_; rw [drop_pt h, if_neg (by omega)]; simp [chk, hr, ho]
theorem at_go {l : Pts} {k : Nat} (h : k < l.length) (hr : rng (l.pt k) = false) (ho : k = 0 ∨ out (l.pt (k - 1)) (l.pt k) = false) : l.at_ k = l.at_ (k + 1) := by
  conv => lhs; unfold at_
  conv => rhs; unfold at_
  rw [drop_pt h, if_neg (show ¬ k + 1 = 0 by omega)]
  rcases ho with rfl | ho
  · simp [chk, hr]
  · split
    · rename_i h0; subst h0; simp [chk, hr]
    · simp [chk, hr, ho]
end Pts
end Go.Proofs.Ytplebibabcdipaa
namespace Go.Proofs.Ytplebibabcdipaa
open Go.RowKit

theorem ret_i {k : IntKind} {a b : Int} (h : a = b) : Ending.returned (.int k a) = .returned (.int k b) := by rw [h]

/-- The points l lie in w, from cell off of block b on. -/
def PAt (w : World) (b off : Nat) (l : Pts) : Prop :=
  b < w.heap.size ∧ ∀ i, i < l.length → w.cell? ⟨b, off + i * 2, none⟩ = some (.int .i64 (l.pt i).1) ∧ w.cell? ⟨b, off + i * 2 + 1, none⟩ = some (.int .i64 (l.pt i).2)
/-- The value v is a slice that reads as the points l. -/
def PVal (w : World) (v : Value) (l : Pts) : Prop :=
  (l = [] ∧ ∃ a cap, v = .slice a 0 cap) ∨ ∃ b off cap, v = .slice (some ⟨b, off, none⟩) l.length cap ∧ l.length ≤ cap ∧ l.length ≤ maxLen ∧ PAt w b off l
theorem PAt.below {w w' : World} {b off : Nat} {l : Pts} (h : PAt w b off l) (k : Below w.heap.size w w') : PAt w' b off l :=
  ⟨Nat.lt_of_lt_of_le h.1 k.size, fun i hi => ⟨by rw [k.cell (by exact h.1)]; exact (h.2 i hi).1, by rw [k.cell (by exact h.1)]; exact (h.2 i hi).2⟩⟩
theorem PVal.below {w w' : World} {v : Value} {l : Pts} (h : PVal w v l) (k : Below w.heap.size w w') : PVal w' v l := by
  rcases h with h | ⟨b, off, cap, h1, h2, h3, h4⟩
  · exact Or.inl h
  · exact Or.inr ⟨b, off, cap, h1, h2, h3, h4.below k⟩

set_option maxHeartbeats 1000000 in
theorem curveCheck_c (v : Value) (l : Pts) (w : World) (hv : PVal w v l) :
    Calls Try.prog 47 #[v] w fun e w' => e = .returned (.int .i64 l.err) ∧ Below w.heap.size w w' := by
  rcases hv with ⟨rfl, a, cap, rfl⟩ | ⟨b, off, cap, rfl, h2, h3, h4⟩
  · go_enter Try.func47, Try.ntmps47
    go_wp2
    go_ret
    exact ⟨rfl, Below.refl _ _⟩
  · have h5 : l.length ≤ 9223372036854775807 := h3
    clear h3
    obtain ⟨n, hn⟩ : ∃ n, l.length = n := ⟨_, rfl⟩
    rw [hn] at h2 h5 ⊢
    have HN := Lib.hid hn
    have H4 := Lib.hid h4
    clear h4
    by_cases c1 : 32 < n
    · have HE : Hid (l.err = 2) := by show _ = _; unfold Pts.err; rw [hn, if_pos c1]
      clear hn
      have c1' : (32 : Int) < n := by omega
      go_enter Try.func47, Try.ntmps47
      go_wp2
      go_ret
      exact ⟨ret_i HE.out.symm, Below.refl _ _⟩
    · by_cases c2 : n < 2
      · have HE : Hid (l.err = 3) := by show _ = _; unfold Pts.err; rw [hn, if_neg c1, if_pos c2]
        clear hn
        go_enter Try.func47, Try.ntmps47
        go_wp2
        go_ret
        exact ⟨ret_i HE.out.symm, Below.refl _ _⟩
      · have HE : Hid (l.err = l.at_ 0) := by show _ = _; rw [Pts.at_zero]; unfold Pts.err; rw [hn, if_neg c1, if_neg c2]
        clear hn
        generalize l.err = E at *
        go_enter Try.func47, Try.ntmps47
        go_wp2
        go_loopw [15] (fun i wr => ∃ k : Nat, k ≤ n ∧ i = .int .i64 k ∧ Hid (l.at_ k = E) ∧ Below w.heap.size w wr) (fun i _ => n - (intOf i).toNat)
        case atStart => exact ⟨0, Nat.zero_le _, rfl, HE.out.symm, Below.refl _ _⟩
        case round =>
          obtain ⟨k, hk, rfl, he, hb⟩ := hrel
          by_cases hlt : k < n
          · have x0 := (H4.out.2 k (by rw [HN.out]; exact hlt)).1
            have x1 := (H4.out.2 k (by rw [HN.out]; exact hlt)).2
            rw [← hb.cell (by exact H4.out.1)] at x0 x1
            generalize hx : l.pt k = x at *
            obtain ⟨xm, xt⟩ := x
            have HX := Lib.hid hx
            clear hx
            simp only at x0 x1
            by_cases hr : Pts.rng (xm, xt) = true
            · have HR : Hid (E = 4) := by show _ = _; rw [← he.out]; exact Pts.at_rng (by rw [HN.out]; exact hlt) (by rw [HX.out]; exact hr)
              have hr' : xm < 100 ∨ 10000 < xm ∨ xt < 0 ∨ 3600000 < xt := by
                rcases Decidable.em (xm < 100 ∨ 10000 < xm ∨ xt < 0 ∨ 3600000 < xt) with h | h
                · exact h
                · rw [Pts.rng_no.2 (by simp only; omega)] at hr; cases hr
              clear hr
              have HB := Lib.hid hb
              clear hb
              go_wp2
              all_goals
                go_ret
                exact ⟨ret_i HR.out.symm, HB.out.alloc HB.out.size _⟩
            · simp only [Bool.not_eq_true] at hr
              have HR := Lib.hid hr
              obtain ⟨y1, y2, y3, y4⟩ := Pts.rng_no.1 hr
              simp only at y1 y2 y3 y4
              clear hr
              have HB := Lib.hid hb
              rcases Nat.eq_zero_or_pos k with h0 | h0
              · have HG : Hid (l.at_ (k + 1) = E) := by show _ = _; rw [← he.out]; exact (Pts.at_go (by rw [HN.out]; exact hlt) (by rw [HX.out]; exact HR.out) (Or.inl h0)).symm
                have g0 : decide (0 < k) = false := by simp [h0]
                clear hb
                have H0 := Lib.hid h0
                clear h0
                go_wp2
                go_quiet (fail)
                go_wp2
                go_roundw
                case rel => exact ⟨k + 1, by omega, by go_num, HG, below_drewN (HB.out.alloc HB.out.size _) _⟩
                case measure => simp [intOf]; omega
              · have z0 := (H4.out.2 (k - 1) (by rw [HN.out]; omega)).1
                have z1 := (H4.out.2 (k - 1) (by rw [HN.out]; omega)).2
                rw [← hb.cell (by exact H4.out.1)] at z0 z1
                generalize hz : l.pt (k - 1) = z at *
                obtain ⟨zm, zt⟩ := z
                have HZ := Lib.hid hz
                clear hz hb
                simp only at z0 z1
                have g0 : decide (0 < k) = true := by simp [h0]
                have hbl : b < wr.heap.size := Nat.lt_of_lt_of_le H4.out.1 HB.out.size
                have j0 : 0 ≤ (k : Int) - 1 := by omega
                have j3 : 1 ≤ (k : Int) := by omega
                have j1 : (k : Int) - 1 < n := by omega
                have j2 : ((k : Int) - 1).toNat = k - 1 := by omega
                have jw : IntKind.i64.wrap ((k : Int) - 1) = (k : Int) - 1 := IntWalk.i64_in _ (by omega)
                have JW := Lib.hid jw
                clear jw
                by_cases h7 : xm ≤ zm
                · have HG : Hid (E = 3) := by
                    show _ = _; rw [← he.out]
                    exact Pts.at_out (by rw [HN.out]; exact hlt) (by rw [HX.out]; exact HR.out) h0 (by rw [HX.out, HZ.out]; simp [Pts.out, h7])
                  have g1 : decide (xm ≤ zm) = true := decide_eq_true h7
                  clear h7
                  go_wp2
                  have jw := JW.out
                  refine wp_region_quiet_lit (by kernel_rfl) (by kernel_rfl) ?_
                  repeat (first | go_big_quiet_step (fail) | (go_big_quiet_want; go_simp; go_big_quiet_on))
                  refine wpQuiet_nil ?_
                  intro _ hw'
                  obtain ⟨nq, hw''⟩ := hw'
                  subst hw''
                  clear jw
                  go_wp2
                  go_ret
                  exact ⟨ret_i HG.out.symm, below_drewN (HB.out.alloc HB.out.size _) _⟩
                · have g1 : decide (xm ≤ zm) = false := decide_eq_false h7
                  by_cases h8 : zt < xt
                  · have HG : Hid (E = 3) := by
                      show _ = _; rw [← he.out]
                      exact Pts.at_out (by rw [HN.out]; exact hlt) (by rw [HX.out]; exact HR.out) h0 (by rw [HX.out, HZ.out]; simp [Pts.out, h8])
                    have g2 : decide (zt < xt) = true := decide_eq_true h8
                    clear h7 h8
                    go_wp2
                    have jw := JW.out
                    refine wp_region_quiet_lit (by kernel_rfl) (by kernel_rfl) ?_
                    repeat (first | go_big_quiet_step (fail) | (go_big_quiet_want; go_simp; go_big_quiet_on))
                    refine wpQuiet_nil ?_
                    intro _ hw'
                    obtain ⟨nq, hw''⟩ := hw'
                    subst hw''
                    clear jw
                    go_wp2
                    go_ret
                    exact ⟨ret_i HG.out.symm, below_drewN (HB.out.alloc HB.out.size _) _⟩
                  · have HG : Hid (l.at_ (k + 1) = E) := by
                      show _ = _; rw [← he.out]
                      exact (Pts.at_go (by rw [HN.out]; exact hlt) (by rw [HX.out]; exact HR.out) (Or.inr (by rw [HX.out, HZ.out]; simp [Pts.out]; omega))).symm
                    have g2 : decide (zt < xt) = false := decide_eq_false h8
                    clear h7 h8
                    go_wp2
                    have jw := JW.out
                    refine wp_region_quiet_lit (by kernel_rfl) (by kernel_rfl) ?_
                    repeat (first | go_big_quiet_step (fail) | (go_big_quiet_want; go_simp; go_big_quiet_on))
                    refine wpQuiet_nil ?_
                    intro _ hw'
                    obtain ⟨nq, hw''⟩ := hw'
                    subst hw''
                    clear jw
                    go_wp2
                    go_roundw
                    case rel => exact ⟨k + 1, by omega, by go_num, HG, below_drewN (HB.out.alloc HB.out.size _) _⟩
                    case measure => simp [intOf]; omega
          · have hk' : k = n := by omega
            have HR : Hid (E = 0) := by show _ = _; rw [← he.out, hk', ← HN.out]; exact Pts.at_end l
            have HB := Lib.hid hb
            clear hb
            go_wp2
            go_ret
            exact ⟨ret_i HR.out.symm, HB.out⟩
end Go.Proofs.Ytplebibabcdipaa
namespace Go.Proofs.Ytplebibabcdipaa
open Go.RowKit

/-- Where Search ends: the bisection itself. -/
def bis (P : Int → Bool) : Nat → Int → Int → Int
  | 0, i, _ => i
  | d + 1, i, j => if i < j then (if P ((i + j) / 2) then bis P d i ((i + j) / 2) else bis P d ((i + j) / 2 + 1) j) else i

set_option maxHeartbeats 400000 in
theorem search_c (n : Int) (n0 : 0 ≤ n) (n1 : n ≤ 4611686018427387904) (P : Int → Bool) (g : FuncId) (caps : Array Value) (w : World)
    (eg : ∀ (args : Array Value) (w : World), (callFunc g args).run Try.prog w = .ok (.enter g args) w)
    (hf : Hid (∀ (k : Int) (W : World), 0 ≤ k → k < n → Below w.heap.size w W → Calls Try.prog g (#[.int .i64 k] ++ caps) W fun e w' => e = .returned (.bool (P k)) ∧ Below w.heap.size w w')) :
    Calls Try.prog 90 #[.int .i64 n, .func (.func g) #[] caps] w fun e w' => e = .returned (.int .i64 (bis P n.toNat 0 n)) ∧ Below w.heap.size w w' := by
  go_enter Try.func90, Try.ntmps90
  go_wp2
  go_loopg [5, 6] n.toNat (fun d i j wr => ∃ a b : Int, i = .int .i64 a ∧ j = .int .i64 b ∧ 0 ≤ a ∧ a ≤ b ∧ b ≤ n ∧ (b - a).toNat ≤ d ∧ Hid (bis P d a b = bis P n.toNat 0 n) ∧ Hid (Below w.heap.size w wr))
  case atStart => exact ⟨0, n, rfl, rfl, by omega, n0, by omega, by omega, rfl, Below.refl _ _⟩
  case round =>
    obtain ⟨a, b, rfl, rfl, a0, ab, bn, hd, hr, hB⟩ := hrel
    by_cases hlt : a < b
    · have h1 : a ≤ (a + b) / 2 := by omega
      have h2 : (a + b) / 2 < b := by omega
      go_wp2_with fail
      refine (hf.out ((a + b) / 2) _ (by omega) (by omega) hB.out).mono ?_; rintro e w' ⟨rfl, hb'⟩
      have HB' := Lib.hid hb'
      clear hb' hB
      cases hp : P ((a + b) / 2)
      · obtain ⟨d, hd'⟩ : ∃ d, gk = d + 1 := ⟨gk - 1, by omega⟩
        have HD := Lib.hid hd'
        have HP := Lib.hid hp
        clear hd' hp
        go_wp2_with fail
        go_roundg d
        case measure => have := HD.out; omega
        case rel =>
          refine ⟨_, _, rfl, rfl, by omega, by omega, by omega, by have := HD.out; omega, ?_, HB'⟩
          show _ = _
          rw [← hr.out, HD.out]
          conv => rhs; unfold bis
          rw [if_pos hlt, HP.out]; rfl
      · obtain ⟨d, hd'⟩ : ∃ d, gk = d + 1 := ⟨gk - 1, by omega⟩
        have HD := Lib.hid hd'
        have HP := Lib.hid hp
        clear hd' hp
        go_wp2_with fail
        go_roundg d
        case measure => have := HD.out; omega
        case rel =>
          refine ⟨_, _, rfl, rfl, by omega, by omega, by omega, by have := HD.out; omega, ?_, HB'⟩
          show _ = _
          rw [← hr.out, HD.out]
          conv => rhs; unfold bis
          rw [if_pos hlt, HP.out]; rfl
    · have HR : Hid (a = bis P n.toNat 0 n) := by
        show _ = _; rw [← hr.out]; cases gk <;> unfold bis
        · rfl
        · rw [if_neg hlt]
      clear hr
      go_wp2_with fail
      go_ret
      exact ⟨by rw [← HR.out]; rfl, hB.out⟩

/-- What the bisection finds for a predicate that once true stays true. -/
theorem bis_spec (P : Int → Bool) : ∀ (d : Nat) (i j : Int), i ≤ j → (j - i).toNat ≤ d → (∀ x y, i ≤ x → x ≤ y → y < j → P x = true → P y = true) →
    i ≤ bis P d i j ∧ bis P d i j ≤ j ∧ (∀ x, i ≤ x → x < bis P d i j → P x = false) ∧ (bis P d i j < j → P (bis P d i j) = true) := by
  intro d
  induction d with
  | zero => intro i j h1 h2 _; unfold bis; exact ⟨Int.le_refl _, h1, fun x h3 h4 => by omega, fun h => by omega⟩
  | succ d ih =>
    intro i j h1 h2 mono
    unfold bis
    by_cases hlt : i < j
    · rw [if_pos hlt]
      cases hp : P ((i + j) / 2)
      · obtain ⟨a, b, c, e⟩ := ih ((i + j) / 2 + 1) j (by omega) (by omega) (fun x y k1 k2 k3 k4 => mono x y (by omega) k2 k3 k4)
        simp only [Bool.false_eq_true, if_false]
        refine ⟨by omega, b, fun x k1 k2 => ?_, e⟩
        by_cases k3 : x ≤ (i + j) / 2
        · cases hx : P x
          · rfl
          · have := mono x _ k1 k3 (by omega) hx; rw [hp] at this; cases this
        · exact c x (by omega) k2
      · obtain ⟨a, b, c, e⟩ := ih i ((i + j) / 2) (by omega) (by omega) (fun x y k1 k2 k3 k4 => mono x y k1 k2 (by omega) k4)
        simp only [if_true]
        refine ⟨a, by omega, c, fun k => ?_⟩
        by_cases k3 : bis P d i ((i + j) / 2) < (i + j) / 2
        · exact e k3
        · rw [show bis P d i ((i + j) / 2) = (i + j) / 2 from by omega]; exact hp
    · rw [if_neg hlt]
      exact ⟨Int.le_refl _, h1, fun x h3 h4 => by omega, fun h => by omega⟩
end Go.Proofs.Ytplebibabcdipaa
namespace Go.Proofs.Ytplebibabcdipaa
open Go.RowKit

/-- Whether the multiple of a point is too great for a current (both multiplied). -/
def ovr (pk m : Int) (x : Int × Int) : Bool := decide (m < x.1 * pk)

set_option maxHeartbeats 400000 in
/-- The closure of at: whether the multiple of point k is too great for the current. -/
theorem at1_c (l : Pts) (pk m : Int) (b off cap b3 b4 b8 : Nat) (k : Int) (w : World) (hp : PAt w b off l) (hk0 : 0 ≤ k) (hk1 : k < l.length)
    (c3 : w.cell? ⟨b3, 0, none⟩ = some (.slice (some ⟨b, off, none⟩) l.length cap)) (c4 : w.cell? ⟨b4, 0, none⟩ = some (.int .i64 pk)) (c8 : w.cell? ⟨b8, 0, none⟩ = some (.int .i64 m))
    (m1 : 100 ≤ (l.pt k.toNat).1) (m2 : (l.pt k.toNat).1 ≤ 10000) (p1 : 1 ≤ pk) (p2 : pk ≤ 1000000) :
    Calls Try.prog 91 #[.int .i64 k, .pointer (some ⟨b3, 0, none⟩), .pointer (some ⟨b4, 0, none⟩), .pointer (some ⟨b8, 0, none⟩)] w fun e w' =>
      e = .returned (.bool (ovr pk m (l.pt k.toNat))) ∧ Below w.heap.size w w' := by
  obtain ⟨n, rfl⟩ := Int.eq_ofNat_of_zero_le hk0
  have hn : n < l.length := by omega
  have x0 := (hp.2 n hn).1
  simp only [Int.toNat_natCast] at m1 m2 ⊢
  obtain ⟨xm, xt, hx⟩ : ∃ xm xt, l.pt n = (xm, xt) := ⟨_, _, rfl⟩
  rw [hx] at x0 m1 m2 ⊢
  clear hx
  obtain ⟨N, hN⟩ : ∃ N, l.length = N := ⟨_, rfl⟩
  rw [hN] at hn hk1 c3
  clear hN
  simp only at x0 m1 m2 ⊢
  have hm : 100 ≤ xm * pk ∧ xm * pk ≤ 10000000000 := by
    constructor
    · have : 100 * 1 ≤ xm * pk := Int.mul_le_mul m1 p1 (by decide) (by omega)
      omega
    · have : xm * pk ≤ 10000 * 1000000 := Int.mul_le_mul m2 p2 (by omega) (by omega)
      omega
  clear hp
  go_enter Try.func91, Try.ntmps91
  go_wp2
  refine wp_region_quiet_lit (by kernel_rfl) (by kernel_rfl) ?_
  repeat (first | go_big_quiet_step (fail) | (go_big_quiet_want; go_simp; go_big_quiet_on))
  refine wpQuiet_nil ?_
  intro _ hw'
  obtain ⟨nq, hw''⟩ := hw'
  subst hw''
  go_wp2
  go_ret
  exact ⟨rfl, below_drewN (Below.refl _ _) _⟩

/-- Which point is the last one at most m. -/
def Pts.seg (l : Pts) (pk m : Int) : Int := bis (fun k => ovr pk m (l.pt k.toNat)) l.length 0 l.length - 1
/-- The time at a current. -/
def Pts.time (l : Pts) (pk cur : Int) : Option Int :=
  if 100 * cur < (l.pt 0).1 * pk then none
  else
    let k := l.seg pk (100 * cur)
    let p := l.pt k.toNat
    if k = l.length - 1 then some p.2
    else
      let q := l.pt (k + 1).toNat
      some (p.2 - (p.2 - q.2) * (100 * cur - p.1 * pk) / ((q.1 - p.1) * pk))
def tval : Option Int → Value
  | none => .tuple #[.int .i64 0, .bool false]
  | some t => .tuple #[.int .i64 t, .bool true]

theorem Pts.Ok.inc {l : Pts} (h : l.Ok) : ∀ d i : Nat, i + d < l.length → (l.pt i).1 + d ≤ (l.pt (i + d)).1 := by
  intro d
  induction d with
  | zero => intro i _; simp
  | succ d ih =>
    intro i hi
    have h1 := ih i (by omega)
    have h2 := h.up (i + d) (by omega)
    rw [show i + (d + 1) = i + d + 1 from by omega]
    omega

theorem ovr_mono {l : Pts} (h : l.Ok) {pk m : Int} (p1 : 1 ≤ pk) {x y : Int} (x0 : 0 ≤ x) (xy : x ≤ y) (y1 : y < l.length) (hx : ovr pk m (l.pt x.toNat) = true) : ovr pk m (l.pt y.toNat) = true := by
  unfold ovr at hx ⊢
  have h1 := h.inc (y.toNat - x.toNat) x.toNat (by omega)
  rw [show x.toNat + (y.toNat - x.toNat) = y.toNat from by omega] at h1
  have h2 : (l.pt x.toNat).1 * pk ≤ (l.pt y.toNat).1 * pk := Int.mul_le_mul_of_nonneg_right (by omega) (by omega)
  have h3 := of_decide_eq_true hx
  exact decide_eq_true (by omega)

/-- Where the segment lies. -/
theorem Pts.seg_spec {l : Pts} (h : l.Ok) {pk m : Int} (p1 : 1 ≤ pk) (h0 : ¬ m < (l.pt 0).1 * pk) :
    0 ≤ l.seg pk m ∧ l.seg pk m < l.length ∧ (l.pt (l.seg pk m).toNat).1 * pk ≤ m ∧ (l.seg pk m + 1 < l.length → m < (l.pt (l.seg pk m + 1).toNat).1 * pk) := by
  have hl := h.len1
  obtain ⟨a, b, c, d⟩ := bis_spec (fun k => ovr pk m (l.pt k.toNat)) l.length 0 l.length (by omega) (by omega) (fun x y k1 k2 k3 k4 => ovr_mono h p1 k1 k2 k3 k4)
  unfold Pts.seg
  generalize bis (fun k => ovr pk m (l.pt k.toNat)) l.length 0 l.length = r at *
  have r0 : r ≠ 0 := by
    intro hr
    have := d (by omega)
    rw [hr] at this
    have := of_decide_eq_true this
    simp only [Int.toNat_zero] at this
    exact h0 this
  refine ⟨by omega, by omega, ?_, fun h' => ?_⟩
  · have := c (r - 1) (by omega) (by omega)
    have := of_decide_eq_false this
    omega
  · have := d (by omega)
    have := of_decide_eq_true this
    rw [show r - 1 + 1 = r from by omega]
    exact this

set_option maxHeartbeats 1000000 in
theorem at_c (l : Pts) (hl : l.Ok) (pk cur : Int) (p1 : 1 ≤ pk) (p2 : pk ≤ 1000000) (q1 : 0 ≤ cur) (q2 : cur ≤ 1000000) (b off cap : Nat) (w : World) (hp : PAt w b off l) :
    Calls Try.prog 48 #[.slice (some ⟨b, off, none⟩) l.length cap, .int .i64 pk, .int .i64 cur] w fun e w' => e = .returned (tval (l.time pk cur)) ∧ Below w.heap.size w w' := by
  have bl := hp.1
  have bl1 : b < w.heap.size + 1 := by omega
  have bl2 : b < w.heap.size + 1 + 1 := by omega
  have bl3 : b < w.heap.size + 2 := by omega
  have x0 := (hp.2 0 (by have := hl.len1; omega)).1
  have m1 := hl.m1 0 (by have := hl.len1; omega)
  have m2 := hl.m2 0 (by have := hl.len1; omega)
  have hm : 100 ≤ (l.pt 0).1 * pk ∧ (l.pt 0).1 * pk ≤ 10000000000 := by
    constructor
    · have : 100 * 1 ≤ (l.pt 0).1 * pk := Int.mul_le_mul m1 p1 (by decide) (by omega)
      omega
    · have : (l.pt 0).1 * pk ≤ 10000 * 1000000 := Int.mul_le_mul m2 p2 (by omega) (by omega)
      omega
  by_cases h0 : 100 * cur < (l.pt 0).1 * pk
  · have HT : Hid (l.time pk cur = none) := by show _ = _; unfold Pts.time; rw [if_pos h0]
    generalize l.time pk cur = R at *
    have n1 := hl.len1
    obtain ⟨N, hN⟩ : ∃ N, l.length = N := ⟨_, rfl⟩
    rw [hN] at n1 ⊢
    clear hN hp
    generalize (l.pt 0).1 = xm at *
    simp only [Nat.zero_mul, Nat.add_zero] at x0
    have g0 : decide (100 * cur < xm * pk) = true := decide_eq_true h0
    clear h0
    go_enter Try.func48, Try.ntmps48
    go_wp2
    refine wp_region_quiet_lit (by kernel_rfl) (by kernel_rfl) ?_
    repeat (first | go_big_quiet_step (fail) | (go_big_quiet_want; go_simp; go_big_quiet_on))
    refine wpQuiet_nil ?_
    intro _ hw'
    obtain ⟨nq, hw''⟩ := hw'
    subst hw''
    go_wp2
    go_ret2
    rw [HT.out]
    exact ⟨rfl, below_drewN (by repeat (first | exact Below.refl _ _ | refine belowA ?_ _)) _⟩
  · have g0 : decide (100 * cur < (l.pt 0).1 * pk) = false := decide_eq_false h0
    have hs := Pts.seg_spec hl p1 h0
    have HT : Hid (l.time pk cur = if l.seg pk (100 * cur) = l.length - 1 then some (l.pt (l.seg pk (100 * cur)).toNat).2
      else some ((l.pt (l.seg pk (100 * cur)).toNat).2 - ((l.pt (l.seg pk (100 * cur)).toNat).2 - (l.pt (l.seg pk (100 * cur) + 1).toNat).2) * (100 * cur - (l.pt (l.seg pk (100 * cur)).toNat).1 * pk) / (((l.pt (l.seg pk (100 * cur) + 1).toNat).1 - (l.pt (l.seg pk (100 * cur)).toNat).1) * pk))) := by
      show _ = _; unfold Pts.time; rw [if_neg h0]
    have HSeg : Hid (l.seg pk (100 * cur) = bis (fun k => ovr pk (100 * cur) (l.pt k.toNat)) l.length 0 l.length - 1) := rfl
    generalize l.seg pk (100 * cur) = K at *
    generalize l.time pk cur = R at *
    have HP := Lib.hid hp
    have HL := Lib.hid hl
    obtain ⟨k0, k1, k2, k3⟩ := hs
    have n1 := hl.len1
    have n2 := hl.len2
    obtain ⟨N, hN⟩ : ∃ N, l.length = N := ⟨_, rfl⟩
    have HN := Lib.hid hN
    rw [hN] at n1 n2 k1 k3 ⊢
    clear hN hp hl h0
    simp only [Nat.zero_mul, Nat.add_zero] at x0
    obtain ⟨xm, hx⟩ : ∃ xm, (l.pt 0).1 = xm := ⟨_, rfl⟩
    rw [hx] at x0 m1 m2 hm g0
    clear hx
    go_enter Try.func48, Try.ntmps48
    go_wp2
    refine wp_region_quiet_lit (by kernel_rfl) (by kernel_rfl) ?_
    repeat (first | go_big_quiet_step (fail) | (go_big_quiet_want; go_simp; go_big_quiet_on))
    refine wpQuiet_nil ?_
    intro _ hw'
    obtain ⟨nq, hw''⟩ := hw'
    subst hw''
    go_wp2_with fail
    have B3 := (((Blk.new w #[.slice (some ⟨b, off, none⟩) N cap] 54).alloc (.cells #[.int .i64 pk] 3)).alloc (.cells #[.int .i64 (100 * cur)] 3)).drewN nq
    have B4 := ((Blk.new (w.alloc (.cells #[.slice (some ⟨b, off, none⟩) N cap] 54)) #[.int .i64 pk] 3).alloc (.cells #[.int .i64 (100 * cur)] 3)).drewN nq
    have B8 := (Blk.new ((w.alloc (.cells #[.slice (some ⟨b, off, none⟩) N cap] 54)).alloc (.cells #[.int .i64 pk] 3)) #[.int .i64 (100 * cur)] 3).drewN nq
    have BW : Below w.heap.size w ((((w.alloc (.cells #[.slice (some ⟨b, off, none⟩) N cap] 54)).alloc (.cells #[.int .i64 pk] 3)).alloc (.cells #[.int .i64 (100 * cur)] 3)).drewN nq) :=
      below_drewN (belowA (belowA (belowA (Below.refl _ _) _) _) _) _
    simp only [World.size_alloc] at B4 B8
    generalize (((w.alloc (.cells #[.slice (some ⟨b, off, none⟩) N cap] 54)).alloc (.cells #[.int .i64 pk] 3)).alloc (.cells #[.int .i64 (100 * cur)] 3)).drewN nq = W0 at *
    have HB := Lib.hid (And.intro B3 (And.intro B4 (And.intro B8 BW)))
    clear B3 B4 B8 BW
    have hmul : ∀ x : Int, 100 ≤ x → x ≤ 10000 → 100 ≤ x * pk ∧ x * pk ≤ 10000000000 := by
      intro x h1 h2
      constructor
      · have : 100 * 1 ≤ x * pk := Int.mul_le_mul h1 p1 (by decide) (by omega)
        omega
      · have : x * pk ≤ 10000 * 1000000 := Int.mul_le_mul h2 p2 (by omega) (by omega)
        omega
    have HMul := Lib.hid hmul
    clear hmul
    refine (search_c (N : Int) (by omega) (by omega) (fun k => ovr pk (100 * cur) (l.pt k.toNat)) 91 _ W0 (fun a w' => enters_of Try.func91 (by kernel_rfl) rfl a w') ?_).mono ?_
    · show ∀ _, _
      intro k W k0 k1 hW
      have hlen : k < l.length := by rw [HN.out]; exact k1
      exact (at1_c l pk (100 * cur) b off cap w.heap.size (w.heap.size + 1) (w.heap.size + 1 + 1) k W ((HP.out.below HB.out.2.2.2).below hW) k0 hlen
        (by rw [HN.out]; exact (below_blk hW HB.out.1 HB.out.1.lt).cell 0 rfl) ((below_blk hW HB.out.2.1 HB.out.2.1.lt).cell 0 rfl) ((below_blk hW HB.out.2.2.1 HB.out.2.2.1.lt).cell 0 rfl)
        (HL.out.m1 _ (by omega)) (HL.out.m2 _ (by omega)) p1 p2).mono fun e w' ⟨he, hb⟩ => ⟨he, belowT hW hb⟩
    · rintro e W1 ⟨rfl, hb1⟩
      have hr : bis (fun k => ovr pk (100 * cur) (l.pt k.toNat)) (N : Int).toNat 0 N = K + 1 := by
        have := HSeg.out; rw [HN.out] at this; rw [Int.toNat_natCast]; omega
      rw [hr]
      clear hr HSeg x0 m1 m2 hm g0
      have HB1 := Lib.hid (And.intro (below_blk hb1 HB.out.1 HB.out.1.lt) (And.intro (below_blk hb1 HB.out.2.1 HB.out.2.1.lt) (And.intro (below_blk hb1 HB.out.2.2.1 HB.out.2.2.1.lt) (belowT HB.out.2.2.2 hb1))))
      have HP1 := Lib.hid ((HP.out.below HB.out.2.2.2).below hb1)
      clear hb1 HP HB
      have c3 := HB1.out.1.cell 0 rfl
      have c4 := HB1.out.2.1.cell 0 rfl
      have c8 := HB1.out.2.2.1.cell 0 rfl
      have l3 := HB1.out.1.lt
      have l4 := HB1.out.2.1.lt
      have l8 := HB1.out.2.2.1.lt
      have lb := HP1.out.1
      have l3' : w.heap.size < W1.heap.size + 1 := by omega
      have l4' : w.heap.size + 1 < W1.heap.size + 1 := by omega
      have l8' : w.heap.size + 1 + 1 < W1.heap.size + 1 := by omega
      have lb' : b < W1.heap.size + 1 := by omega
      have x0 := (HP1.out.2 K.toNat (by rw [HN.out]; omega)).1
      have x1 := (HP1.out.2 K.toNat (by rw [HN.out]; omega)).2
      have xm1 := HL.out.m1 K.toNat (by rw [HN.out]; omega)
      have xm2 := HL.out.m2 K.toNat (by rw [HN.out]; omega)
      have xt1 := HL.out.t1 K.toNat (by rw [HN.out]; omega)
      have xt2 := HL.out.t2 K.toNat (by rw [HN.out]; omega)
      have xp := HMul.out _ xm1 xm2
      by_cases hlast : K = N - 1
      · have HR : Hid (R = some (l.pt K.toNat).2) := HT.out.trans (if_pos (by rw [HN.out]; exact hlast))
        have g1 : (K == (N : Int) - 1) = true := by simpa using hlast
        clear HT HMul hlast k2 k3
        generalize (l.pt K.toNat).1 = pm at *
        generalize (l.pt K.toNat).2 = pt at *
        go_wp2
        go_ret2
        rw [HR.out]
        exact ⟨rfl, belowA HB1.out.2.2.2 _⟩
      · have HR : Hid (R = _) := HT.out.trans (if_neg (by rw [HN.out]; exact hlast))
        have g1 : (K == (N : Int) - 1) = false := by simpa using hlast
        have k4 : K + 1 < N := by omega
        have k5 := k3 k4
        have y0 := (HP1.out.2 (K + 1).toNat (by rw [HN.out]; omega)).1
        have y1 := (HP1.out.2 (K + 1).toNat (by rw [HN.out]; omega)).2
        have ym1 := HL.out.m1 (K + 1).toNat (by rw [HN.out]; omega)
        have ym2 := HL.out.m2 (K + 1).toNat (by rw [HN.out]; omega)
        have yt1 := HL.out.t1 (K + 1).toNat (by rw [HN.out]; omega)
        have yt2 := HL.out.t2 (K + 1).toNat (by rw [HN.out]; omega)
        have hu := HL.out.up K.toNat (by rw [HN.out]; omega)
        have hd := HL.out.dn K.toNat (by rw [HN.out]; omega)
        rw [show K.toNat + 1 = (K + 1).toNat from by omega] at hu hd
        clear HT k3
        generalize (l.pt K.toNat).1 = pm at *
        generalize (l.pt K.toNat).2 = pt at *
        generalize (l.pt (K + 1).toNat).1 = qm at *
        generalize (l.pt (K + 1).toNat).2 = qt at *
        have z1 := HMul.out (qm) ym1 ym2
        have z2 : 1 ≤ (qm - pm) * pk ∧ (qm - pm) * pk ≤ 10000000000 := by
          constructor
          · have : 1 * 1 ≤ (qm - pm) * pk := Int.mul_le_mul (by omega) p1 (by decide) (by omega)
            omega
          · have : (qm - pm) * pk ≤ 10000 * 1000000 := Int.mul_le_mul (by omega) p2 (by omega) (by omega)
            omega
        have z3 : 0 ≤ (pt - qt) * (100 * cur - pm * pk) ∧ (pt - qt) * (100 * cur - pm * pk) ≤ 360000000000000 := by
          constructor
          · exact Int.mul_nonneg (by omega) (by omega)
          · have : (pt - qt) * (100 * cur - pm * pk) ≤ 3600000 * 100000000 := Int.mul_le_mul (by omega) (by omega) (by omega) (by omega)
            omega
        have z4 : 0 ≤ (pt - qt) * (100 * cur - pm * pk) / ((qm - pm) * pk) ∧ (pt - qt) * (100 * cur - pm * pk) / ((qm - pm) * pk) ≤ 360000000000000 := by
          constructor
          · exact Int.ediv_nonneg z3.1 (by omega)
          · exact Int.le_trans (Int.ediv_le_self _ z3.1) z3.2
        clear HMul hlast
        go_wp2
        refine wp_region_quiet_lit (by kernel_rfl) (by kernel_rfl) ?_
        repeat (first | go_big_quiet_step (fail) | (go_big_quiet_want; go_simp; go_big_quiet_on))
        refine wpQuiet_nil ?_
        intro _ hw'
        obtain ⟨nq, hw''⟩ := hw'
        subst hw''
        go_wp2
        go_ret2
        rw [HR.out]
        exact ⟨rfl, below_drewN (belowA (belowA HB1.out.2.2.2 _) _) _⟩
end Go.Proofs.Ytplebibabcdipaa
namespace Go.Proofs.Ytplebibabcdipaa
open Go.RowKit

/-- What Time returns. -/
def Pts.timeR (l : Pts) (pk cur : Int) : Int × Int :=
  if l.err ≠ 0 then (0, l.err)
  else if pk < 1 ∨ 1000000 < pk ∨ cur < 0 ∨ 1000000 < cur then (0, 4)
  else match l.time pk cur with
    | none => (0, 8)
    | some t => (t, 0)
def two (r : Int × Int) : Value := .tuple #[.int .i64 r.1, .int .i64 r.2]

/-- A value that reads as a permitted characteristic is a slice at an address. -/
theorem PVal.addr {w : World} {v : Value} {l : Pts} (h : PVal w v l) (hl : l.Ok) : ∃ b off cap, v = .slice (some ⟨b, off, none⟩) l.length cap ∧ PAt w b off l := by
  rcases h with ⟨h, _⟩ | ⟨b, off, cap, h1, _, _, h4⟩
  · have := hl.len1; rw [h] at this; simp at this
  · exact ⟨b, off, cap, h1, h4⟩

theorem PVal.slice {w : World} {v : Value} {l : Pts} (h : PVal w v l) : ∃ a len cap, v = .slice a len cap := by
  rcases h with ⟨_, a, cap, h⟩ | ⟨b, off, cap, h1, _⟩
  · exact ⟨a, 0, cap, h⟩
  · exact ⟨_, _, cap, h1⟩

/-- Whether a relay operates in time at a current. -/
def Pts.inT (l : Pts) (pk tm : Int) (k : Int) : Bool := match l.time pk k with | none => false | some t => decide (t ≤ tm)
/-- The bisection over all currents, closed to evaluation. -/
@[irreducible] def bisM (P : Int → Bool) : Int := bis P 1000001 0 1000001
theorem search_m (P : Int → Bool) (g : FuncId) (caps : Array Value) (w : World)
    (eg : ∀ (args : Array Value) (w : World), (callFunc g args).run Try.prog w = .ok (.enter g args) w)
    (hf : Hid (∀ (k : Int) (W : World), 0 ≤ k → k < 1000001 → Below w.heap.size w W → Calls Try.prog g (#[.int .i64 k] ++ caps) W fun e w' => e = .returned (.bool (P k)) ∧ Below w.heap.size w w')) :
    Calls Try.prog 90 #[.int .i64 1000001, .func (.func g) #[] caps] w fun e w' => e = .returned (.int .i64 (bisM P)) ∧ Below w.heap.size w w' := by
  unfold bisM
  have e : (1000001 : Int).toNat = 1000001 := rfl
  have := search_c 1000001 (by decide) (by decide) P g caps w eg hf
  rw [e] at this
  exact this
theorem bisM_spec (P : Int → Bool) (mono : ∀ x y, 0 ≤ x → x ≤ y → y < 1000001 → P x = true → P y = true) :
    0 ≤ bisM P ∧ bisM P ≤ 1000001 ∧ (∀ x, 0 ≤ x → x < bisM P → P x = false) ∧ (bisM P < 1000001 → P (bisM P) = true) := by
  unfold bisM
  exact bis_spec P 1000001 0 1000001 (by decide) (by decide) mono

/-- What Least returns. -/
def Pts.leastR (l : Pts) (pk tm : Int) : Int × Int :=
  if l.err ≠ 0 then (0, l.err)
  else if pk < 1 ∨ 1000000 < pk ∨ tm < 0 then (0, 4)
  else if 1000000 < bisM (l.inT pk tm) then (0, 8) else (bisM (l.inT pk tm), 0)

end Go.Proofs.Ytplebibabcdipaa
namespace Go.Proofs.Ytplebibabcdipaa
open Go.RowKit

theorem frac_le {a x d : Int} (ha : 0 ≤ a) (hx : 0 ≤ x) (hxd : x ≤ d) (hd : 0 < d) : 0 ≤ a * x / d ∧ a * x / d ≤ a := by
  constructor
  · exact Int.ediv_nonneg (Int.mul_nonneg ha hx) (by omega)
  · have h1 : a * x ≤ a * d := Int.mul_le_mul_of_nonneg_left hxd ha
    have h2 := Int.ediv_le_ediv hd h1
    rw [Int.mul_ediv_cancel _ (by omega)] at h2
    exact h2

/-- The times of a permitted characteristic are in range. -/
theorem Pts.time_range {l : Pts} (h : l.Ok) {pk cur t : Int} (p1 : 1 ≤ pk) (ht : l.time pk cur = some t) : 0 ≤ t ∧ t ≤ 3600000 := by
  unfold Pts.time at ht
  split at ht
  · cases ht
  · rename_i h0
    obtain ⟨k0, k1, k2, k3⟩ := Pts.seg_spec h p1 h0
    simp only at ht
    generalize l.seg pk (100 * cur) = K at *
    have a1 := h.t1 K.toNat (by omega)
    have a2 := h.t2 K.toNat (by omega)
    split at ht
    · simp only [Option.some.injEq] at ht; omega
    · rename_i h4
      simp only [Option.some.injEq] at ht
      have k5 := k3 (by omega)
      have b1 := h.t1 (K + 1).toNat (by omega)
      have d1 := h.dn K.toNat (by omega)
      have u1 := h.up K.toNat (by omega)
      rw [show K.toNat + 1 = (K + 1).toNat from by omega] at d1 u1
      have e : ((l.pt (K + 1).toNat).1 - (l.pt K.toNat).1) * pk = (l.pt (K + 1).toNat).1 * pk - (l.pt K.toNat).1 * pk := Int.sub_mul _ _ _
      have := frac_le (a := (l.pt K.toNat).2 - (l.pt (K + 1).toNat).2) (x := 100 * cur - (l.pt K.toNat).1 * pk) (d := ((l.pt (K + 1).toNat).1 - (l.pt K.toNat).1) * pk) (by omega) (by omega) (by omega) (by omega)
      omega

/-- Whether the backup is not selective at a current. -/
def badAt (a : Pts) (pa : Int) (b : Pts) (pb margin k : Int) : Bool :=
  match b.time pb k with
  | none => false
  | some u => match a.time pa k with
    | none => true
    | some t => decide (u < t + margin)
/-- The first number from k on, of d ones, of which P holds. -/
def scan (P : Int → Bool) : Nat → Int → Option Int
  | 0, _ => none
  | d + 1, k => if P k then some k else scan P d (k + 1)
theorem scan_some {P : Int → Bool} : ∀ {d : Nat} {k r : Int}, scan P d k = some r → k ≤ r ∧ r < k + d ∧ P r = true ∧ ∀ x, k ≤ x → x < r → P x = false := by
  intro d
  induction d with
  | zero => intro k r h; simp [scan] at h
  | succ d ih =>
    intro k r h
    unfold scan at h
    split at h
    · simp only [Option.some.injEq] at h; subst h
      exact ⟨by omega, by omega, by assumption, fun x h1 h2 => by omega⟩
    · rename_i hp
      obtain ⟨a, b, c, e⟩ := ih h
      refine ⟨by omega, by omega, c, fun x h1 h2 => ?_⟩
      by_cases hx : x = k
      · subst hx; simpa using hp
      · exact e x (by omega) h2
theorem scan_none {P : Int → Bool} : ∀ {d : Nat} {k : Int}, scan P d k = none → ∀ x, k ≤ x → x < k + d → P x = false := by
  intro d
  induction d with
  | zero => intro k _ x h1 h2; omega
  | succ d ih =>
    intro k h x h1 h2
    unfold scan at h
    split at h
    · cases h
    · rename_i hp
      by_cases hx : x = k
      · subst hx; simpa using hp
      · exact ih h x (by omega) (by omega)

/-- What Conflict returns. -/
def conflictR (a : Pts) (pa : Int) (b : Pts) (pb margin low high : Int) : Int × Int :=
  if a.err ≠ 0 then (0, a.err)
  else if b.err ≠ 0 then (0, b.err)
  else if pa < 1 ∨ 1000000 < pa ∨ pb < 1 ∨ 1000000 < pb ∨ margin < 0 ∨ 3600000 < margin ∨ low < 0 ∨ 1000000 < high ∨ high < low then (0, 4)
  else if 20000 < high - low then (0, 2)
  else match scan (badAt a pa b pb margin) (high + 1 - low).toNat low with
    | none => (0, 8)
    | some k => (k, 0)

/-- What the two rounds of the check carry. -/
def CkRel (a b : Pts) (w : World) (k : Nat) (v : Value) (wr : World) : Prop :=
  Below w.heap.size w wr ∧ ((k = 2 ∧ v = .int .i64 0) ∨ (k = 1 ∧ v = .int .i64 1 ∧ a.err = 0) ∨ (k = 0 ∧ v = .int .i64 2 ∧ a.err = 0 ∧ b.err = 0))

set_option maxHeartbeats 4000000 in
theorem conflict_c (va vb : Value) (a b : Pts) (pa pb margin low high : Int) (w : World) (hva : PVal w va a) (hvb : PVal w vb b) :
    Calls Try.prog 25 #[va, .int .i64 pa, vb, .int .i64 pb, .int .i64 margin, .int .i64 low, .int .i64 high] w fun e w' => e = .returned (two (conflictR a pa b pb margin low high)) ∧ Below w.heap.size w w' := by
  have HT : Hid (conflictR a pa b pb margin low high =
    (if a.err ≠ 0 then (0, a.err)
      else if b.err ≠ 0 then (0, b.err)
      else if pa < 1 ∨ 1000000 < pa ∨ pb < 1 ∨ 1000000 < pb ∨ margin < 0 ∨ 3600000 < margin ∨ low < 0 ∨ 1000000 < high ∨ high < low then (0, 4)
      else if 20000 < high - low then (0, 2)
      else match scan (badAt a pa b pb margin) (high + 1 - low).toNat low with
        | none => (0, 8)
        | some k => (k, 0))) := rfl
  have HC : Hid (∀ w1, Below w.heap.size w w1 → (PVal w1 va a ∧ PVal w1 vb b)) := fun w1 h => ⟨hva.below h, hvb.below h⟩
  obtain ⟨sa, la, ca, rfl⟩ := hva.slice
  obtain ⟨sb, lb, cb, rfl⟩ := hvb.slice
  clear hva hvb
  have i0 : ∀ w, (Instr.index 100 (.agg #[.slice sa la ca, .slice sb lb cb]) (.int .i64 0)).run Try.prog w = .ok (.slice sa la ca) w := fun _ => by kernel_rfl
  have i1 : ∀ w, (Instr.index 100 (.agg #[.slice sa la ca, .slice sb lb cb]) (.int .i64 1)).run Try.prog w = .ok (.slice sb lb cb) w := fun _ => by kernel_rfl
  generalize conflictR a pa b pb margin low high = R at *
  go_enter Try.func25, Try.ntmps25
  go_wp2
  go_loopg [27] 2 (fun k v wr => CkRel a b w k v wr)
  case atStart => exact ⟨Below.refl _ _, Or.inl ⟨rfl, rfl⟩⟩
  case round =>
    obtain ⟨hb, hv⟩ := hrel
    rcases hv with ⟨rfl, rfl⟩ | ⟨rfl, rfl, h1⟩ | ⟨rfl, rfl, h1, h2⟩
    · have HB := Lib.hid hb
      clear hb
      go_wp2_with fail
      refine (curveCheck_c _ a wr (HC.out wr HB.out).1).mono ?_; rintro e w1 ⟨rfl, hb1⟩
      have HB1 := Lib.hid (belowT HB.out hb1)
      clear hb1
      by_cases he : a.err = 0
      · have HE := Lib.hid he
        rw [he]
        clear he
        go_wp2_with fail
        go_roundg 1
        case measure => omega
        case rel => exact ⟨HB1.out, Or.inr (Or.inl ⟨rfl, rfl, HE.out⟩)⟩
      · have HT1 := Lib.hid (HT.out.trans (if_pos he))
        have g0 : (a.err != 0) = true := by simpa using he
        generalize a.err = E at *
        clear he HT
        go_wp2_with fail
        go_ret2
        rw [HT1.out]
        exact ⟨rfl, HB1.out⟩
    · have HB := Lib.hid hb
      have HE1 := Lib.hid h1
      clear hb h1
      go_wp2_with fail
      refine (curveCheck_c _ b wr (HC.out wr HB.out).2).mono ?_; rintro e w1 ⟨rfl, hb1⟩
      have HB1 := Lib.hid (belowT HB.out hb1)
      clear hb1
      by_cases he : b.err = 0
      · have HE := Lib.hid he
        rw [he]
        clear he
        go_wp2_with fail
        go_roundg 0
        case measure => omega
        case rel => exact ⟨HB1.out, Or.inr (Or.inr ⟨rfl, rfl, HE1.out, HE.out⟩)⟩
      · have HT1 := Lib.hid (HT.out.trans ((if_neg (fun h => h HE1.out)).trans (if_pos he)))
        have g0 : (b.err != 0) = true := by simpa using he
        generalize b.err = E at *
        clear he HT
        go_wp2_with fail
        go_ret2
        rw [HT1.out]
        exact ⟨rfl, HB1.out⟩
    · have HB := Lib.hid hb
      have hla := (Pts.err_zero a).1 h1
      have hlb := (Pts.err_zero b).1 h2
      have HT1 := Lib.hid (HT.out.trans ((if_neg (fun h => h h1)).trans (if_neg (fun h => h h2))))
      clear hb h1 h2 HT i0 i1
      by_cases hr : pa < 1 ∨ 1000000 < pa ∨ pb < 1 ∨ 1000000 < pb ∨ margin < 0 ∨ 3600000 < margin ∨ low < 0 ∨ 1000000 < high ∨ high < low
      · have HT2 := Lib.hid (HT1.out.trans (if_pos hr))
        clear HT1 hla hlb
        go_wp2_with fail
        all_goals
          go_ret2
          rw [HT2.out]
          exact ⟨rfl, HB.out⟩
      · have HT2 := Lib.hid (HT1.out.trans (if_neg hr))
        have r1 : 1 ≤ pa := by omega
        have r2 : pa ≤ 1000000 := by omega
        have r3 : 1 ≤ pb := by omega
        have r4 : pb ≤ 1000000 := by omega
        have r5 : 0 ≤ margin := by omega
        have r6 : margin ≤ 3600000 := by omega
        have r7 : 0 ≤ low := by omega
        have r8 : high ≤ 1000000 := by omega
        have r9 : low ≤ high := by omega
        clear HT1 hr
        by_cases hd : 20000 < high - low
        · have HT3 := Lib.hid (HT2.out.trans (if_pos hd))
          clear HT2 hla hlb
          go_wp2_with fail
          go_ret2
          rw [HT3.out]
          exact ⟨rfl, HB.out⟩
        · have HT3 := Lib.hid (HT2.out.trans (if_neg hd))
          clear HT2
          obtain ⟨ba, oa, ca', hva, hpa⟩ := (HC.out w (Below.refl _ _)).1.addr hla
          obtain ⟨bb, ob, cb', hvb, hpb⟩ := (HC.out w (Below.refl _ _)).2.addr hlb
          simp only [Value.slice.injEq] at hva hvb
          obtain ⟨rfl, rfl, rfl⟩ := hva
          obtain ⟨rfl, rfl, rfl⟩ := hvb
          have HA : Hid (∀ k : Int, 0 ≤ k → k ≤ 1000000 → ∀ w1, Below w.heap.size w w1 → _) := fun k q1 q2 w1 hb => at_c a hla pa k r1 r2 q1 q2 ba oa ca w1 (hpa.below hb)
          have HAB : Hid (∀ k : Int, 0 ≤ k → k ≤ 1000000 → ∀ w1, Below w.heap.size w w1 → _) := fun k q1 q2 w1 hb => at_c b hlb pb k r3 r4 q1 q2 bb ob cb w1 (hpb.below hb)
          have HRa : Hid (∀ (k t : Int), a.time pa k = some t → 0 ≤ t ∧ t ≤ 3600000) := fun k t => Pts.time_range hla r1
          clear hpa hpb hla hlb HC
          go_wp2_with fail
          go_loopg [19] (high + 1 - low).toNat (fun d v wr => ∃ k : Int, v = .int .i64 k ∧ low ≤ k ∧ Hid (d = (high + 1 - k).toNat) ∧ k ≤ high + 1 ∧ Hid (scan (badAt a pa b pb margin) d k = scan (badAt a pa b pb margin) (high + 1 - low).toNat low) ∧ Hid (Below w.heap.size w wr))
          case atStart => exact ⟨low, rfl, by omega, rfl, by omega, rfl, HB.out⟩
          case round =>
            clear HB
            obtain ⟨k, rfl, k1, kd, k2, hs, HB⟩ := hrel
            by_cases hlt : k ≤ high
            · go_wp2_with fail
              refine (HA.out k (by omega) (by omega) _ HB.out).mono ?_; rintro e w1 ⟨rfl, hb1⟩
              have HB1 := Lib.hid (belowT HB.out hb1)
              clear hb1
              obtain ⟨d, hd'⟩ : ∃ d, gk = d + 1 := ⟨gk - 1, by have := kd.out; omega⟩
              have HD := Lib.hid hd'
              clear hd'
              have HS : Hid (scan (badAt a pa b pb margin) (high + 1 - low).toNat low = if badAt a pa b pb margin k then some k else scan (badAt a pa b pb margin) d (k + 1)) := by
                show _ = _; rw [← hs.out, HD.out]; rfl
              have HBd : Hid (badAt a pa b pb margin k = match b.time pb k with
                | none => false
                | some u => match a.time pa k with
                  | none => true
                  | some t => decide (u < t + margin)) := rfl
              clear hs
              have HRk := Lib.hid (HRa.out k)
              cases hta : a.time pa k with
              | none =>
                have HTA := Lib.hid hta
                clear hta
                unfold tval
                go_wp2_with fail
                refine (HAB.out k (by omega) (by omega) _ HB1.out).mono ?_; rintro e w2 ⟨rfl, hb2⟩
                have HB2 := Lib.hid (belowT HB1.out hb2)
                clear hb2
                cases htb : b.time pb k with
                | none =>
                  have HTB := Lib.hid htb
                  clear htb
                  unfold tval
                  go_wp2_with fail
                  go_roundg d
                  case measure => have := HD.out; omega
                  case rel =>
                    refine ⟨k + 1, rfl, by omega, by show _ = _; have := HD.out; have := kd.out; omega, by omega, ?_, HB2⟩
                    show _ = _
                    rw [HS.out, HBd.out, HTB.out]; rfl
                | some u =>
                  have HTB := Lib.hid htb
                  clear htb
                  unfold tval
                  go_wp2_with fail
                  go_ret2
                  rw [HT3.out, HS.out, HBd.out, HTB.out, HTA.out]
                  exact ⟨rfl, HB2.out⟩
              | some t =>
                have ht := HRk.out t hta
                have HTA := Lib.hid hta
                clear hta
                unfold tval
                go_wp2_with fail
                refine (HAB.out k (by omega) (by omega) _ HB1.out).mono ?_; rintro e w2 ⟨rfl, hb2⟩
                have HB2 := Lib.hid (belowT HB1.out hb2)
                clear hb2
                cases htb : b.time pb k with
                | none =>
                  have HTB := Lib.hid htb
                  clear htb
                  unfold tval
                  go_wp2_with fail
                  go_roundg d
                  case measure => have := HD.out; omega
                  case rel =>
                    refine ⟨k + 1, rfl, by omega, by show _ = _; have := HD.out; have := kd.out; omega, by omega, ?_, HB2⟩
                    show _ = _
                    rw [HS.out, HBd.out, HTB.out]; rfl
                | some u =>
                  have HTB := Lib.hid htb
                  clear htb
                  unfold tval
                  by_cases hu : u < t + margin
                  · have g1 : decide (u < t + margin) = true := decide_eq_true hu
                    have G1 := Lib.hid g1
                    clear hu
                    go_wp2_with fail
                    go_ret2
                    rw [HT3.out, HS.out, HBd.out, HTB.out, HTA.out]
                    simp only [G1.out, if_true]
                    exact ⟨rfl, HB2.out⟩
                  · have g1 : decide (u < t + margin) = false := decide_eq_false hu
                    have G1 := Lib.hid g1
                    clear hu
                    go_wp2_with fail
                    go_roundg d
                    case measure => have := HD.out; omega
                    case rel =>
                      refine ⟨k + 1, rfl, by omega, by show _ = _; have := HD.out; have := kd.out; omega, by omega, ?_, HB2⟩
                      show _ = _
                      rw [HS.out, HBd.out, HTB.out, HTA.out]
                      simp only [G1.out]; rfl
            · have HS : Hid (scan (badAt a pa b pb margin) (high + 1 - low).toNat low = none) := by
                show _ = _; rw [← hs.out, kd.out, show (high + 1 - k).toNat = 0 from by omega]; rfl
              go_wp2_with fail
              go_ret2
              rw [HT3.out, HS.out]
              exact ⟨rfl, HB.out⟩
end Go.Proofs.Ytplebibabcdipaa
namespace Go.Proofs.Ytplebibabcdipaa
open Go.RowKit

def sc (dial : Int) (p : Int × Int) : Int × Int := (p.1, (p.2 * dial + 999) / 1000)
def Pts.scaled (l : Pts) (dial : Int) : Pts := l.map (sc dial)
/-- The code that Scale returns. -/
def Pts.scaleE (l : Pts) (dial : Int) : Int :=
  if l.err ≠ 0 then l.err
  else if dial < 1 ∨ 10000 < dial then 4
  else if (l.scaled dial).any (fun p => decide (3600000 < p.2)) = true then 2
  else 0
/-- What Scale returns. -/
def ScaleIs (l : Pts) (dial : Int) (w : World) (e : Ending) (w' : World) : Prop :=
  ∃ v, e = .returned (.tuple #[v, .int .i64 (l.scaleE dial)]) ∧ Below w.heap.size w w' ∧ (l.scaleE dial ≠ 0 → v = .slice none 0 0) ∧ (l.scaleE dial = 0 → PVal w' v (l.scaled dial))

/-- The points as cells. -/
def flatP (l : Pts) : List Value := l.flatMap fun p => [.int .i64 p.1, .int .i64 p.2]
theorem flatP_length (l : Pts) : (flatP l).length = l.length * 2 := by
  induction l with
  | nil => rfl
  | cons x xs ih => simp only [flatP, List.flatMap_cons, List.length_append, List.length_cons, List.length_nil] at ih ⊢; omega
theorem flatP_snoc (l : Pts) (p : Int × Int) : flatP (l ++ [p]) = flatP l ++ [.int .i64 p.1, .int .i64 p.2] := by simp [flatP]
theorem flatP_get {l : Pts} {i : Nat} (h : i < l.length) : (flatP l)[i * 2]? = some (.int .i64 (l.pt i).1) ∧ (flatP l)[i * 2 + 1]? = some (.int .i64 (l.pt i).2) := by
  induction l generalizing i with
  | nil => simp at h
  | cons x xs ih =>
    cases i with
    | zero => simp [flatP, Pts.pt]
    | succ i =>
      have := ih (i := i) (by simpa using h)
      have e : flatP (x :: xs) = .int .i64 x.1 :: .int .i64 x.2 :: flatP xs := rfl
      rw [e, show (i + 1) * 2 = i * 2 + 1 + 1 from by omega, List.getElem?_cons_succ, List.getElem?_cons_succ, List.getElem?_cons_succ, List.getElem?_cons_succ]
      simpa [Pts.pt] using this

/-- What the call owns as cells reads as points. -/
theorem PVal.of_owns {w : World} {base : Nat} {e : TypeId} {v : Value} {l : Pts} (h : w.ownsRow base e 2 v l.length (flatP l)) : PVal w v l := by
  rcases h.2 with ⟨hv, hn⟩ | ⟨g, cap, cur, hv, hg, hh, hn, hcap, hsz, htake⟩
  · exact Or.inl ⟨List.eq_nil_of_length_eq_zero hn, none, 0, by rw [hv]⟩
  · refine Or.inr ⟨g, 0, cap, hv, hn, Nat.le_trans hn hcap, (Array.getElem?_eq_some_iff.1 hh).1, fun i hi => ?_⟩
    obtain ⟨f0, f1⟩ := flatP_get hi
    have e : v.ownBlock = some g := by rw [hv]; rfl
    have a0 := h.cells e _ _ f0
    have a1 := h.cells e _ _ f1
    rw [show ∀ j, (⟨g, 0, none⟩ : Addr).add j = ⟨g, j, none⟩ from fun j => by unfold Addr.add; split <;> simp_all] at a0 a1
    simp only [Nat.zero_add]
    exact ⟨a0, a1⟩
theorem scaled_take (l : Pts) (dial : Int) {k : Nat} (h : k < l.length) : (l.scaled dial).take (k + 1) = (l.scaled dial).take k ++ [sc dial (l.pt k)] := by
  unfold Pts.scaled
  rw [List.take_succ_eq_append_getElem (by simpa using h)]
  simp [Pts.pt, h]

theorem infoPt : (Try.prog.info? 99).map (fun i => (i.zero, i.size, i.bytes)) = some (some (.agg #[.int .i64 0, .int .i64 0]), 2, 16) := by kernel_rfl

def ScRel (l : Pts) (dial : Int) (w : World) (k : Nat) (out : Value) (wr : World) : Prop :=
  wr.ownsRow w.heap.size 99 2 out k (flatP ((l.scaled dial).take k)) ∧ Below w.heap.size w wr ∧ ∀ i, i < k → ((l.scaled dial).pt i).2 ≤ 3600000

/-- What Scale returns, and that it is new. -/
def ScaleIs2 (l : Pts) (dial : Int) (w : World) (e : Ending) (w' : World) : Prop :=
  ∃ v, e = .returned (.tuple #[v, .int .i64 (l.scaleE dial)]) ∧ Below w.heap.size w w' ∧ (l.scaleE dial ≠ 0 → v = .slice none 0 0) ∧ (l.scaleE dial = 0 → PVal w' v (l.scaled dial)) ∧ (∀ j, v.ownBlock = some j → w.heap.size ≤ j)

set_option maxRecDepth 100000 in
set_option maxHeartbeats 2000000 in
theorem scale_c2 (v : Value) (l : Pts) (dial : Int) (w : World) (hv : PVal w v l) :
    Calls Try.prog 24 #[v, .int .i64 dial] w fun e w' => ScaleIs2 l dial w e w' := by
  have hc := curveCheck_c v l w hv
  have HV := Lib.hid hv
  obtain ⟨sa, sl, sc0, rfl⟩ := hv.slice
  clear hv
  have HC := Lib.hid hc
  clear hc
  by_cases he : l.err = 0
  · have hl := (Pts.err_zero l).1 he
    by_cases hr : dial < 1 ∨ 10000 < dial
    · have HR : Hid (∀ w', Below w.heap.size w w' → ScaleIs2 l dial w (.returned (.tuple #[.slice none 0 0, .int .i64 4])) w') := by
        intro w' hb
        have e : l.scaleE dial = 4 := by unfold Pts.scaleE; rw [if_neg (fun h => h he), if_pos hr]
        exact ⟨_, by rw [e], hb, fun _ => rfl, fun h => by rw [e] at h; omega, fun j h => (by cases h)⟩
      rw [he] at HC
      clear he hl
      go_enter Try.func24, Try.ntmps24
      go_wp2_with fail
      refine HC.out.mono ?_; rintro e w1 ⟨rfl, hb⟩
      have HB := Lib.hid hb
      clear hb
      go_wp2_with fail
      all_goals
        go_ret2
        exact HR.out _ HB.out
    · have HR2 : Hid (∀ i w', i < l.length → 3600000 < ((l.scaled dial).pt i).2 → Below w.heap.size w w' → ScaleIs2 l dial w (.returned (.tuple #[.slice none 0 0, .int .i64 2])) w') := by
        intro i w' hi hbig hb
        have e : l.scaleE dial = 2 := by
          unfold Pts.scaleE; rw [if_neg (fun h => h he), if_neg hr, if_pos]
          have hi' : i < (l.scaled dial).length := by unfold Pts.scaled; simpa using hi
          refine List.any_eq_true.2 ⟨(l.scaled dial).pt i, ?_, by simpa using hbig⟩
          unfold Pts.pt; rw [List.getD_eq_getElem?_getD, List.getElem?_eq_getElem hi']; simp
        exact ⟨_, by rw [e], hb, fun _ => rfl, fun h => by rw [e] at h; omega, fun j h => (by cases h)⟩
      have HR0 : Hid (∀ v w', (∀ i, i < l.length → ((l.scaled dial).pt i).2 ≤ 3600000) → w'.ownsRow w.heap.size 99 2 v l.length (flatP ((l.scaled dial).take l.length)) → Below w.heap.size w w' → ScaleIs2 l dial w (.returned (.tuple #[v, .int .i64 0])) w') := by
        intro v w' hsm ho hb
        have ho0 := ho
        have hlen : (l.scaled dial).length = l.length := by unfold Pts.scaled; simp
        have e : l.scaleE dial = 0 := by
          unfold Pts.scaleE; rw [if_neg (fun h => h he), if_neg hr, if_neg]
          intro h
          obtain ⟨p, hp, hpb⟩ := List.any_eq_true.1 h
          obtain ⟨i, hi, hpi⟩ := List.getElem_of_mem hp
          have := hsm i (by omega)
          unfold Pts.pt at this
          rw [List.getD_eq_getElem?_getD, List.getElem?_eq_getElem hi, hpi] at this
          have := of_decide_eq_true hpb
          simp at *
          omega
        rw [← hlen, List.take_length] at ho
        exact ⟨v, by rw [e], hb, fun h => absurd e h, fun _ => PVal.of_owns ho, fun j hj => (ho0.lt j hj).1⟩
      obtain ⟨b, off, cap, hvv, hp⟩ := HV.out.addr hl
      simp only [Value.slice.injEq] at hvv
      obtain ⟨rfl, rfl, rfl⟩ := hvv
      have r1 : 1 ≤ dial := by omega
      have r2 : dial ≤ 10000 := by omega
      have HL := Lib.hid hl
      have HP := Lib.hid hp
      have n2 := hl.len2
      rw [he] at HC
      clear he hl hp hr HV
      obtain ⟨N, hN⟩ : ∃ N, l.length = N := ⟨_, rfl⟩
      have HN := Lib.hid hN
      rw [hN] at n2 HC HR2 HR0 ⊢
      clear hN
      obtain ⟨i0, hi, hz0, hz1, hz2⟩ := info_parts infoPt
      go_enter Try.func24, Try.ntmps24
      go_wp2_with fail
      refine HC.out.mono ?_; rintro e w1 ⟨rfl, hb⟩
      have HB := Lib.hid hb
      clear hb HC
      go_wp2_with fail
      go_loopw [7, 23] (fun o i wr => ∃ (k : Nat) (o' : Value), o = o' ∧ k ≤ N ∧ i = .int .i64 k ∧ ScRel l dial w k o' wr) (fun _ i _ => N - (intOf i).toNat)
      case atStart => exact ⟨0, _, rfl, Nat.zero_le _, rfl, by simpa [flatP] using World.ownsRow_nil _ _ _ _, HB.out, fun i h => by omega⟩
      case round =>
        clear HB
        obtain ⟨k, o, rfl, hk, rfl, ho, hb, hsm⟩ := hrel
        by_cases hlt : k < N
        · have x0 := ((HP.out.below hb).2 k (by rw [HN.out]; exact hlt)).1
          have x1 := ((HP.out.below hb).2 k (by rw [HN.out]; exact hlt)).2
          have xt1 := HL.out.t1 k (by rw [HN.out]; exact hlt)
          have xt2 := HL.out.t2 k (by rw [HN.out]; exact hlt)
          have hs0 := scaled_take l dial (by rw [HN.out]; exact hlt)
          have hsp : (l.scaled dial).pt k = sc dial (l.pt k) := by unfold Pts.scaled Pts.pt; simp [HN.out, hlt]
          have hmul : 0 ≤ (l.pt k).2 * dial ∧ (l.pt k).2 * dial ≤ 36000000000 := by
            constructor
            · exact Int.mul_nonneg xt1 (by omega)
            · have : (l.pt k).2 * dial ≤ 3600000 * 10000 := Int.mul_le_mul xt2 r2 (by omega) (by omega)
              omega
          obtain ⟨xm, xt, hx⟩ : ∃ xm xt, l.pt k = (xm, xt) := ⟨_, _, rfl⟩
          rw [hx] at x0 x1 xt1 xt2 hs0 hsp hmul
          have HS0 := Lib.hid hs0
          have HSP := Lib.hid hsp
          have HO := Lib.hid ho
          have HB := Lib.hid hb
          have HSm := Lib.hid hsm
          clear hx hs0 hsp ho hb hsm
          simp only at x0 x1 xt1 xt2 hmul
          by_cases hbig : 3600000 < (xt * dial + 999) / 1000
          · have HR3 := Lib.hid (HR2.out k)
            have HBg : Hid (3600000 < ((l.scaled dial).pt k).2) := by show _ < _; rw [HSP.out]; exact hbig
            go_wp2_with fail
            go_ret2
            exact HR3.out _ hlt HBg.out (by repeat (first | exact HB.out | refine belowA ?_ _ | refine Below.setCell ?_ ?_ _))
          · have HBg : Hid (((l.scaled dial).pt k).2 ≤ 3600000) := by show _ ≤ _; rw [HSP.out]; show (xt * dial + 999) / 1000 ≤ _; omega
            go_wp2_with (at_builtin; refine wpList_append_own _ rfl _ _ 54 rfl w.heap.size 99 i0 (.agg #[.int .i64 0, .int .i64 0]) 2 16 Try.underlying54 hi hz0 hz1 hz2 rfl (by decide) _ _ _ rfl ((HO.out.alloc _).alloc _) ⟨wr.heap.size + 1, 0, none⟩ 1 1 [.int .i64 xm, .int .i64 ((xt * dial + 999) / 1000)] rfl rfl (Blk.new2 _ _ _ _).row (fun x hx => by simp at hx; rcases hx with rfl | rfl <;> rfl) (by unfold maxLen; omega) (by omega) (by simp; have := HB.out.size; omega) ?_; intro v' w3 hown' hgrow3 hnil3)
            go_roundw
            case rel =>
              refine ⟨k + 1, _, rfl, by omega, by go_num, ?_, ?_, ?_⟩
              · rw [HS0.out, flatP_snoc]; exact hown'
              · exact Below.grown (belowA (belowA HB.out _) _) hgrow3 (by simp; have := HB.out.size; omega) (fun j hj => (HO.out.lt _ hj).1)
              · intro i hi
                by_cases hik : i = k
                · rw [hik]; exact HBg.out
                · exact HSm.out i (by omega)
            case measure => simp [intOf]; omega
        · have hkN : k = N := by omega
          have HX := Lib.hid (HR0.out _ wr (fun i hi => hsm i (by omega)) (by rw [← hkN]; exact ho) hb)
          clear ho hb hsm hkN
          go_wp2_with fail
          go_ret2
          exact HX.out
  · have HR : Hid (∀ w', Below w.heap.size w w' → ScaleIs2 l dial w (.returned (.tuple #[.slice none 0 0, .int .i64 l.err])) w') := by
      intro w' hb
      have e : l.scaleE dial = l.err := by unfold Pts.scaleE; rw [if_pos he]
      exact ⟨_, by rw [e], hb, fun _ => rfl, fun h => by rw [e] at h; exact absurd h he, fun j h => (by cases h)⟩
    have g0 : (l.err != 0) = true := by simpa using he
    generalize l.err = E at *
    clear he
    go_enter Try.func24, Try.ntmps24
    go_wp2_with fail
    refine HC.out.mono ?_; rintro e w1 ⟨rfl, hb⟩
    have HB := Lib.hid hb
    clear hb
    go_wp2_with fail
    go_ret2
    exact HR.out _ HB.out

theorem scale_c (v : Value) (l : Pts) (dial : Int) (w : World) (hv : PVal w v l) :
    Calls Try.prog 24 #[v, .int .i64 dial] w fun e w' => ScaleIs l dial w e w' :=
  (scale_c2 v l dial w hv).mono fun _ _ ⟨v, h1, h2, h3, h4, _⟩ => ⟨v, h1, h2, h3, h4⟩
end Go.Proofs.Ytplebibabcdipaa
