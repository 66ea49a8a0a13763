/- The lengths of shortest ways: what zone.lengths computes, and why it ends. Plain Lean. zone.lengths. What a network that Check lets pass has; zone.distance in plain Lean. zone.distance. -/
import Derived.Test.YtplebibabcdipaaZon4
import Derived.Deep.OwnRows
import Derived.Deep.CutRange
import Derived.Deep.RegionHeld3
namespace Go.Proofs.Ytplebibabcdipaa
open Go.RowKit

theorem sum_set (l : List Nat) : ∀ (i a x : Nat), l[i]? = some x → (l.set i a).sum + x = l.sum + a := by
  induction l with
  | nil => intro i a x h; simp at h
  | cons y ys ih =>
    intro i a x h
    cases i with
    | zero => simp at h; subst h; simp; omega
    | succ i => simp at h ⊢; have := ih i a x h; omega
theorem sum_le_len (l : List Nat) (h : ∀ x ∈ l, x ≤ 1) : l.sum ≤ l.length := by
  induction l with
  | nil => simp
  | cons y ys ih => have := ih (fun x hx => h x (List.mem_cons_of_mem _ hx)); have := h y (List.mem_cons_self); simp; omega
/-- How many numbers are not negative. -/
def finN (d : List Int) : Nat := (d.map (fun x => if 0 ≤ x then 1 else 0)).sum
/-- What falls with each improvement. -/
def muN (d : List Int) : Nat := (d.map (fun x => if 0 ≤ x then x.toNat else 240000001)).sum
theorem finN_le (d : List Int) : finN d ≤ d.length := by
  have := sum_le_len (d.map (fun x => if 0 ≤ x then 1 else 0)) (fun x hx => by obtain ⟨y, _, rfl⟩ := List.mem_map.1 hx; split <;> omega)
  simpa [finN] using this
theorem finN_set {d : List Int} {v : Nat} {y x : Int} (hx : d[v]? = some x) (hy : 0 ≤ y) : finN (d.set v y) + (if 0 ≤ x then 1 else 0) = finN d + 1 := by
  unfold finN
  rw [List.map_set]
  have := sum_set (d.map (fun x => if 0 ≤ x then 1 else 0)) v (if 0 ≤ y then 1 else 0) (if 0 ≤ x then 1 else 0) (by simp [hx])
  rw [if_pos hy] at this ⊢
  exact this
theorem muN_set {d : List Int} {v : Nat} {y x : Int} (hx : d[v]? = some x) (hy : 0 ≤ y) : muN (d.set v y) + (if 0 ≤ x then x.toNat else 240000001) = muN d + y.toNat := by
  unfold muN
  rw [List.map_set]
  have := sum_set (d.map (fun x => if 0 ≤ x then x.toNat else 240000001)) v (if 0 ≤ y then y.toNat else 240000001) (if 0 ≤ x then x.toNat else 240000001) (by simp [hx])
  rw [if_pos hy] at this ⊢
  exact this
/-- Each number is bounded by how many numbers there are. -/
def Bd (d : List Int) : Prop := ∀ x ∈ d, x < 0 ∨ x + 10000000 ≤ finN d * 10000000
def hitB (x y len : Int) : Bool := decide (0 ≤ x) && (decide (y < 0) || decide (x + len < y))
/-- One improvement of v by u. -/
def relax (s : List Int × Bool) (u v : Nat) (len : Int) : List Int × Bool :=
  if hitB (s.1.getD u 0) (s.1.getD v 0) len = true then (s.1.set v (s.1.getD u 0 + len), true) else s
theorem relax_good {d : List Int} {q : Bool} {u v : Nat} {len : Int} {n : Nat} (hn : d.length = n) (h24 : n ≤ 24) (hd : Bd d) (hu : u < n) (hv : v < n) (hl0 : 0 ≤ len) (hl1 : len ≤ 10000000) :
    (relax (d, q) u v len).1.length = n ∧ Bd (relax (d, q) u v len).1 ∧ (relax (d, q) u v len = (d, q) ∨ ((relax (d, q) u v len).2 = true ∧ muN (relax (d, q) u v len).1 < muN d)) := by
  unfold relax
  split
  · rename_i h
    unfold hitB at h
    simp only [Bool.and_eq_true, Bool.or_eq_true, decide_eq_true_eq] at h
    obtain ⟨h1, h2⟩ := h
    simp only at *
    have hxu : d[u]? = some (d.getD u 0) := by rw [List.getD_eq_getElem?_getD, List.getElem?_eq_getElem (by omega)]; rfl
    have hxv : d[v]? = some (d.getD v 0) := by rw [List.getD_eq_getElem?_getD, List.getElem?_eq_getElem (by omega)]; rfl
    have bu := hd _ (List.mem_of_getElem? hxu)
    have bv := hd _ (List.mem_of_getElem? hxv)
    generalize d.getD u 0 = x at *
    generalize d.getD v 0 = y at *
    have f1 := finN_set (y := x + len) hxv (by omega)
    have m1 := muN_set (y := x + len) hxv (by omega)
    have fl := finN_le d
    have fz : (finN d : Int) ≤ 24 := by omega
    have hnew : x + len + 10000000 ≤ finN (d.set v (x + len)) * 10000000 := by
      split at f1
      · have : finN (d.set v (x + len)) = finN d := by omega
        rw [this]; omega
      · have : finN (d.set v (x + len)) = finN d + 1 := by omega
        rw [this]; push_cast; omega
    have hge : finN d ≤ finN (d.set v (x + len)) := by split at f1 <;> omega
    refine ⟨by simp [hn], ?_, Or.inr ⟨by first | rfl | trivial, ?_⟩⟩
    · intro z hz
      rcases List.mem_or_eq_of_mem_set hz with h | h
      · rcases hd z h with h | h
        · exact Or.inl h
        · right; have : (finN d : Int) ≤ finN (d.set v (x + len)) := by omega
          omega
      · right; rw [h]; exact hnew
    · show muN (d.set v (x + len)) < muN d
      split at m1 <;> omega
  · exact ⟨hn, hd, Or.inl rfl⟩
def relaxE (s : List Int × Bool) (e : Edg) : List Int × Bool := relax (relax s e.a.toNat e.b.toNat e.len) e.b.toNat e.a.toNat e.len
def passE (l : List Edg) (d : List Int) : List Int × Bool := l.foldl relaxE (d, false)
def EdgOk (n : Nat) (e : Edg) : Prop := 0 ≤ e.a ∧ e.a < n ∧ 0 ≤ e.b ∧ e.b < n ∧ 0 ≤ e.len ∧ e.len ≤ 10000000
/-- What holds of a list of lengths. -/
def DOk (n : Nat) (d : List Int) : Prop := d.length = n ∧ Bd d
theorem relaxE_good {n : Nat} {d : List Int} {q : Bool} {e : Edg} (h24 : n ≤ 24) (hd : DOk n d) (he : EdgOk n e) :
    DOk n (relaxE (d, q) e).1 ∧ (relaxE (d, q) e = (d, q) ∨ ((relaxE (d, q) e).2 = true ∧ muN (relaxE (d, q) e).1 < muN d)) := by
  obtain ⟨a0, a1, b0, b1, l0, l1⟩ := he
  obtain ⟨p1, p2, p3⟩ := relax_good (q := q) hd.1 h24 hd.2 (u := e.a.toNat) (v := e.b.toNat) (by omega) (by omega) l0 l1
  unfold relaxE
  generalize relax (d, q) e.a.toNat e.b.toNat e.len = s at *
  obtain ⟨d1, q1⟩ := s
  obtain ⟨r1, r2, r3⟩ := relax_good (q := q1) p1 h24 p2 (u := e.b.toNat) (v := e.a.toNat) (by omega) (by omega) l0 l1
  simp only at *
  generalize relax (d1, q1) e.b.toNat e.a.toNat e.len = s2 at *
  refine ⟨⟨r1, r2⟩, ?_⟩
  rcases p3 with h | ⟨h, h'⟩
  · cases h; exact r3
  · rcases r3 with k | ⟨k, k'⟩
    · subst k; exact Or.inr ⟨h, h'⟩
    · exact Or.inr ⟨k, by omega⟩
theorem foldE_good {n : Nat} (h24 : n ≤ 24) : ∀ (l : List Edg) (d : List Int) (q : Bool), (∀ e ∈ l, EdgOk n e) → DOk n d →
    DOk n (l.foldl relaxE (d, q)).1 ∧ (l.foldl relaxE (d, q) = (d, q) ∨ ((l.foldl relaxE (d, q)).2 = true ∧ muN (l.foldl relaxE (d, q)).1 < muN d)) := by
  intro l
  induction l with
  | nil => intro d q _ hd; exact ⟨hd, Or.inl rfl⟩
  | cons e es ih =>
    intro d q hl hd
    obtain ⟨h1, h2⟩ := relaxE_good (q := q) h24 hd (hl e List.mem_cons_self)
    show DOk n (es.foldl relaxE (relaxE (d, q) e)).1 ∧ _
    rw [List.foldl_cons]
    generalize relaxE (d, q) e = s at *
    obtain ⟨d1, q1⟩ := s
    obtain ⟨h3, h4⟩ := ih d1 q1 (fun x hx => hl x (List.mem_cons_of_mem _ hx)) h1
    refine ⟨h3, ?_⟩
    rcases h2 with h | ⟨h, h'⟩
    · cases h; exact h4
    · rcases h4 with k | ⟨k, k'⟩
      · rw [k]; exact Or.inr ⟨h, h'⟩
      · exact Or.inr ⟨k, by simp only at h'; omega⟩
/-- The passes, one after another, while something changes. -/
def lensF (l : List Edg) : Nat → List Int → List Int
  | 0, d => d
  | f + 1, d => if (passE l d).2 = true then lensF l f (passE l d).1 else (passE l d).1
theorem lensF_stable {n : Nat} (h24 : n ≤ 24) (l : List Edg) (hl : ∀ e ∈ l, EdgOk n e) : ∀ (f g : Nat) (d : List Int), DOk n d → muN d < f → muN d < g → lensF l f d = lensF l g d := by
  intro f
  induction f with
  | zero => intro g d _ h; omega
  | succ f ih =>
    intro g d hd h1 h2
    cases g with
    | zero => omega
    | succ g =>
      unfold lensF
      obtain ⟨h3, h4⟩ := foldE_good h24 l d false hl hd
      split
      · rename_i hq
        rcases h4 with h | ⟨_, h⟩
        · unfold passE at hq; rw [h] at hq; cases hq
        · exact ih g _ h3 (by unfold passE; omega) (by unfold passE; omega)
      · rfl
def lens (l : List Edg) (d : List Int) : List Int := lensF l (muN d + 1) d
theorem lens_step {n : Nat} (h24 : n ≤ 24) (l : List Edg) (hl : ∀ e ∈ l, EdgOk n e) (d : List Int) (hd : DOk n d) : lens l d = if (passE l d).2 = true then lens l (passE l d).1 else (passE l d).1 := by
  unfold lens
  conv => lhs; unfold lensF
  obtain ⟨h3, h4⟩ := foldE_good h24 l d false hl hd
  split
  · rename_i hq
    rcases h4 with h | ⟨_, h⟩
    · unfold passE at hq; rw [h] at hq; cases hq
    · exact lensF_stable h24 l hl _ _ _ h3 (by unfold passE; omega) (by omega)
  · rfl
/-- The list with which the passes begin. -/
def len0 (n : Nat) (s : Nat) : List Int := (List.replicate n (-1)).set s 0
theorem len0_ok {n s : Nat} (hs : s < n) : DOk n (len0 n s) := by
  refine ⟨by simp [len0], fun x hx => ?_⟩
  unfold len0 at hx
  rcases List.mem_or_eq_of_mem_set hx with h | h
  · left; rw [List.eq_of_mem_replicate h]; decide
  · right
    have := finN_set (d := List.replicate n (-1)) (v := s) (y := 0) (x := -1) (by simp [hs]) (by decide)
    simp at this
    subst h
    unfold len0
    omega
/-- Whether the passes end in time. -/
def endF (l : List Edg) : Nat → List Int → Bool
  | 0, _ => false
  | f + 1, d => if (passE l d).2 = true then endF l f (passE l d).1 else true
theorem lensF_end (l : List Edg) : ∀ (f g : Nat) (d : List Int), endF l f d = true → f ≤ g → lensF l g d = lensF l f d := by
  intro f
  induction f with
  | zero => intro g d h _; cases h
  | succ f ih =>
    intro g d h hg
    cases g with
    | zero => omega
    | succ g =>
      unfold lensF
      unfold endF at h
      split
      · rename_i hq
        rw [if_pos hq] at h
        exact ih g _ h (by omega)
      · rfl
theorem lens_eval {n : Nat} (h24 : n ≤ 24) (l : List Edg) (hl : ∀ e ∈ l, EdgOk n e) (f : Nat) (d : List Int) (hd : DOk n d) (he : endF l f d = true) : lens l d = lensF l f d := by
  unfold lens
  rcases Nat.lt_or_ge (muN d) f with h | h
  · exact lensF_stable h24 l hl _ _ _ hd (Nat.lt_succ_self _) h
  · exact lensF_end l f _ d he (by omega)
end Go.Proofs.Ytplebibabcdipaa
namespace Go.Proofs.Ytplebibabcdipaa
open Go.RowKit

theorem infoIntL : (Try.prog.info? 3).map (fun i => (i.zero, i.size, i.bytes)) = some (some (.int .i64 0), 1, 8) := by kernel_rfl
theorem made_ints (n : Nat) : madeCells #[.int .i64 0] n = (ints (List.replicate n 0)).toArray := by
  apply Array.ext
  · simp [madeCells, ints]
  · intro i h1 h2
    simp [madeCells, ints, Nat.mod_one]
theorem ints_set (d : List Int) (v : Nat) (x : Int) : (ints d).toArray.setIfInBounds v (.int .i64 x) = (ints (d.set v x)).toArray := by
  unfold ints
  rw [List.setIfInBounds_toArray, List.map_set]
theorem Blk.int {w : World} {g : Nat} {d : List Int} {t : TypeId} (h : Blk w g (ints d).toArray t) {i : Nat} (hi : i < d.length) : w.cell? ⟨g, i, none⟩ = some (.int .i64 (d.getD i 0)) :=
  h.cell i (by simpa using ints_get hi)
/-- The numbers of a block. -/
def listAt (w : World) (g : Nat) : List Int := match w.heap[g]? with | some (.cells c _ _) => c.toList.map intOf | _ => []
theorem listAt_eq {w : World} {g : Nat} {d : List Int} {t : TypeId} (h : Blk w g (ints d).toArray t) : listAt w g = d := by
  unfold listAt Blk at *
  rw [h]
  simp [ints, intOf, Function.comp_def]
theorem fill_step (n k : Nat) (hk : k < n) : (List.replicate k (-1 : Int) ++ List.replicate (n - k) 0).set k (-1) = List.replicate (k + 1) (-1) ++ List.replicate (n - (k + 1)) 0 := by
  have e : n - k = (n - (k + 1)) + 1 := by omega
  rw [e, List.replicate_succ, List.set_append_right _ _ (by simp)]
  simp [List.replicate_succ']

theorem idx2_0 (a b c d : Int) (W : World) : (Instr.index 179 (.agg #[.int .i64 a, .int .i64 b, .int .i64 c, .int .i64 d]) (.int .i64 0)).run Try.prog W = .ok (.agg #[.int .i64 a, .int .i64 b]) W := by
  simp [Instr.index, run_underlying Try.underlying179, asIntOf, go_sem]
theorem idx2_1 (a b c d : Int) (W : World) : (Instr.index 179 (.agg #[.int .i64 a, .int .i64 b, .int .i64 c, .int .i64 d]) (.int .i64 1)).run Try.prog W = .ok (.agg #[.int .i64 c, .int .i64 d]) W := by
  simp [Instr.index, run_underlying Try.underlying179, asIntOf, go_sem]
def agN : Value → Nat
  | .bool true => 1
  | _ => 0
set_option maxHeartbeats 4000000 in
set_option maxRecDepth 100000 in
theorem lengths_c (n s : Nat) (es : List Edg) (ev : Value) (w : World) (h24 : n ≤ 24) (hs : s < n) (hes : ∀ e ∈ es, EdgOk n e) (hv : Reads w ev es.length (flat Edg.cells es)) :
    Calls Try.prog 85 #[.int .i64 n, ev, .int .i64 s] w fun e w' => ∃ lv, e = .returned lv ∧ Reads w' lv n (ints (lens es (len0 n s))) ∧ Below w.heap.size w w' := by
  obtain ⟨ea, ec, rfl⟩ := hv.slice
  obtain ⟨m, hM⟩ : ∃ m, es.length = m := ⟨_, rfl⟩
  have HM := Lib.hid hM
  rw [hM] at hv ⊢
  clear hM
  have HV := Lib.hid hv
  have hm0 : m ≤ 9223372036854775807 := by
    rcases hv with ⟨h, _⟩ | ⟨_, _, _, _, _, h, _⟩
    · omega
    · exact h
  clear hv
  have HES := Lib.hid hes
  have HST : Hid (∀ d, DOk n d → lens es d = if (passE es d).2 = true then lens es (passE es d).1 else (passE es d).1) := fun d hd => lens_step h24 es hes d hd
  have HPG : Hid (∀ d, DOk n d → DOk n (passE es d).1 ∧ (passE es d = (d, false) ∨ ((passE es d).2 = true ∧ muN (passE es d).1 < muN d))) := fun d hd => foldE_good h24 es d false hes hd
  obtain ⟨R, hR⟩ : ∃ R, lens es (len0 n s) = R := ⟨_, rfl⟩
  have HR0 := Lib.hid hR
  have HL0 : Hid (DOk n (len0 n s)) := len0_ok hs
  rw [hR]
  clear hR hes
  obtain ⟨i0, hi0, hz0, hz1, hz2⟩ := info_parts infoIntL
  have B1 : Hid (Below w.heap.size w (w.alloc (.cells (madeCells #[.int .i64 0] n) 3))) := belowA (Below.refl _ w) _
  have K1 : Hid (Blk (w.alloc (.cells (madeCells #[.int .i64 0] n) 3)) w.heap.size (ints (List.replicate n 0)).toArray 3) := by
    have := Blk.new w (madeCells #[.int .i64 0] n) 3
    show Blk _ _ _ _
    rw [← made_ints]; exact this
  go_enter Try.func85, Try.ntmps85
  go_wp2_with (at_make; refine wpList_make_row _ rfl _ _ 49 rfl 3 i0 (.int .i64 0) Try.underlying49 hi0 hz0 hz1 rfl .i64 .i64 n rfl rfl (by rw [hz2]; omega) (by omega) ?_)
  generalize w.alloc (.cells (madeCells #[.int .i64 0] n) 3) = W1 at *
  go_loopw [18] (fun i wr => ∃ k : Nat, k ≤ n ∧ i = .int .i64 k ∧ Hid (Blk wr w.heap.size (ints (List.replicate k (-1) ++ List.replicate (n - k) 0)).toArray 3) ∧ Hid (Below w.heap.size w wr)) (fun i _ => n - (intOf i).toNat)
  case atStart => exact ⟨0, Nat.zero_le _, rfl, by simpa using K1, B1⟩
  case round =>
    obtain ⟨k, hk, rfl, hkb, hbl⟩ := hrel
    by_cases hlt : k < n
    ·
      have zf := hkb.out.free k
      have z0 := hkb.out.int (i := k) (by simp; omega)
      have lz := hkb.out.lt
      go_wp2_with fail
      go_roundw
      case rel => exact ⟨k + 1, hlt, by go_num, by show Blk _ _ _ _; rw [← fill_step n k hlt, ← ints_set]; exact hkb.out.set k _, Below.setCell hbl.out (Nat.le_refl _) _⟩
      case measure => simp [intOf]; omega
    ·
      have hkn : n = k := by omega
      subst hkn
      have hk2 : Hid (Blk wr w.heap.size (ints (List.replicate n (-1))).toArray 3) := by show Blk _ _ _ _; have := hkb.out; simpa using this
      have zf := hk2.out.free s
      have lz := hk2.out.lt
      have K2 : Hid (Blk (wr.setCell ⟨w.heap.size, s, none⟩ (.int .i64 0)) w.heap.size (ints (len0 n s)).toArray 3) := by show Blk _ _ _ _; unfold len0; rw [← ints_set]; exact hk2.out.set s _
      have B2 : Hid (Below w.heap.size w (wr.setCell ⟨w.heap.size, s, none⟩ (.int .i64 0))) := Below.setCell hbl.out (Nat.le_refl _) _
      clear hkb hbl hk B1 K1
      have z0 := hk2.out.int (i := s) (by simp; exact hs)
      clear hk2
      go_wp2_with fail
      generalize wr.setCell ⟨w.heap.size, s, none⟩ (.int .i64 0) = W2 at *
      clear zf lz z0
      go_loopw [9] (fun ag wr => ∃ (q : Bool) (d : List Int), ag = .bool q ∧ Hid (DOk n d) ∧ Hid (if q = true then lens es d = R else d = R) ∧ Hid (Blk wr w.heap.size (ints d).toArray 3) ∧ Hid (Below w.heap.size w wr)) (fun ag wr => 2 * muN (listAt wr w.heap.size) + agN ag)
      case atStart => exact ⟨true, len0 n s, rfl, HL0, HR0, K2, B2⟩
      case round =>
        obtain ⟨q, d, rfl, hd, hlr, hkb, hbl⟩ := hrel
        cases q
        ·
          have HDR : Hid (d = R) := hlr.out
          have HKF := hkb
          clear hlr hkb
          go_wp2_with fail
          go_ret
          refine ⟨_, rfl, Or.inr ⟨_, 0, n, rfl, Nat.le_refl _, by omega, HKF.out.lt, fun j u hj => ?_⟩, hbl.out⟩
          rw [← HDR.out] at hj
          rw [Nat.zero_add]
          exact HKF.out.cell j (by simpa using hj)
        ·
          have HLR : Hid (lens es d = R) := hlr.out
          obtain ⟨P, hP⟩ : ∃ P, passE es d = P := ⟨_, rfl⟩
          have HP : Hid ((es.drop 0).foldl relaxE (d, false) = P) := hP
          have hstep := HST.out d hd.out
          have hpg := HPG.out d hd.out
          rw [hP] at hstep hpg
          rw [HLR.out] at hstep
          have HSTP := Lib.hid hstep
          have HPGP := Lib.hid hpg
          clear hP hstep hpg hlr HLR
          have HMU : Hid (listAt wr w.heap.size = d) := listAt_eq hkb.out
          go_wp2_with fail
          go_loopw [31, 9] (fun i ag w2 => ∃ (k : Nat) (d2 : List Int) (q2 : Bool), k ≤ m ∧ i = .int .i64 k ∧ ag = .bool q2 ∧ Hid (DOk n d2) ∧ Hid ((es.drop k).foldl relaxE (d2, q2) = P) ∧ Hid (Blk w2 w.heap.size (ints d2).toArray 3) ∧ Hid (Below w.heap.size w w2)) (fun i _ _ => m - (intOf i).toNat)
          case atStart => exact ⟨0, d, false, Nat.zero_le _, rfl, rfl, hd, HP, hkb, hbl⟩
          case round =>
            clear hkb hbl
            rename_i wr0
            obtain ⟨k, d2, q2, hk, rfl, rfl, hd2, hf2, hkb, hbl⟩ := hrel
            by_cases hlt : k < m
            ·
              have hlk : k < es.length := by rw [HM.out]; exact hlt
              obtain ⟨x, hx⟩ : ∃ x, es[k]? = some x := ⟨_, List.getElem?_eq_getElem hlk⟩
              obtain ⟨eg, eoff, ecap', evv, _, _, hegl, hec⟩ := (HV.out.below hbl.out).addr (by omega)
              simp only [Value.slice.injEq] at evv
              obtain ⟨rfl, _, rfl⟩ := evv
              obtain ⟨c0, c1, c2⟩ := edg_cells hec hx
              have hok := HES.out x (List.mem_of_getElem? hx)
              have hfd : (es.drop k).foldl relaxE (d2, q2) = (es.drop (k + 1)).foldl relaxE (relaxE (d2, q2) x) := by
                obtain ⟨hk', hx'⟩ := List.getElem?_eq_some_iff.1 hx
                rw [List.drop_eq_getElem_cons hk', hx']; rfl
              obtain ⟨a, b, len⟩ := x
              obtain ⟨a0, a1, b0, b1, hl0, hl1⟩ := hok
              simp only at a0 a1 b0 b1 hl0 hl1 c0 c1 c2
              obtain ⟨u, rfl⟩ := Int.eq_ofNat_of_zero_le a0
              obtain ⟨v, rfl⟩ := Int.eq_ofNat_of_zero_le b0
              have hu : u < n := by omega
              have hv : v < n := by omega
              obtain ⟨S1, hS1⟩ : ∃ S1, relax (d2, q2) u v len = S1 := ⟨_, rfl⟩
              obtain ⟨S2, hS2⟩ : ∃ S2, relax S1 v u len = S2 := ⟨_, rfl⟩
              have HS1 := Lib.hid hS1
              have HS2 := Lib.hid hS2
              have HFD : Hid ((es.drop (k + 1)).foldl relaxE S2 = P) := by show _ = _; rw [← hf2.out, hfd, ← hS2, ← hS1]; rfl
              clear hfd hS1 hS2 hf2 hx hec a0 a1 b0 b1
              have hek : Hid (Blk (wr.alloc (.cells #[.int .i64 u, .int .i64 v, .int .i64 len] 178)) wr.heap.size #[.int .i64 u, .int .i64 v, .int .i64 len] 178) := Blk.new _ _ _
              have hkb1 : Hid (Blk (wr.alloc (.cells #[.int .i64 u, .int .i64 v, .int .i64 len] 178)) w.heap.size (ints d2).toArray 3) := hkb.out.alloc _
              have hbl1 : Hid (Below w.heap.size w (wr.alloc (.cells #[.int .i64 u, .int .i64 v, .int .i64 len] 178))) := belowA hbl.out _
              have heb : wr.heap.size ≠ w.heap.size := by have := hkb.out.lt; omega
              have hd3 := hd2
              clear hkb hbl
              have x0 := hek.out.cell 0 rfl
              have x1 := hek.out.cell 1 rfl
              have x2 := hek.out.cell 2 rfl
              go_wp2_with fail
              generalize wr.alloc (.cells #[.int .i64 u, .int .i64 v, .int .i64 len] 178) = W5 at *
              generalize heb0 : wr.heap.size = eb at *
              go_loopw [46, 9] (fun i ag wr => ∃ (j : Nat) (d3 : List Int) (q3 : Bool), i = .int .i64 j ∧ ag = .bool q3 ∧ Hid ((j = 0 ∧ (d3, q3) = (d2, q2)) ∨ (j = 1 ∧ (d3, q3) = S1) ∨ (j = 2 ∧ (d3, q3) = S2)) ∧ Hid (DOk n d3) ∧ Hid (Blk wr w.heap.size (ints d3).toArray 3) ∧ Hid (Blk wr eb #[.int .i64 u, .int .i64 v, .int .i64 len] 178) ∧ Hid (Below w.heap.size w wr)) (fun i _ _ => 2 - (intOf i).toNat)
              case atStart => exact ⟨0, d2, q2, rfl, rfl, Or.inl ⟨rfl, rfl⟩, hd2, hkb1, hek, hbl1⟩
              case round =>
                clear hkb1 hek hbl1 x0 x1 x2 c0 c1 c2 heb0
                obtain ⟨j, d3, q3, rfl, rfl, hj, hd3, hbk, hek, hb3⟩ := hrel
                rcases hj.out with ⟨rfl, h⟩ | ⟨rfl, h⟩ | ⟨rfl, h⟩
                ·
                  have HSD : Hid (∀ (j : Nat), j = 1 → ∀ z, relax (d3, q3) u v len = z → (j = 0 ∧ z = (d2, q2)) ∨ (j = 1 ∧ z = S1) ∨ (j = 2 ∧ z = S2)) := fun j hj z hz => Or.inr (Or.inl ⟨hj, by rw [← HS1.out, ← h]; exact hz.symm⟩)
                  have HH := Lib.hid h
                  clear h
                  have hix := fun W => idx2_0 u v v u W
                  have hgood := relax_good (q := q3) hd3.out.1 h24 hd3.out.2 hu hv hl0 hl1
                  have HG : Hid (DOk n (relax (d3, q3) u v len).1) := ⟨hgood.1, hgood.2.1⟩
                  have z0 := hbk.out.int (i := u) (by rw [hd3.out.1]; exact hu)
                  have z1 := hbk.out.int (i := v) (by rw [hd3.out.1]; exact hv)
                  have hbnd : d3.getD u 0 < 0 ∨ d3.getD u 0 ≤ 240000000 := by
                    have hm := hd3.out.2 (d3.getD u 0) (by rw [List.getD_eq_getElem?_getD, List.getElem?_eq_getElem (by rw [hd3.out.1]; exact hu)]; exact List.getElem_mem _)
                    have hf := finN_le d3
                    rw [hd3.out.1] at hf
                    omega
                  have HRD : Hid (relax (d3, q3) u v len = if hitB (d3.getD u 0) (d3.getD v 0) len = true then (d3.set v (d3.getD u 0 + len), true) else (d3, q3)) := rfl
                  clear hgood
                  obtain ⟨X, hX⟩ : ∃ X, d3.getD u 0 = X := ⟨_, rfl⟩
                  obtain ⟨Y, hY⟩ : ∃ Y, d3.getD v 0 = Y := ⟨_, rfl⟩
                  have HX := Lib.hid hX
                  rw [hX] at z0 hbnd HRD
                  rw [hY] at z1 HRD
                  clear hX hY
                  have lg := hbk.out.lt
                  have le := hek.out.lt
                  have e0 := hek.out.cell 0 rfl
                  have e1 := hek.out.cell 1 rfl
                  have e2 := hek.out.cell 2 rfl
                  cases hh : hitB X Y len
                  ·
                    have HRX : Hid (relax (d3, q3) u v len = (d3, q3)) := HRD.out.trans (if_neg (by rw [hh]; decide))
                    unfold hitB at hh
                    rw [HRX.out] at HG
                    clear HRD
                    cases hc1 : decide (0 ≤ X)
                    ·
                      clear hh
                      go_wp2_with fail
                      refine wp_region_quiet_lit (by kernel_rfl) (by kernel_rfl) ?_
                      repeat (first | go_big_quiet_step (fail) | (go_big_quiet_want; go_simp; go_big_quiet_on))
                      refine wpQuiet_nil ?_
                      intro _ hw'
                      obtain ⟨nq, hw''⟩ := hw'
                      subst hw''
                      go_wp2_with fail
                      go_roundw
                      case rel => exact ⟨0 + 1, d3, q3, by go_num, rfl, HSD.out _ rfl _ HRX.out, HG, (hbk.out.alloc _).drewN nq, (hek.out.alloc _).drewN nq, below_drewN (belowA hb3.out _) nq⟩
                      case measure => simp [intOf]
                    ·
                      rw [hc1] at hh
                      simp only [Bool.true_and, Bool.or_eq_false_iff] at hh
                      obtain ⟨hc2, hc3⟩ := hh
                      have hw := IntWalk.i64_in (X + len) (by have := of_decide_eq_true hc1; omega)
                      go_wp2_with fail
                      refine wp_region_quiet_lit (by kernel_rfl) (by kernel_rfl) ?_
                      repeat (first | go_big_quiet_step (fail) | (go_big_quiet_want; go_simp; go_big_quiet_on))
                      refine wpQuiet_nil ?_
                      intro _ hw'
                      obtain ⟨nq, hw''⟩ := hw'
                      subst hw''
                      go_wp2_with fail
                      go_roundw
                      case rel => exact ⟨0 + 1, d3, q3, by go_num, rfl, HSD.out _ rfl _ HRX.out, HG, (hbk.out.alloc _).drewN nq, (hek.out.alloc _).drewN nq, below_drewN (belowA hb3.out _) nq⟩
                      case measure => simp [intOf]
                  ·
                    have HRX : Hid (relax (d3, q3) u v len = (d3.set v (X + len), true)) := HRD.out.trans (if_pos hh)
                    unfold hitB at hh
                    rw [HRX.out] at HG
                    clear HRD
                    simp only [Bool.and_eq_true] at hh
                    obtain ⟨hc1, hh⟩ := hh
                    have hw := IntWalk.i64_in (X + len) (by have := of_decide_eq_true hc1; omega)
                    cases hc2 : decide (Y < 0)
                    ·
                      rw [hc2] at hh
                      simp only [Bool.false_or] at hh
                      go_wp2_with fail
                      refine wp_region_quiet_lit (by kernel_rfl) (by kernel_rfl) ?_
                      repeat (first | go_big_quiet_step (fail) | (go_big_quiet_want; go_simp; go_big_quiet_on))
                      refine wpQuiet_nil ?_
                      intro _ hw'
                      obtain ⟨nq, hw''⟩ := hw'
                      subst hw''
                      go_wp2_with fail
                      have K4 := (hbk.out.alloc (.cells #[.int .i64 u, .int .i64 v] 71)).drewN nq
                      have E4 := (hek.out.alloc (.cells #[.int .i64 u, .int .i64 v] 71)).drewN nq
                      have X4 := (Blk.new wr #[.int .i64 u, .int .i64 v] 71).drewN nq
                      have B4 := Lib.hid (below_drewN (belowA hb3.out (.cells #[.int .i64 u, .int .i64 v] 71)) nq)
                      generalize (wr.alloc (.cells #[.int .i64 u, .int .i64 v] 71)).drewN nq = W4 at *
                      have y0 := K4.int (i := u) (by rw [hd3.out.1]; assumption)
                      have y1 := K4.free v
                      have y5 := K4.int (i := v) (by rw [hd3.out.1]; assumption)
                      have y2 := E4.cell 2 rfl
                      have y3 := X4.cell 0 rfl
                      have y4 := X4.cell 1 rfl
                      rw [HX.out] at y0
                      have KS : Hid (Blk (W4.drew.setCell ⟨w.heap.size, v, none⟩ (.int .i64 (X + len))) w.heap.size (ints (d3.set v (X + len))).toArray 3) := by show Blk _ _ _ _; rw [← ints_set]; exact K4.drew.set v _
                      have ES : Hid (Blk (W4.drew.setCell ⟨w.heap.size, v, none⟩ (.int .i64 (X + len))) eb #[.int .i64 u, .int .i64 v, .int .i64 len] 178) := E4.drew.setOther ⟨w.heap.size, v, none⟩ heb _
                      have BS : Hid (Below w.heap.size w (W4.drew.setCell ⟨w.heap.size, v, none⟩ (.int .i64 (X + len)))) := Below.setCell (w := W4.drew) ⟨B4.out.os, B4.out.tape, B4.out.output, B4.out.size, B4.out.block⟩ (Nat.le_refl _) _
                      have lg := K4.lt
                      go_region
                      go_wp2_with fail
                      go_roundw
                      case rel => exact ⟨0 + 1, _, _, by go_num, rfl, HSD.out _ rfl _ HRX.out, HG, KS, ES, BS⟩
                      case measure => simp [intOf]
                    ·
                      clear hh
                      go_wp2_with fail
                      refine wp_region_quiet_lit (by kernel_rfl) (by kernel_rfl) ?_
                      repeat (first | go_big_quiet_step (fail) | (go_big_quiet_want; go_simp; go_big_quiet_on))
                      refine wpQuiet_nil ?_
                      intro _ hw'
                      obtain ⟨nq, hw''⟩ := hw'
                      subst hw''
                      go_wp2_with fail
                      have K4 := (hbk.out.alloc (.cells #[.int .i64 u, .int .i64 v] 71)).drewN nq
                      have E4 := (hek.out.alloc (.cells #[.int .i64 u, .int .i64 v] 71)).drewN nq
                      have X4 := (Blk.new wr #[.int .i64 u, .int .i64 v] 71).drewN nq
                      have B4 := Lib.hid (below_drewN (belowA hb3.out (.cells #[.int .i64 u, .int .i64 v] 71)) nq)
                      generalize (wr.alloc (.cells #[.int .i64 u, .int .i64 v] 71)).drewN nq = W4 at *
                      have y0 := K4.int (i := u) (by rw [hd3.out.1]; assumption)
                      have y1 := K4.free v
                      have y5 := K4.int (i := v) (by rw [hd3.out.1]; assumption)
                      have y2 := E4.cell 2 rfl
                      have y3 := X4.cell 0 rfl
                      have y4 := X4.cell 1 rfl
                      rw [HX.out] at y0
                      have KS : Hid (Blk (W4.drew.setCell ⟨w.heap.size, v, none⟩ (.int .i64 (X + len))) w.heap.size (ints (d3.set v (X + len))).toArray 3) := by show Blk _ _ _ _; rw [← ints_set]; exact K4.drew.set v _
                      have ES : Hid (Blk (W4.drew.setCell ⟨w.heap.size, v, none⟩ (.int .i64 (X + len))) eb #[.int .i64 u, .int .i64 v, .int .i64 len] 178) := E4.drew.setOther ⟨w.heap.size, v, none⟩ heb _
                      have BS : Hid (Below w.heap.size w (W4.drew.setCell ⟨w.heap.size, v, none⟩ (.int .i64 (X + len)))) := Below.setCell (w := W4.drew) ⟨B4.out.os, B4.out.tape, B4.out.output, B4.out.size, B4.out.block⟩ (Nat.le_refl _) _
                      have lg := K4.lt
                      go_region
                      go_wp2_with fail
                      go_roundw
                      case rel => exact ⟨0 + 1, _, _, by go_num, rfl, HSD.out _ rfl _ HRX.out, HG, KS, ES, BS⟩
                      case measure => simp [intOf]
                ·
                  have HSD : Hid (∀ (j : Nat), j = 2 → ∀ z, relax (d3, q3) v u len = z → (j = 0 ∧ z = (d2, q2)) ∨ (j = 1 ∧ z = S1) ∨ (j = 2 ∧ z = S2)) := fun j hj z hz => Or.inr (Or.inr ⟨hj, by rw [← HS2.out, ← h]; exact hz.symm⟩)
                  have HH := Lib.hid h
                  clear h
                  have hix := fun W => idx2_1 u v v u W
                  have hgood := relax_good (q := q3) hd3.out.1 h24 hd3.out.2 hv hu hl0 hl1
                  have HG : Hid (DOk n (relax (d3, q3) v u len).1) := ⟨hgood.1, hgood.2.1⟩
                  have z0 := hbk.out.int (i := v) (by rw [hd3.out.1]; exact hv)
                  have z1 := hbk.out.int (i := u) (by rw [hd3.out.1]; exact hu)
                  have hbnd : d3.getD v 0 < 0 ∨ d3.getD v 0 ≤ 240000000 := by
                    have hm := hd3.out.2 (d3.getD v 0) (by rw [List.getD_eq_getElem?_getD, List.getElem?_eq_getElem (by rw [hd3.out.1]; exact hv)]; exact List.getElem_mem _)
                    have hf := finN_le d3
                    rw [hd3.out.1] at hf
                    omega
                  have HRD : Hid (relax (d3, q3) v u len = if hitB (d3.getD v 0) (d3.getD u 0) len = true then (d3.set u (d3.getD v 0 + len), true) else (d3, q3)) := rfl
                  clear hgood
                  obtain ⟨X, hX⟩ : ∃ X, d3.getD v 0 = X := ⟨_, rfl⟩
                  obtain ⟨Y, hY⟩ : ∃ Y, d3.getD u 0 = Y := ⟨_, rfl⟩
                  have HX := Lib.hid hX
                  rw [hX] at z0 hbnd HRD
                  rw [hY] at z1 HRD
                  clear hX hY
                  have lg := hbk.out.lt
                  have le := hek.out.lt
                  have e0 := hek.out.cell 0 rfl
                  have e1 := hek.out.cell 1 rfl
                  have e2 := hek.out.cell 2 rfl
                  cases hh : hitB X Y len
                  ·
                    have HRX : Hid (relax (d3, q3) v u len = (d3, q3)) := HRD.out.trans (if_neg (by rw [hh]; decide))
                    unfold hitB at hh
                    rw [HRX.out] at HG
                    clear HRD
                    cases hc1 : decide (0 ≤ X)
                    ·
                      clear hh
                      go_wp2_with fail
                      refine wp_region_quiet_lit (by kernel_rfl) (by kernel_rfl) ?_
                      repeat (first | go_big_quiet_step (fail) | (go_big_quiet_want; go_simp; go_big_quiet_on))
                      refine wpQuiet_nil ?_
                      intro _ hw'
                      obtain ⟨nq, hw''⟩ := hw'
                      subst hw''
                      go_wp2_with fail
                      go_roundw
                      case rel => exact ⟨1 + 1, d3, q3, by go_num, rfl, HSD.out _ rfl _ HRX.out, HG, (hbk.out.alloc _).drewN nq, (hek.out.alloc _).drewN nq, below_drewN (belowA hb3.out _) nq⟩
                      case measure => simp [intOf]
                    ·
                      rw [hc1] at hh
                      simp only [Bool.true_and, Bool.or_eq_false_iff] at hh
                      obtain ⟨hc2, hc3⟩ := hh
                      have hw := IntWalk.i64_in (X + len) (by have := of_decide_eq_true hc1; omega)
                      go_wp2_with fail
                      refine wp_region_quiet_lit (by kernel_rfl) (by kernel_rfl) ?_
                      repeat (first | go_big_quiet_step (fail) | (go_big_quiet_want; go_simp; go_big_quiet_on))
                      refine wpQuiet_nil ?_
                      intro _ hw'
                      obtain ⟨nq, hw''⟩ := hw'
                      subst hw''
                      go_wp2_with fail
                      go_roundw
                      case rel => exact ⟨1 + 1, d3, q3, by go_num, rfl, HSD.out _ rfl _ HRX.out, HG, (hbk.out.alloc _).drewN nq, (hek.out.alloc _).drewN nq, below_drewN (belowA hb3.out _) nq⟩
                      case measure => simp [intOf]
                  ·
                    have HRX : Hid (relax (d3, q3) v u len = (d3.set u (X + len), true)) := HRD.out.trans (if_pos hh)
                    unfold hitB at hh
                    rw [HRX.out] at HG
                    clear HRD
                    simp only [Bool.and_eq_true] at hh
                    obtain ⟨hc1, hh⟩ := hh
                    have hw := IntWalk.i64_in (X + len) (by have := of_decide_eq_true hc1; omega)
                    cases hc2 : decide (Y < 0)
                    ·
                      rw [hc2] at hh
                      simp only [Bool.false_or] at hh
                      go_wp2_with fail
                      refine wp_region_quiet_lit (by kernel_rfl) (by kernel_rfl) ?_
                      repeat (first | go_big_quiet_step (fail) | (go_big_quiet_want; go_simp; go_big_quiet_on))
                      refine wpQuiet_nil ?_
                      intro _ hw'
                      obtain ⟨nq, hw''⟩ := hw'
                      subst hw''
                      go_wp2_with fail
                      have K4 := (hbk.out.alloc (.cells #[.int .i64 v, .int .i64 u] 71)).drewN nq
                      have E4 := (hek.out.alloc (.cells #[.int .i64 v, .int .i64 u] 71)).drewN nq
                      have X4 := (Blk.new wr #[.int .i64 v, .int .i64 u] 71).drewN nq
                      have B4 := Lib.hid (below_drewN (belowA hb3.out (.cells #[.int .i64 v, .int .i64 u] 71)) nq)
                      generalize (wr.alloc (.cells #[.int .i64 v, .int .i64 u] 71)).drewN nq = W4 at *
                      have y0 := K4.int (i := v) (by rw [hd3.out.1]; assumption)
                      have y1 := K4.free u
                      have y5 := K4.int (i := u) (by rw [hd3.out.1]; assumption)
                      have y2 := E4.cell 2 rfl
                      have y3 := X4.cell 0 rfl
                      have y4 := X4.cell 1 rfl
                      rw [HX.out] at y0
                      have KS : Hid (Blk (W4.drew.setCell ⟨w.heap.size, u, none⟩ (.int .i64 (X + len))) w.heap.size (ints (d3.set u (X + len))).toArray 3) := by show Blk _ _ _ _; rw [← ints_set]; exact K4.drew.set u _
                      have ES : Hid (Blk (W4.drew.setCell ⟨w.heap.size, u, none⟩ (.int .i64 (X + len))) eb #[.int .i64 u, .int .i64 v, .int .i64 len] 178) := E4.drew.setOther ⟨w.heap.size, u, none⟩ heb _
                      have BS : Hid (Below w.heap.size w (W4.drew.setCell ⟨w.heap.size, u, none⟩ (.int .i64 (X + len)))) := Below.setCell (w := W4.drew) ⟨B4.out.os, B4.out.tape, B4.out.output, B4.out.size, B4.out.block⟩ (Nat.le_refl _) _
                      have lg := K4.lt
                      go_region
                      go_wp2_with fail
                      go_roundw
                      case rel => exact ⟨1 + 1, _, _, by go_num, rfl, HSD.out _ rfl _ HRX.out, HG, KS, ES, BS⟩
                      case measure => simp [intOf]
                    ·
                      clear hh
                      go_wp2_with fail
                      refine wp_region_quiet_lit (by kernel_rfl) (by kernel_rfl) ?_
                      repeat (first | go_big_quiet_step (fail) | (go_big_quiet_want; go_simp; go_big_quiet_on))
                      refine wpQuiet_nil ?_
                      intro _ hw'
                      obtain ⟨nq, hw''⟩ := hw'
                      subst hw''
                      go_wp2_with fail
                      have K4 := (hbk.out.alloc (.cells #[.int .i64 v, .int .i64 u] 71)).drewN nq
                      have E4 := (hek.out.alloc (.cells #[.int .i64 v, .int .i64 u] 71)).drewN nq
                      have X4 := (Blk.new wr #[.int .i64 v, .int .i64 u] 71).drewN nq
                      have B4 := Lib.hid (below_drewN (belowA hb3.out (.cells #[.int .i64 v, .int .i64 u] 71)) nq)
                      generalize (wr.alloc (.cells #[.int .i64 v, .int .i64 u] 71)).drewN nq = W4 at *
                      have y0 := K4.int (i := v) (by rw [hd3.out.1]; assumption)
                      have y1 := K4.free u
                      have y5 := K4.int (i := u) (by rw [hd3.out.1]; assumption)
                      have y2 := E4.cell 2 rfl
                      have y3 := X4.cell 0 rfl
                      have y4 := X4.cell 1 rfl
                      rw [HX.out] at y0
                      have KS : Hid (Blk (W4.drew.setCell ⟨w.heap.size, u, none⟩ (.int .i64 (X + len))) w.heap.size (ints (d3.set u (X + len))).toArray 3) := by show Blk _ _ _ _; rw [← ints_set]; exact K4.drew.set u _
                      have ES : Hid (Blk (W4.drew.setCell ⟨w.heap.size, u, none⟩ (.int .i64 (X + len))) eb #[.int .i64 u, .int .i64 v, .int .i64 len] 178) := E4.drew.setOther ⟨w.heap.size, u, none⟩ heb _
                      have BS : Hid (Below w.heap.size w (W4.drew.setCell ⟨w.heap.size, u, none⟩ (.int .i64 (X + len)))) := Below.setCell (w := W4.drew) ⟨B4.out.os, B4.out.tape, B4.out.output, B4.out.size, B4.out.block⟩ (Nat.le_refl _) _
                      have lg := K4.lt
                      go_region
                      go_wp2_with fail
                      go_roundw
                      case rel => exact ⟨1 + 1, _, _, by go_num, rfl, HSD.out _ rfl _ HRX.out, HG, KS, ES, BS⟩
                      case measure => simp [intOf]
                ·
                  have HFD2 := HFD.out
                  rw [← h] at HFD2
                  have HFE := Lib.hid HFD2
                  clear h HFD2
                  go_wp2_with fail
                  go_roundw
                  case rel => exact ⟨k + 1, d3, q3, hlt, by go_num, rfl, hd3, HFE, hbk, hb3⟩
                  case measure => simp [intOf]; omega
            ·
              have hkn : es.drop k = [] := List.drop_eq_nil_of_le (by rw [HM.out]; omega)
              have HF : Hid ((d2, q2) = P) := by show _ = _; rw [← hf2.out, hkn]; rfl
              clear hkn hf2
              go_wp2_with fail
              go_roundw
              case rel =>
                refine ⟨q2, d2, rfl, hd2, ?_, hkb, hbl⟩
                have h := HSTP.out
                rw [← HF.out] at h
                cases q2
                · exact h.symm
                · exact h.symm
              case measure =>
                rw [listAt_eq hkb.out]
                have h := HPGP.out
                rw [← HF.out] at h
                rw [HMU.out]
                rcases h.2 with h | ⟨h, h'⟩
                · cases h; simp [agN]
                · cases h; simp [agN]; simp at h'; omega
end Go.Proofs.Ytplebibabcdipaa
namespace Go.Proofs.Ytplebibabcdipaa
open Go.RowKit

structure Net.Ok (n : Net) : Prop where
  nn : n.nodes.length ≤ 24
  ns : n.sws.length ≤ 32
  nb : n.brs.length ≤ 24
  sw : ∀ s ∈ n.sws, hasS s.a n.nodes = true ∧ hasS s.b n.nodes = true
  br : ∀ b ∈ n.brs, hasS b.fr n.nodes = true ∧ hasS b.to n.nodes = true ∧ 1 ≤ b.x ∧ b.x ≤ 10000
theorem devAll_ok {α : Type} {nl : List ByteArray} {name : α → ByteArray} {ends : α → List ByteArray} {test : α → Int} : ∀ (l : List α) (met : List ByteArray), (devAll nl name ends test l met).1 = 0 →
    ∀ x ∈ l, (∃ met', deviceE nl met' (name x) (ends x) = 0) ∧ test x = 0 := by
  intro l
  induction l with
  | nil => intro met _ x hx; cases hx
  | cons y ys ih =>
    intro met h x hx
    unfold devAll at h
    split at h
    · rename_i hd; exact absurd h hd
    · rename_i hd
      split at h
      · rename_i ht; exact absurd h ht
      · rename_i ht
        rcases List.mem_cons.1 hx with rfl | hx
        · exact ⟨⟨met, by simpa using hd⟩, by simpa using ht⟩
        · exact ih _ h x hx
theorem device_ends {nl met ls : List ByteArray} {s : ByteArray} (h : deviceE nl met s ls = 0) : ∀ x ∈ ls, hasS x nl = true := by
  unfold deviceE at h
  split at h
  · rename_i hd; exact absurd h hd
  · unfold endsE at h
    split at h
    · rename_i ha; exact fun x hx => List.all_eq_true.1 ha x hx
    · cases h
theorem netE_ok {n : Net} (h : netE n = 0) : n.Ok := by
  unfold netE at h
  split at h
  · cases h
  · rename_i hz
    have hs : SizesOk n.nodes.length n.sws.length n.brs.length n.gens.length n.loads.length n.stores.length := by
      unfold sizesE at hz
      split at hz
      · assumption
      · simp at hz
    simp only at h
    split at h
    · rename_i ha; exact absurd h ha
    · split at h
      · rename_i ha; exact absurd h ha
      · rename_i hsw
        split at h
        · rename_i ha; exact absurd h ha
        · rename_i hbr
          refine ⟨hs.1, hs.2.1, hs.2.2.1, fun s hs => ?_, fun b hb => ?_⟩
          · obtain ⟨⟨m, h1⟩, _⟩ := devAll_ok n.sws _ (by simpa using hsw) s hs
            have := device_ends h1
            exact ⟨this s.a (by simp), this s.b (by simp)⟩
          · obtain ⟨⟨m, h1⟩, h2⟩ := devAll_ok n.brs _ (by simpa using hbr) b hb
            have := device_ends h1
            refine ⟨this b.fr (by simp), this b.to (by simp), ?_⟩
            unfold NBr.test at h2
            split at h2
            · cases h2
            · unfold brE at h2
              split at h2
              · rename_i hq
                unfold brB withinB at hq
                simp only [Bool.and_eq_true, decide_eq_true_eq] at hq
                exact hq.1
              · cases h2
theorem idxS_lt {s : ByteArray} : ∀ (l : List ByteArray) (i : Int), hasS s l = true → i ≤ idxS s l i ∧ idxS s l i < i + l.length := by
  intro l
  induction l with
  | nil => intro i h; simp [hasS] at h
  | cons x xs ih =>
    intro i h
    unfold idxS
    split
    · simp; omega
    · rename_i hp
      unfold hasS at h
      rw [List.any_cons] at h
      have h' : hasS s xs = true := by unfold hasS; simpa [hp] using h
      have := ih (i + 1) h'
      simp; omega
theorem idxS_nat {s : ByteArray} {l : List ByteArray} (h : hasS s l = true) : ∃ k : Nat, idxS s l 0 = k ∧ k < l.length := by
  have := idxS_lt l 0 h
  exact ⟨(idxS s l 0).toNat, by omega, by omega⟩
theorem edgesR_ok {n : Net} (h : n.Ok) (out : List Int) : ∀ e ∈ edgesR n out, EdgOk n.nodes.length e := by
  have h1 : ∀ l : List NSw, (∀ s ∈ l, s ∈ n.sws) → ∀ e ∈ swEdges n.nodes l, EdgOk n.nodes.length e := by
    intro l
    induction l with
    | nil => intro _ e he; cases he
    | cons x xs ih =>
      intro hl e he
      unfold swEdges at he
      have ih' := ih (fun s hs => hl s (List.mem_cons_of_mem _ hs))
      split at he
      · exact ih' e he
      · rcases List.mem_cons.1 he with rfl | he
        · have hs := h.sw x (hl x List.mem_cons_self)
          have i1 := idxS_lt n.nodes 0 hs.1
          have i2 := idxS_lt n.nodes 0 hs.2
          unfold EdgOk
          simp only
          omega
        · exact ih' e he
  have h2 : ∀ (l : List NBr) (k : Nat), (∀ s ∈ l, s ∈ n.brs) → ∀ e ∈ brEdges n.nodes out l k, EdgOk n.nodes.length e := by
    intro l
    induction l with
    | nil => intro k _ e he; cases he
    | cons x xs ih =>
      intro k hl e he
      unfold brEdges at he
      have ih' := ih (k + 1) (fun s hs => hl s (List.mem_cons_of_mem _ hs))
      split at he
      · exact ih' e he
      · rcases List.mem_cons.1 he with rfl | he
        · have hs := h.br x (hl x List.mem_cons_self)
          have i1 := idxS_lt n.nodes 0 hs.1
          have i2 := idxS_lt n.nodes 0 hs.2.1
          unfold EdgOk
          simp only
          omega
        · exact ih' e he
  intro e he
  unfold edgesR at he
  rcases List.mem_append.1 he with h' | h'
  · exact h1 _ (fun _ h => h) e h'
  · exact h2 _ _ (fun _ h => h) e h'

theorem lensF_ok {n : Nat} (h24 : n ≤ 24) (l : List Edg) (hl : ∀ e ∈ l, EdgOk n e) : ∀ (f : Nat) (d : List Int), DOk n d → DOk n (lensF l f d) := by
  intro f
  induction f with
  | zero => intro d hd; exact hd
  | succ f ih =>
    intro d hd
    have h := (foldE_good h24 l d false hl hd).1
    unfold lensF
    split
    · exact ih _ h
    · exact h
theorem lens_ok {n : Nat} (h24 : n ≤ 24) (l : List Edg) (hl : ∀ e ∈ l, EdgOk n e) (d : List Int) (hd : DOk n d) : DOk n (lens l d) := lensF_ok h24 l hl _ d hd
theorem DOk.bound {n : Nat} {d : List Int} (h24 : n ≤ 24) (h : DOk n d) (i : Nat) (hi : i < n) : d.getD i 0 < 0 ∨ d.getD i 0 ≤ 240000000 := by
  have hm := h.2 (d.getD i 0) (by rw [List.getD_eq_getElem?_getD, List.getElem?_eq_getElem (by rw [h.1]; exact hi)]; exact List.getElem_mem _)
  have hf := finN_le d
  rw [h.1] at hf
  omega
/-- The end of a relay's branch at which it does not stand. -/
def otherR (node : ByteArray) (b : NBr) : ByteArray := if sameB node b.to = true then b.fr else b.to
/-- One end of the place's branch: whether the way over it is shorter. -/
def bestS (nl : List ByteArray) (d : List Int) (s : Int × Bool) (node : ByteArray) (rest : Int) : Int × Bool :=
  if 0 ≤ d.getD (idxS node nl 0).toNat 0 ∧ (s.2 = false ∨ d.getD (idxS node nl 0).toNat 0 + rest < s.1) then (d.getD (idxS node nl 0).toNat 0 + rest, true) else s
def lensR (n : Net) (node : ByteArray) (b : NBr) (k1 k2 : Int) : List Int := lens (edgesR n [k1, k2]) (len0 n.nodes.length (idxS (otherR node b) n.nodes 0).toNat)
/-- The distance of a place, and whether there is a way. -/
def distB (n : Net) (node : ByteArray) (b c : NBr) (k1 k2 part : Int) : Int × Bool :=
  if k1 = k2 then (if sameB node b.fr = true then (b.x * part, true) else (b.x * (1000 - part), true)) else
  let s := bestS n.nodes (lensR n node b k1 k2) (bestS n.nodes (lensR n node b k1 k2) (0, false) c.fr (c.x * part)) c.to (c.x * (1000 - part))
  (1000 * b.x + s.1, s.2)
def distR (n : Net) (r : ZRel) (p : Plc) : Int × Bool := distB n r.node (brOf n r.branch) (brOf n p.branch) (brAt n r.branch) (brAt n p.branch) p.part
end Go.Proofs.Ytplebibabcdipaa
namespace Go.Proofs.Ytplebibabcdipaa
open Go.RowKit

theorem ite_cases {c : Prop} [Decidable c] {a b : ByteArray} {nl : List ByteArray} (h1 : hasS a nl = true) (h2 : hasS b nl = true) : hasS (if c then a else b) nl = true := by
  split
  · exact h1
  · exact h2
set_option maxHeartbeats 8000000 in
set_option maxRecDepth 100000 in
theorem distance_c (x0 : NAddr) (n : Net) (node rbr pbr : ByteArray) (za : Option Addr) (zn zc : Nat) (part : Int) (k1 k2 : Nat) (b c : NBr) (w : World) (hr : NetR w x0 n) (hok : n.Ok)
    (hk1 : brAt n rbr = k1) (hb : n.brs[k1]? = some b) (hk2 : brAt n pbr = k2) (hc : n.brs[k2]? = some c) (hp0 : 0 ≤ part) (hp1 : part ≤ 1000) :
    Calls Try.prog 38 #[x0.val n, .agg #[.string node, .string rbr, .slice za zn zc], .agg #[.string pbr, .int .i64 part]] w fun e w' =>
      e = .returned (.tuple #[.int .i64 (distB n node b c k1 k2 part).1, .bool (distB n node b c k1 k2 part).2]) ∧ Below w.heap.size w w' := by
  have HBR : Hid (∀ nm W, Below w.heap.size w W → Calls Try.prog 36 #[x0.val n, .string nm] W fun e w' => e = .returned (.int .i64 (brAt n nm)) ∧ Below W.heap.size W w') := fun nm W hW => zbr_c x0 n nm W (hr.below hW)
  have HED : Hid (∀ out v W, Below w.heap.size w W → IVal W v out → Calls Try.prog 86 #[x0.val n, v] W fun e w' => ∃ lv, e = .returned lv ∧ Reads w' lv (edgesR n out).length (flat Edg.cells (edgesR n out)) ∧ Below W.heap.size W w') := fun out v W hW hv =>
    edges_c x0 n out v W (hr.below hW) hok.ns hok.nb (fun b hb => ⟨by have := (hok.br b hb).2.2.1; omega, (hok.br b hb).2.2.2⟩) hv
  have HLE : Hid (∀ (s : Nat) (ev : Value) (out : List Int) (W : World), s < n.nodes.length → Reads W ev (edgesR n out).length (flat Edg.cells (edgesR n out)) → Calls Try.prog 85 #[.int .i64 n.nodes.length, ev, .int .i64 s] W fun e w' => ∃ lv, e = .returned lv ∧ Reads w' lv n.nodes.length (ints (lens (edgesR n out) (len0 n.nodes.length s))) ∧ Below W.heap.size W w') := fun s ev out W hs hv =>
    lengths_c n.nodes.length s (edgesR n out) ev W hok.nn hs (edgesR_ok hok out) hv
  have hob := hok.br b (List.mem_of_getElem? hb)
  have hoc := hok.br c (List.mem_of_getElem? hc)
  have HDD : Hid (distB n node b c k1 k2 part = if (k1 : Int) = k2 then (if sameB node b.fr = true then (b.x * part, true) else (b.x * (1000 - part), true)) else
    (1000 * b.x + (bestS n.nodes (lensR n node b k1 k2) (bestS n.nodes (lensR n node b k1 k2) (0, false) c.fr (c.x * part)) c.to (c.x * (1000 - part))).1, (bestS n.nodes (lensR n node b k1 k2) (bestS n.nodes (lensR n node b k1 k2) (0, false) c.fr (c.x * part)) c.to (c.x * (1000 - part))).2)) := rfl
  generalize distB n node b c k1 k2 part = DD at *
  have HB1 := Lib.hid (HBR.out rbr)
  have HB2 := Lib.hid (HBR.out pbr)
  rw [hk1] at HB1
  rw [hk2] at HB2
  have HLR : Hid (lensR n node b k1 k2 = lens (edgesR n [(k1 : Int), k2]) (len0 n.nodes.length (idxS (otherR node b) n.nodes 0).toNat)) := rfl
  have HED2 := Lib.hid (HED.out [(k1 : Int), k2])
  have HLE2 := Lib.hid (fun s ev W => HLE.out s ev [(k1 : Int), k2] W)
  have HLD : Hid (∀ s, s < n.nodes.length → DOk n.nodes.length (lens (edgesR n [(k1 : Int), k2]) (len0 n.nodes.length s))) := fun s hs => lens_ok hok.nn _ (edgesR_ok hok _) _ (len0_ok hs)
  have h24 := hok.nn
  have hR0 := hr.nodes
  have hR2 := hr.brs
  clear HBR HED HLE hok hr
  generalize lensR n node b k1 k2 = LL at *
  generalize edgesR n [(k1 : Int), k2] = ER at *
  obtain ⟨na, nc, sa, sc, ba, bc, ga, gc, la, lc, ta, tc⟩ := x0
  obtain ⟨nl, sws, brs, gens, loads, stores⟩ := n
  simp only [NAddr.val] at HB1 HB2 HED2 HLE2 HLD h24 hR0 hR2 hb hc hk1 hk2 HDD HLR hob hoc ⊢
  obtain ⟨nn, hN⟩ : ∃ n, nl.length = n := ⟨_, rfl⟩
  obtain ⟨bn, hB⟩ : ∃ n, brs.length = n := ⟨_, rfl⟩
  have HNN := Lib.hid hN
  have HBN := Lib.hid hB
  generalize sws.length = sn at *
  generalize gens.length = gn at *
  generalize loads.length = ln at *
  generalize stores.length = tn at *
  rw [hN] at HB1 HB2 HED2 HLE2 HLD h24 hR0 HLR
  rw [hB] at HB1 HB2 HED2 hR2
  rw [hN, hB]
  have hl1 : k1 < bn := by rw [← hB]; exact (List.getElem?_eq_some_iff.1 hb).1
  have hl2 : k2 < bn := by rw [← hB]; exact (List.getElem?_eq_some_iff.1 hc).1
  clear hN hB hk1 hk2
  have B1 := belowA (Below.refl w.heap.size w) (.cells #[.slice na nn nc, .slice sa sn sc, .slice ba bn bc, .slice ga gn gc, .slice la ln lc, .slice ta tn tc] 29)
  have K1 := Blk.new w #[.slice na nn nc, .slice sa sn sc, .slice ba bn bc, .slice ga gn gc, .slice la ln lc, .slice ta tn tc] 29
  generalize hW1 : w.alloc (.cells #[.slice na nn nc, .slice sa sn sc, .slice ba bn bc, .slice ga gn gc, .slice la ln lc, .slice ta tn tc] 29) = W1 at *
  have B2 := belowA B1 (.cells #[.string node, .string rbr, .slice za zn zc] 44)
  have K2 := K1.alloc (.cells #[.string node, .string rbr, .slice za zn zc] 44)
  have L2 := Blk.new W1 #[.string node, .string rbr, .slice za zn zc] 44
  generalize hW2 : W1.alloc (.cells #[.string node, .string rbr, .slice za zn zc] 44) = W2 at *
  have B3 := Lib.hid (belowA B2 (.cells #[.string pbr, .int .i64 part] 31))
  have K3 := K2.alloc (.cells #[.string pbr, .int .i64 part] 31)
  have L3 := L2.alloc (.cells #[.string pbr, .int .i64 part] 31)
  have M3 := Blk.new W2 #[.string pbr, .int .i64 part] 31
  generalize hW3 : W2.alloc (.cells #[.string pbr, .int .i64 part] 31) = W3 at *
  have KK := Lib.hid K3
  have LK := Lib.hid L3
  have MK := Lib.hid M3
  clear B1 K1 B2 K2 L2
  have HSB : Hid (∀ W, Below W3.heap.size W3 W → (W.cell? ⟨w.heap.size, 0, none⟩ = some (.slice na nn nc) ∧ W.cell? ⟨w.heap.size, 1, none⟩ = some (.slice sa sn sc) ∧ W.cell? ⟨w.heap.size, 2, none⟩ = some (.slice ba bn bc) ∧ W.cell? ⟨w.heap.size, 3, none⟩ = some (.slice ga gn gc) ∧ W.cell? ⟨w.heap.size, 4, none⟩ = some (.slice la ln lc) ∧ W.cell? ⟨w.heap.size, 5, none⟩ = some (.slice ta tn tc) ∧ W.cell? ⟨W1.heap.size, 1, none⟩ = some (.string rbr) ∧ W.cell? ⟨W2.heap.size, 0, none⟩ = some (.string pbr))) := fun W hW => by
    have k := below_blk hW KK.out KK.out.lt
    have l := below_blk hW LK.out LK.out.lt
    have m := below_blk hW MK.out MK.out.lt
    exact ⟨k.cell 0 rfl, k.cell 1 rfl, k.cell 2 rfl, k.cell 3 rfl, k.cell 4 rfl, k.cell 5 rfl, l.cell 1 rfl, m.cell 0 rfl⟩
  clear K3 L3 M3
  go_enter Try.func38, Try.ntmps38
  go_upto_region 1 with fail
  go_cut [8, 9] from 19 to 26 (fun s8 s9 wx => s8 = .int .i64 k1 ∧ s9 = .int .i64 k2 ∧ Hid (Below W3.heap.size W3 wx))
  case first =>
    have D0 : Hid (Below W3.heap.size W3 W3.drew) := ⟨rfl, rfl, rfl, Nat.le_refl _, fun _ _ => rfl⟩
    go_region_held3 (fun W => (W.cell? ⟨w.heap.size, 0, none⟩ = some (.slice na nn nc) ∧ W.cell? ⟨w.heap.size, 1, none⟩ = some (.slice sa sn sc) ∧ W.cell? ⟨w.heap.size, 2, none⟩ = some (.slice ba bn bc) ∧ W.cell? ⟨w.heap.size, 3, none⟩ = some (.slice ga gn gc) ∧ W.cell? ⟨w.heap.size, 4, none⟩ = some (.slice la ln lc) ∧ W.cell? ⟨w.heap.size, 5, none⟩ = some (.slice ta tn tc) ∧ W.cell? ⟨W1.heap.size, 1, none⟩ = some (.string rbr) ∧ W.cell? ⟨W2.heap.size, 0, none⟩ = some (.string pbr)))
      (first
        | exact HSB.out _ D0.out
        | exact HSB.out _ D1.out
        | exact HSB.out _ D2.out)
      (first
        | (refine (HB1.out W3.drew (belowT B3.out D0.out)).mono ?_; rintro e w1 ⟨rfl, hb1⟩; have D1 := Lib.hid (belowT D0.out hb1); clear hb1)
        | (refine (HB2.out w1 (belowT B3.out D1.out)).mono ?_; rintro e w2 ⟨rfl, hb2⟩; have D2 := Lib.hid (belowT D1.out hb2); clear hb2))
    all_goals
      go_simp
      go_wp2_with fail
      go_meet
      exact ⟨rfl, rfl, D2⟩
  case rest =>
    obtain ⟨rfl, rfl, hbc⟩ := hcut
    have HBC := Lib.hid (belowT B3.out hbc.out)
    have KC := below_blk hbc.out KK.out KK.out.lt
    have LC := Lib.hid (below_blk hbc.out LK.out LK.out.lt)
    have MC := Lib.hid (below_blk hbc.out MK.out MK.out.lt)
    have KC' := Lib.hid KC
    have x2 : wc.cell? ⟨w.heap.size, 2, none⟩ = some (.slice ba bn bc) := KC.cell 2 rfl
    obtain ⟨g, off, cap', hvv, _, _, hgl, hcc⟩ := (hR2.below HBC.out).addr (by omega)
    simp only [Value.slice.injEq] at hvv
    obtain ⟨rfl, _, rfl⟩ := hvv
    obtain ⟨y0, y1, y2, y3, y4, y5, y6, y7, y8⟩ := br_cells hcc hb
    obtain ⟨z0, z1, z2, z3, z4, z5, z6, z7, z8⟩ := br_cells hcc hc
    obtain ⟨bn0, bfr, bto, bx, b4, b5, b6, b7, b8⟩ := b
    obtain ⟨cn0, cfr, cto, cx, c4, c5, c6, c7, c8⟩ := c
    simp only at y0 y1 y2 y3 y4 y5 y6 y7 y8 z0 z1 z2 z3 z4 z5 z6 z7 z8 HDD hob hoc HLR
    have HCC := Lib.hid hcc
    have lw0 : w.heap.size < wc.heap.size := KC.lt
    have lw1 : w.heap.size < wc.heap.size + 1 := by omega
    have lw2 : w.heap.size < wc.heap.size + 1 + 1 := by omega
    have lg1 : g < wc.heap.size + 1 := by omega
    have lg2 : g < wc.heap.size + 1 + 1 := by omega
    clear hb hc hcc HB1 HB2 KC HSB hW3 hW2 hW1
    go_upto_region 2 with fail
    go_cut [10, 11] from 27 to 36 (fun s10 s11 wx => ∃ d1 d2 : Nat, s10 = .pointer (some ⟨d1, 0, none⟩) ∧ s11 = .pointer (some ⟨d2, 0, none⟩) ∧ Hid (Blk wx d1 #[.string bn0, .string bfr, .string bto, .int .i64 bx, .int .i64 b4, .int .i64 b5, .int .i64 b6, .int .i64 b7, .int .i64 b8] 36) ∧ Hid (Blk wx d2 #[.string cn0, .string cfr, .string cto, .int .i64 cx, .int .i64 c4, .int .i64 c5, .int .i64 c6, .int .i64 c7, .int .i64 c8] 36) ∧ Hid (Below wc.heap.size wc wx))
    case first =>
      go_region
      all_goals
        go_wp2_with fail
        go_meet
        first
          | exact ⟨wc.heap.size, wc.heap.size + 1, rfl, rfl, ((Blk.new _ _ _).alloc _).drew, (Blk.new2 _ _ _ _).drew, ⟨rfl, rfl, rfl, (belowA (belowA (Below.refl _ wc) _) _).size, (belowA (belowA (Below.refl _ wc) _) _).block⟩⟩
          | exact ⟨wc.heap.size + 1, wc.heap.size, rfl, rfl, (Blk.new2 _ _ _ _).drew, ((Blk.new _ _ _).alloc _).drew, ⟨rfl, rfl, rfl, (belowA (belowA (Below.refl _ wc) _) _).size, (belowA (belowA (Below.refl _ wc) _) _).block⟩⟩
    case rest =>
      obtain ⟨d1, d2, rfl, rfl, hd1, hd2, hbc2⟩ := hcut
      have HBX := Lib.hid (belowT HBC.out hbc2.out)
      have KX := Lib.hid (below_blk hbc2.out KC'.out KC'.out.lt)
      have LX := Lib.hid (below_blk hbc2.out LC.out LC.out.lt)
      have MX := Lib.hid (below_blk hbc2.out MC.out MC.out.lt)
      clear hbc2 hbc HBC KC' LC MC x2 y0 y1 y2 y3 y4 y5 y6 y7 y8 z0 z1 z2 z3 z4 z5 z6 z7 z8 HCC lw0 lw1 lw2 lg1 lg2 hgl KK LK MK B3
      have r0 := LX.out.cell 0 rfl
      have p1 := MX.out.cell 1 rfl
      have y1 := hd1.out.cell 1 rfl
      have y2 := hd1.out.cell 2 rfl
      have y3 := hd1.out.cell 3 rfl
      have z1 := hd2.out.cell 1 rfl
      have z2 := hd2.out.cell 2 rfl
      have z3 := hd2.out.cell 3 rfl
      have x0 := KX.out.cell 0 rfl
      have x1 := KX.out.cell 1 rfl
      have x2 := KX.out.cell 2 rfl
      have x3 := KX.out.cell 3 rfl
      have x4 := KX.out.cell 4 rfl
      have x5 := KX.out.cell 5 rfl
      have HOT : Hid (otherR node ⟨bn0, bfr, bto, bx, b4, b5, b6, b7, b8⟩ = if (node.toList == bto.toList) = true then bfr else bto) := rfl
      have hoth : hasS (otherR node ⟨bn0, bfr, bto, bx, b4, b5, b6, b7, b8⟩) nl = true := by rw [HOT.out]; exact ite_cases hob.1 hob.2.1
      generalize otherR node ⟨bn0, bfr, bto, bx, b4, b5, b6, b7, b8⟩ = OT at *
      go_upto_if 43 with fail
      go_cut [12] from 37 to 45 (fun s12 wx => s12 = .string OT ∧ wc = wx)
      case first =>
        cases hq : (node.toList == bto.toList)
        · have HO2 : Hid (OT = bto) := by show _ = _; rw [HOT.out, hq]; rfl
          clear HOT
          go_wp2_with fail
          go_meet
          exact ⟨by rw [HO2.out], rfl⟩
        · have HO2 : Hid (OT = bfr) := by show _ = _; rw [HOT.out, hq]; rfl
          clear HOT
          go_wp2_with fail
          go_meet
          exact ⟨by rw [HO2.out], rfl⟩
      case rest =>
        obtain ⟨rfl, rfl⟩ := hcut
        clear HOT
        have hm1 : 0 ≤ bx * part ∧ bx * part ≤ 10000000 := by
          have h1 : 0 ≤ bx * part := Int.mul_nonneg (by omega) hp0
          have h2 : bx * part ≤ 10000 * 1000 := Int.mul_le_mul hob.2.2.2 hp1 hp0 (by omega)
          omega
        have hm2 : 0 ≤ bx * (1000 - part) ∧ bx * (1000 - part) ≤ 10000000 := by
          have h1 : 0 ≤ bx * (1000 - part) := Int.mul_nonneg (by omega) (by omega)
          have h2 : bx * (1000 - part) ≤ 10000 * 1000 := Int.mul_le_mul hob.2.2.2 (by omega) (by omega) (by omega)
          omega
        have ws := IntWalk.i64_in (1000 - part) (by omega)
        have w1 := IntWalk.i64_in (bx * part) (by omega)
        have w2 := IntWalk.i64_in (bx * (1000 - part)) (by omega)
        by_cases hkk : k1 = k2
        ·
          have g1 : ((k1 : Int) == (k2 : Int)) = true := by simp [hkk]
          have HD2 := Lib.hid (HDD.out.trans (if_pos (by rw [hkk])))
          cases hq : (node.toList == bfr.toList)
          · have HR : Hid (DD = (bx * (1000 - part), true)) := by show _ = _; rw [HD2.out]; unfold sameB; rw [hq]; rfl
            clear HDD HD2 hkk
            go_wp2_with fail
            go_ret2
            exact ⟨by rw [HR.out]; rfl, HBX.out⟩
          · have HR : Hid (DD = (bx * part, true)) := by show _ = _; rw [HD2.out]; unfold sameB; rw [hq]; rfl
            clear HDD HD2 hkk
            go_wp2_with fail
            go_ret2
            exact ⟨by rw [HR.out]; rfl, HBX.out⟩
        ·
          have g1 : ((k1 : Int) == (k2 : Int)) = false := by simp; omega
          have HD2 := Lib.hid (HDD.out.trans (if_neg (fun h => hkk (by omega))))
          clear HDD hkk
          obtain ⟨so, hso, hsl⟩ := idxS_nat hoth
          have HSO := Lib.hid hso
          have HLL : Hid (LL = lens ER (len0 nn so)) := by show _ = _; rw [HLR.out, hso]; rfl
          have hsl' : so < nn := by rw [← HNN.out]; exact hsl
          clear HLR hso
          have D0 : Hid (Below wc.heap.size wc wc.drew) := ⟨rfl, rfl, rfl, Nat.le_refl _, fun _ _ => rfl⟩
          have D1 : Hid (Below wc.heap.size wc (wc.drew.alloc (.cells #[.int .i64 k1, .int .i64 k2] 3))) := D0.out.alloc (Nat.le_refl _) _
          have I1 : Hid (IVal (wc.drew.alloc (.cells #[.int .i64 k1, .int .i64 k2] 3)) (.slice (some ⟨wc.heap.size, 0, none⟩) 2 2) [(k1 : Int), k2]) :=
            Or.inr ⟨_, 0, 2, rfl, Nat.le_refl _, by simp, (Blk.new wc.drew _ _).lt, fun j u hj => by rw [Nat.zero_add]; exact (Blk.new wc.drew #[.int .i64 (k1 : Int), .int .i64 (k2 : Int)] 3).cell j (by simpa [ints] using hj)⟩
          have HE1 := Lib.hid (HED2.out _ _ (belowT HBX.out D1.out) I1.out)
          have HI1 : Hid (∀ W, Below wc.heap.size wc W → Calls Try.prog 52 #[.slice na nn nc, .string OT] W fun e w' => e = .returned (.int .i64 so) ∧ W = w') := fun W hW => by
            rw [← HSO.out]; exact index_c (.slice na nn nc) nl OT W (by show Reads _ _ _ _; rw [HNN.out]; exact hR0.below (belowT HBX.out hW))
          have HSB : Hid (∀ W, Below wc.heap.size wc W → (W.cell? ⟨w.heap.size, 0, none⟩ = some (.slice na nn nc) ∧ W.cell? ⟨w.heap.size, 1, none⟩ = some (.slice sa sn sc) ∧ W.cell? ⟨w.heap.size, 2, none⟩ = some (.slice (some ⟨g, off, none⟩) bn bc) ∧ W.cell? ⟨w.heap.size, 3, none⟩ = some (.slice ga gn gc) ∧ W.cell? ⟨w.heap.size, 4, none⟩ = some (.slice la ln lc) ∧ W.cell? ⟨w.heap.size, 5, none⟩ = some (.slice ta tn tc))) := fun W hW => by
            have k := below_blk hW KX.out KX.out.lt
            exact ⟨k.cell 0 rfl, k.cell 1 rfl, k.cell 2 rfl, k.cell 3 rfl, k.cell 4 rfl, k.cell 5 rfl⟩
          clear w1 w2 hm1 hm2
          go_upto_region 10 with fail
          go_cut [13] from 65 to 77 (fun s13 wx => ∃ da dc, s13 = .slice da nn dc ∧ Hid (Reads wx (.slice da nn dc) nn (ints LL)) ∧ Hid (Below wc.heap.size wc wx))
          case first =>
            go_region_held3 (fun W => (W.cell? ⟨w.heap.size, 0, none⟩ = some (.slice na nn nc) ∧ W.cell? ⟨w.heap.size, 1, none⟩ = some (.slice sa sn sc) ∧ W.cell? ⟨w.heap.size, 2, none⟩ = some (.slice (some ⟨g, off, none⟩) bn bc) ∧ W.cell? ⟨w.heap.size, 3, none⟩ = some (.slice ga gn gc) ∧ W.cell? ⟨w.heap.size, 4, none⟩ = some (.slice la ln lc) ∧ W.cell? ⟨w.heap.size, 5, none⟩ = some (.slice ta tn tc)))
              (first
                | exact HSB.out _ D0.out
                | exact HSB.out _ D1.out
                | exact HSB.out _ D2.out
                | exact HSB.out _ D3.out)
              (first
                | (go_at_call 86; refine HE1.out.mono ?_; rintro e w1 ⟨lv, rfl, hrd, hb1⟩; obtain ⟨ea, ec, rfl⟩ := hrd.slice; have D2 := Lib.hid (belowT D1.out hb1); have RD2 := Lib.hid hrd; clear hb1 hrd)
                | (go_at_call 52; refine (HI1.out w1 D2.out).mono ?_; rintro e w2 ⟨rfl, rfl⟩)
                | (go_at_call 85; refine (HLE2.out so _ w1 hsl' RD2.out).mono ?_; rintro e w3 ⟨lv, rfl, hrd, hb3⟩; obtain ⟨da, dc, rfl⟩ := hrd.slice; have D3 := Lib.hid (belowT D2.out hb3); have RD3 := Lib.hid hrd; clear hb3 hrd))
            all_goals
              go_simp
              go_wp2_with fail
              go_meet
              exact ⟨da, dc, rfl, by show Reads _ _ _ _; rw [HLL.out]; exact RD3.out, D3⟩
          case rest =>
            obtain ⟨da, dc, rfl, hrd, hbd⟩ := hcut
            have hn0 : 0 < nn := Nat.lt_of_le_of_lt (Nat.zero_le _) hsl'
            have HLX : Hid (DOk nn LL) := by show DOk _ _; rw [HLL.out]; exact HLD.out so hsl'
            have HLLEN := Lib.hid HLX.out.1
            have HLBD : Hid (∀ i, i < nn → LL.getD i 0 < 0 ∨ LL.getD i 0 ≤ 240000000) := fun i hi => HLX.out.bound h24 i hi
            have HBD := Lib.hid (belowT HBX.out hbd.out)
            have KD := Lib.hid (below_blk hbd.out KX.out KX.out.lt)
            have MD := Lib.hid (below_blk hbd.out MX.out MX.out.lt)
            have E1 := Lib.hid (below_blk hbd.out hd1.out hd1.out.lt)
            have E2 := Lib.hid (below_blk hbd.out hd2.out hd2.out.lt)
            clear D0 D1 I1 HE1 HI1 HSB HED2 HLE2 HLD HLL hbd hd1 hd2 KX LX MX HBX r0 p1 y1 y2 y3 z1 z2 z3 x0 x1 x2 x3 x4 x5 hsl hsl' HSO
            obtain ⟨dg, doff, dcap', hvv, _, _, hdl, hdc⟩ := hrd.out.addr (by omega)
            simp only [Value.slice.injEq] at hvv
            obtain ⟨rfl, _, rfl⟩ := hvv
            have HDC : Hid (∀ i, i < LL.length → ∀ W, Below (wc.alloc (.cells #[.string cfr, .int .i64 (cx * part), .string cto, .int .i64 (cx * (1000 - part))] 151)).heap.size (wc.alloc (.cells #[.string cfr, .int .i64 (cx * part), .string cto, .int .i64 (cx * (1000 - part))] 151)) W → W.cell? ⟨dg, doff + i, none⟩ = some (.int .i64 (LL.getD i 0))) := fun i hi W hW => by
              rw [hW.cell (p := ⟨dg, doff + i, none⟩) (Nat.lt_of_lt_of_le hdl (belowA (Below.refl _ wc) _).size), (belowA (Below.refl _ wc) _).cell (p := ⟨dg, doff + i, none⟩) hdl]
              exact hdc i _ (ints_get hi)
            have hdl6 : dg < (wc.alloc (.cells #[.string cfr, .int .i64 (cx * part), .string cto, .int .i64 (cx * (1000 - part))] 151)).heap.size := Nat.lt_of_lt_of_le hdl (belowA (Below.refl _ wc) _).size
            obtain ⟨sf, hsf, hsfl⟩ := idxS_nat hoc.1
            obtain ⟨st, hst, hstl⟩ := idxS_nat hoc.2.1
            rw [HNN.out] at hsfl hstl
            have hm1 : 0 ≤ cx * part ∧ cx * part ≤ 10000000 := by
              have h1 : 0 ≤ cx * part := Int.mul_nonneg (by omega) hp0
              have h2 : cx * part ≤ 10000 * 1000 := Int.mul_le_mul hoc.2.2.2 hp1 hp0 (by omega)
              omega
            have hm2 : 0 ≤ cx * (1000 - part) ∧ cx * (1000 - part) ≤ 10000000 := by
              have h1 : 0 ≤ cx * (1000 - part) := Int.mul_nonneg (by omega) (by omega)
              have h2 : cx * (1000 - part) ≤ 10000 * 1000 := Int.mul_le_mul hoc.2.2.2 (by omega) (by omega) (by omega)
              omega
            have w1 := IntWalk.i64_in (cx * part) (by omega)
            have w2 := IntWalk.i64_in (cx * (1000 - part)) (by omega)
            have HIX : Hid (∀ o W, Below (wc.alloc (.cells #[.string cfr, .int .i64 (cx * part), .string cto, .int .i64 (cx * (1000 - part))] 151)).heap.size (wc.alloc (.cells #[.string cfr, .int .i64 (cx * part), .string cto, .int .i64 (cx * (1000 - part))] 151)) W → Calls Try.prog 52 #[.slice na nn nc, .string o] W fun e w' => e = .returned (.int .i64 (idxS o nl 0)) ∧ W = w') := fun o W hW =>
              index_c (.slice na nn nc) nl o W (by show Reads _ _ _ _; rw [HNN.out]; exact hR0.below (belowT (belowA HBD.out _) hW))
            have HG : Hid (Blk (wc.alloc (.cells #[.string cfr, .int .i64 (cx * part), .string cto, .int .i64 (cx * (1000 - part))] 151)) wc.heap.size #[.string cfr, .int .i64 (cx * part), .string cto, .int .i64 (cx * (1000 - part))] 151) := Blk.new _ _ _
            have KZ : Hid (Blk (wc.alloc (.cells #[.string cfr, .int .i64 (cx * part), .string cto, .int .i64 (cx * (1000 - part))] 151)) w.heap.size #[.slice na nn nc, .slice sa sn sc, .slice (some ⟨g, off, none⟩) bn bc, .slice ga gn gc, .slice la ln lc, .slice ta tn tc] 29) := KD.out.alloc _
            have E1Z := Lib.hid (E1.out.alloc (.cells #[.string cfr, .int .i64 (cx * part), .string cto, .int .i64 (cx * (1000 - part))] 151))
            have HBZ := Lib.hid (belowA HBD.out (.cells #[.string cfr, .int .i64 (cx * part), .string cto, .int .i64 (cx * (1000 - part))] 151))
            have p1 := MD.out.cell 1 rfl
            have y3 := E1.out.cell 3 rfl
            have z1 := E2.out.cell 1 rfl
            have z2 := E2.out.cell 2 rfl
            have z3 := E2.out.cell 3 rfl
            obtain ⟨S1, hS1⟩ : ∃ S, bestS nl LL (0, false) cfr (cx * part) = S := ⟨_, rfl⟩
            obtain ⟨S2, hS2⟩ : ∃ S, bestS nl LL S1 cto (cx * (1000 - part)) = S := ⟨_, rfl⟩
            have HS1 := Lib.hid hS1
            have HS2 := Lib.hid hS2
            have HDE : Hid (DD = (1000 * bx + S2.1, S2.2)) := by show _ = _; rw [HD2.out, hS1, hS2]
            clear hS1 hS2 HD2 hdc hrd
            go_wp2_with fail
            clear p1 z1 z2 z3 w1 w2 ws
            generalize wc.alloc (.cells #[.string cfr, .int .i64 (cx * part), .string cto, .int .i64 (cx * (1000 - part))] 151) = W6 at *
            generalize cx * part = r1 at *
            generalize cx * (1000 - part) = r2 at *
            go_loopw [97, 14, 15] (fun i bs fs wr => ∃ (j : Nat) (best : Int) (found : Bool), i = .int .i64 j ∧ bs = .int .i64 best ∧ fs = .bool found ∧ Hid ((j = 0 ∧ (best, found) = (0, false)) ∨ (j = 1 ∧ (best, found) = S1) ∨ (j = 2 ∧ (best, found) = S2)) ∧ (0 ≤ best ∧ best ≤ 250000000) ∧ Hid (Below W6.heap.size W6 wr)) (fun i _ _ _ => 2 - (intOf i).toNat)
            case atStart => exact ⟨0, 0, false, rfl, rfl, rfl, Or.inl ⟨rfl, rfl⟩, by omega, Below.refl _ _⟩
            case round =>
              obtain ⟨j, best, found, rfl, rfl, rfl, hj, hbb, hbw⟩ := hrel
              rcases hj.out with ⟨rfl, h⟩ | ⟨rfl, h⟩ | ⟨rfl, h⟩
              ·
                have HSD : Hid (∀ (j : Nat), j = 1 → ∀ z, bestS nl LL (best, found) cfr r1 = z → (j = 0 ∧ z = (0, false)) ∨ (j = 1 ∧ z = S1) ∨ (j = 2 ∧ z = S2)) := fun j hj z hz => Or.inr (Or.inl ⟨hj, by rw [← HS1.out, ← h]; exact hz.symm⟩)
                have HH := Lib.hid h
                clear h
                have HNX : Hid (bestS nl LL (best, found) cfr r1 = if 0 ≤ LL.getD sf 0 ∧ (found = false ∨ LL.getD sf 0 + r1 < best) then (LL.getD sf 0 + r1, true) else (best, found)) := by
                  show _ = _; unfold bestS; rw [hsf]; rfl
                have e0 := (below_blk hbw.out HG.out HG.out.lt).cell (0 * 2) rfl
                have e1 := (below_blk hbw.out HG.out HG.out.lt).cell (0 * 2 + 1) rfl
                have hcx := HDC.out (sf) (by rw [HLLEN.out]; exact hsfl) wr hbw.out
                have hbx := HLBD.out sf hsfl
                have hxx : Hid (LL.getD sf 0 = LL.getD sf 0) := rfl
                obtain ⟨X, hX⟩ : ∃ X, LL.getD sf 0 = X := ⟨_, rfl⟩
                rw [hX] at hcx hbx HNX
                clear hX
                have n0 := (below_blk hbw.out KZ.out KZ.out.lt).cell 0 rfl
                have ln0 : w.heap.size < wr.heap.size := Nat.lt_of_lt_of_le KZ.out.lt hbw.out.size
                have HCI := Lib.hid (HIX.out cfr (wr.alloc (.cells #[.string cfr, .int .i64 r1] 151)) (belowA hbw.out _))
                rw [hsf] at HCI
                have ldg : dg < wr.heap.size := Nat.lt_of_lt_of_le hdl6 hbw.out.size
                cases hc1 : decide (0 ≤ X)
                ·
                  have HNV : Hid (bestS nl LL (best, found) cfr r1 = (best, found)) := HNX.out.trans (if_neg (fun h => by have := of_decide_eq_false hc1; exact this h.1))
                  go_wp2_with fail
                  refine HCI.out.mono ?_; rintro e w1 ⟨rfl, rfl⟩
                  go_wp2_with fail
                  go_roundw
                  case rel => exact ⟨0 + 1, _, _, by go_num, rfl, rfl, HSD.out _ rfl _ HNV.out, by omega, belowA hbw.out _⟩
                  case measure => simp [intOf]
                ·
                  have hxp := of_decide_eq_true hc1
                  have hw := IntWalk.i64_in (X + r1) (by omega)
                  cases found
                  ·
                    have HNV : Hid (bestS nl LL (best, false) cfr r1 = (X + r1, true)) := HNX.out.trans (if_pos ⟨hxp, Or.inl rfl⟩)
                    go_wp2_with fail
                    refine HCI.out.mono ?_; rintro e w1 ⟨rfl, rfl⟩
                    go_wp2_with fail
                    go_roundw
                    case rel => exact ⟨0 + 1, _, _, by go_num, rfl, rfl, HSD.out _ rfl _ HNV.out, by omega, belowA hbw.out _⟩
                    case measure => simp [intOf]
                  ·
                    cases hc3 : decide (X + r1 < best)
                    ·
                      have HNV : Hid (bestS nl LL (best, true) cfr r1 = (best, true)) := HNX.out.trans (if_neg (fun h => by have := of_decide_eq_false hc3; rcases h.2 with h | h; cases h; exact this h))
                      go_wp2_with fail
                      refine HCI.out.mono ?_; rintro e w1 ⟨rfl, rfl⟩
                      go_wp2_with fail
                      go_roundw
                      case rel => exact ⟨0 + 1, _, _, by go_num, rfl, rfl, HSD.out _ rfl _ HNV.out, by omega, belowA hbw.out _⟩
                      case measure => simp [intOf]
                    ·
                      have HNV : Hid (bestS nl LL (best, true) cfr r1 = (X + r1, true)) := HNX.out.trans (if_pos ⟨hxp, Or.inr (of_decide_eq_true hc3)⟩)
                      go_wp2_with fail
                      refine HCI.out.mono ?_; rintro e w1 ⟨rfl, rfl⟩
                      go_wp2_with fail
                      go_roundw
                      case rel => exact ⟨0 + 1, _, _, by go_num, rfl, rfl, HSD.out _ rfl _ HNV.out, by omega, belowA hbw.out _⟩
                      case measure => simp [intOf]
              ·
                have HSD : Hid (∀ (j : Nat), j = 2 → ∀ z, bestS nl LL (best, found) cto r2 = z → (j = 0 ∧ z = (0, false)) ∨ (j = 1 ∧ z = S1) ∨ (j = 2 ∧ z = S2)) := fun j hj z hz => Or.inr (Or.inr ⟨hj, by rw [← HS2.out, ← h]; exact hz.symm⟩)
                have HH := Lib.hid h
                clear h
                have HNX : Hid (bestS nl LL (best, found) cto r2 = if 0 ≤ LL.getD st 0 ∧ (found = false ∨ LL.getD st 0 + r2 < best) then (LL.getD st 0 + r2, true) else (best, found)) := by
                  show _ = _; unfold bestS; rw [hst]; rfl
                have e0 := (below_blk hbw.out HG.out HG.out.lt).cell (1 * 2) rfl
                have e1 := (below_blk hbw.out HG.out HG.out.lt).cell (1 * 2 + 1) rfl
                have hcx := HDC.out (st) (by rw [HLLEN.out]; exact hstl) wr hbw.out
                have hbx := HLBD.out st hstl
                have hxx : Hid (LL.getD st 0 = LL.getD st 0) := rfl
                obtain ⟨X, hX⟩ : ∃ X, LL.getD st 0 = X := ⟨_, rfl⟩
                rw [hX] at hcx hbx HNX
                clear hX
                have n0 := (below_blk hbw.out KZ.out KZ.out.lt).cell 0 rfl
                have ln0 : w.heap.size < wr.heap.size := Nat.lt_of_lt_of_le KZ.out.lt hbw.out.size
                have HCI := Lib.hid (HIX.out cto (wr.alloc (.cells #[.string cto, .int .i64 r2] 151)) (belowA hbw.out _))
                rw [hst] at HCI
                have ldg : dg < wr.heap.size := Nat.lt_of_lt_of_le hdl6 hbw.out.size
                cases hc1 : decide (0 ≤ X)
                ·
                  have HNV : Hid (bestS nl LL (best, found) cto r2 = (best, found)) := HNX.out.trans (if_neg (fun h => by have := of_decide_eq_false hc1; exact this h.1))
                  go_wp2_with fail
                  refine HCI.out.mono ?_; rintro e w1 ⟨rfl, rfl⟩
                  go_wp2_with fail
                  go_roundw
                  case rel => exact ⟨1 + 1, _, _, by go_num, rfl, rfl, HSD.out _ rfl _ HNV.out, by omega, belowA hbw.out _⟩
                  case measure => simp [intOf]
                ·
                  have hxp := of_decide_eq_true hc1
                  have hw := IntWalk.i64_in (X + r2) (by omega)
                  cases found
                  ·
                    have HNV : Hid (bestS nl LL (best, false) cto r2 = (X + r2, true)) := HNX.out.trans (if_pos ⟨hxp, Or.inl rfl⟩)
                    go_wp2_with fail
                    refine HCI.out.mono ?_; rintro e w1 ⟨rfl, rfl⟩
                    go_wp2_with fail
                    go_roundw
                    case rel => exact ⟨1 + 1, _, _, by go_num, rfl, rfl, HSD.out _ rfl _ HNV.out, by omega, belowA hbw.out _⟩
                    case measure => simp [intOf]
                  ·
                    cases hc3 : decide (X + r2 < best)
                    ·
                      have HNV : Hid (bestS nl LL (best, true) cto r2 = (best, true)) := HNX.out.trans (if_neg (fun h => by have := of_decide_eq_false hc3; rcases h.2 with h | h; cases h; exact this h))
                      go_wp2_with fail
                      refine HCI.out.mono ?_; rintro e w1 ⟨rfl, rfl⟩
                      go_wp2_with fail
                      go_roundw
                      case rel => exact ⟨1 + 1, _, _, by go_num, rfl, rfl, HSD.out _ rfl _ HNV.out, by omega, belowA hbw.out _⟩
                      case measure => simp [intOf]
                    ·
                      have HNV : Hid (bestS nl LL (best, true) cto r2 = (X + r2, true)) := HNX.out.trans (if_pos ⟨hxp, Or.inr (of_decide_eq_true hc3)⟩)
                      go_wp2_with fail
                      refine HCI.out.mono ?_; rintro e w1 ⟨rfl, rfl⟩
                      go_wp2_with fail
                      go_roundw
                      case rel => exact ⟨1 + 1, _, _, by go_num, rfl, rfl, HSD.out _ rfl _ HNV.out, by omega, belowA hbw.out _⟩
                      case measure => simp [intOf]
              ·
                have HDF : Hid (DD = (1000 * bx + best, found)) := by show _ = _; rw [HDE.out, ← h]
                clear h hj HDE
                have v1 := IntWalk.i64_in (1000 * bx) (by omega)
                have v2 := IntWalk.i64_in (1000 * bx + best) (by omega)
                have y3 := (below_blk hbw.out E1Z.out E1Z.out.lt).cell 3 rfl
                go_wp2_with fail
                go_ret2
                exact ⟨by rw [HDF.out]; rfl, belowT HBZ.out hbw.out⟩
end Go.Proofs.Ytplebibabcdipaa
