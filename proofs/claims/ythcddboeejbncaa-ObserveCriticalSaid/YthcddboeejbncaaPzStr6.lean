/- Lists of strings: slices.Index, Contains; netmodel.Name, within, names.add, ends, device. netmodel.Name. netmodel.names.add, netmodel.ends, netmodel.device. netmodel.ends, netmodel.device. netmodel.sizes. netmodel.Branch. -/
import Derived.Test.YthcddboeejbncaaPkWldRds
import Derived.Lib.SlicesS
import Derived.Lib.ConvBytes
namespace Go.Proofs.Ythcddboeejbncaa
open Go.RowKit

def strs (l : List ByteArray) : List Value := l.map Value.string
abbrev SVal (w : World) (v : Value) (l : List ByteArray) : Prop := Reads w v l.length (strs l)
theorem strs_get {l : List ByteArray} {i : Nat} (h : i < l.length) : (strs l)[i]? = some (.string (l.getD i ByteArray.empty)) := by unfold strs; simp [h]
theorem strs_one (l : List ByteArray) : ∀ u ∈ strs l, u.oneCell' = true := by
  intro u hu; unfold strs at hu; obtain ⟨n, _, rfl⟩ := List.mem_map.1 hu; rfl

/-- The first index of a string, or -1. -/
def idxS (s : ByteArray) : List ByteArray → Int → Int
  | [], _ => -1
  | x :: xs, i => if (s.toList == x.toList) = true then i else idxS s xs (i + 1)
/-- Whether a list holds a string. -/
def hasS (s : ByteArray) (l : List ByteArray) : Bool := l.any (fun x => s.toList == x.toList)
theorem hasS_iff {s : ByteArray} {l : List ByteArray} : hasS s l = true ↔ s ∈ l := by
  unfold hasS
  rw [List.any_eq_true]
  constructor
  · rintro ⟨x, h1, h2⟩; rw [(Lib.bytes_beq_iff s x).1 h2]; exact h1
  · intro h; exact ⟨s, h, (Lib.bytes_beq_iff s s).2 rfl⟩
theorem idxS_neg (s : ByteArray) : ∀ (l : List ByteArray) (i : Int), 0 ≤ i → (0 ≤ idxS s l i ↔ hasS s l = true) := by
  intro l
  induction l with
  | nil => intro i _; simp [idxS, hasS]
  | cons x xs ih =>
    intro i hi
    unfold idxS hasS
    rw [List.any_cons]
    by_cases hp : (s.toList == x.toList) = true
    · rw [if_pos hp, hp]; simp [hi]
    · rw [if_neg hp, ih (i + 1) (by omega)]
      have : (s.toList == x.toList) = false := by simpa using hp
      rw [this]; simp [hasS]
theorem idxS_drop {s : ByteArray} {l : List ByteArray} {k : Nat} (h : k < l.length) : idxS s (l.drop k) k = if (s.toList == (l.getD k ByteArray.empty).toList) = true then (k : Int) else idxS s (l.drop (k + 1)) ((k + 1 : Nat) : Int) := by
  rw [List.drop_eq_getElem_cons h]
  conv => lhs; unfold idxS
  simp [h]

set_option maxHeartbeats 400000 in
theorem index_c (v : Value) (l : List ByteArray) (s : ByteArray) (w : World) (hv : SVal w v l) :
    Calls Try.prog 62 #[v, .string s] w fun e w' => e = .returned (.int .i64 (idxS s l 0)) ∧ w = w' := by
  obtain ⟨a, cap, rfl⟩ := hv.slice
  have hn : l.length ≤ 9223372036854775807 := by
    rcases hv with ⟨h, _⟩ | ⟨_, _, _, _, _, h, _⟩
    · omega
    · exact h
  have HE : Hid (idxS s (l.drop 0) (0 : Nat) = idxS s l 0) := by show _ = _; rfl
  generalize idxS s l 0 = E at *
  obtain ⟨n, hN⟩ : ∃ n, l.length = n := ⟨_, rfl⟩
  have HN := Lib.hid hN
  have HV2 : Hid (Reads w (.slice a n cap) n (strs l)) := by show Reads _ _ _ _; rw [← hN]; exact hv
  rw [hN] at hn ⊢
  clear hN hv
  go_enter Try.func62, Try.ntmps62
  go_wp2_with fail
  go_loopw [8] (fun i wr => ∃ k : Nat, k ≤ n ∧ i = .int .i64 k ∧ Hid (idxS s (l.drop k) k = E) ∧ w = wr) (fun i _ => n - (intOf i).toNat)
  case atStart => exact ⟨0, Nat.zero_le _, rfl, HE.out, rfl⟩
  case round =>
    obtain ⟨k, hk, rfl, he, rfl⟩ := hrel
    by_cases hlt : k < n
    · obtain ⟨b, off, cap', hvv, _, _, hbl, hc⟩ := HV2.out.addr (by omega)
      simp only [Value.slice.injEq] at hvv
      obtain ⟨rfl, _, rfl⟩ := hvv
      have hlk : k < l.length := by rw [HN.out]; exact hlt
      have x0 := hc k _ (strs_get hlk)
      have hd := idxS_drop (s := s) hlk
      generalize l.getD k ByteArray.empty = x at *
      have HD := Lib.hid hd
      clear hd hc
      cases hp : (s.toList == x.toList)
      · have HP := Lib.hid (HD.out.trans (if_neg (by rw [hp]; decide)))
        go_wp2_with fail
        go_roundw
        case rel => exact ⟨k + 1, by omega, by go_num, by show _ = _; rw [← he.out, HP.out], by first | rfl | trivial⟩
        case measure => simp [intOf]; omega
      · have HP := Lib.hid (he.out.symm.trans (HD.out.trans (if_pos hp)))
        go_wp2_with fail
        go_ret
        exact ⟨by rw [HP.out]; rfl, rfl⟩
    · have hkn : l.drop k = [] := List.drop_eq_nil_of_le (by rw [HN.out]; omega)
      have HX : Hid (E = -1) := by show _ = _; rw [← he.out, hkn]; rfl
      clear he hkn
      go_wp2_with fail
      go_ret
      exact ⟨by rw [HX.out]; rfl, rfl⟩

set_option maxHeartbeats 400000 in
theorem contains_c (v : Value) (l : List ByteArray) (s : ByteArray) (w : World) (hv : SVal w v l) :
    Calls Try.prog 56 #[v, .string s] w fun e w' => e = .returned (.bool (hasS s l)) ∧ w = w' := by
  have hc := index_c v l s w hv
  have hi := idxS_neg s l 0 (by decide)
  obtain ⟨a, cap, rfl⟩ := hv.slice
  have HC := Lib.hid hc
  clear hc hv
  generalize idxS s l 0 = E at *
  by_cases hp : hasS s l = true
  · have h : 0 ≤ E := hi.2 hp
    have HP : Hid (hasS s l = true) := hp
    clear hi hp
    generalize hasS s l = R at *
    go_enter Try.func56, Try.ntmps56
    go_wp2_with fail
    refine HC.out.mono ?_; rintro e w2 ⟨rfl, rfl⟩
    have g1 : decide (0 ≤ E) = true := decide_eq_true h
    go_wp2_with fail
    go_ret
    exact ⟨by rw [HP.out]; rfl, rfl⟩
  · have h : ¬ 0 ≤ E := fun h => hp (hi.1 h)
    have HP : Hid (hasS s l = false) := by show _ = _; simpa using hp
    clear hi hp
    generalize hasS s l = R at *
    go_enter Try.func56, Try.ntmps56
    go_wp2_with fail
    refine HC.out.mono ?_; rintro e w2 ⟨rfl, rfl⟩
    have g1 : decide (0 ≤ E) = false := decide_eq_false (by omega)
    go_wp2_with fail
    go_ret
    exact ⟨by rw [HP.out]; rfl, rfl⟩

def withinB (n lo hi : Int) : Bool := decide (lo ≤ n) && decide (n ≤ hi)
set_option maxHeartbeats 400000 in
theorem within_c (n lo hi : Int) (w : World) : Calls Try.prog 69 #[.int .i64 n, .int .i64 lo, .int .i64 hi] w fun e w' => e = .returned (.bool (withinB n lo hi)) ∧ w = w' := by
  by_cases h : lo ≤ n
  · have H : Hid (withinB n lo hi = decide (n ≤ hi)) := by show _ = _; unfold withinB; simp [h]
    generalize withinB n lo hi = E at *
    go_enter Try.func69, Try.ntmps69
    go_wp2
    go_ret
    exact ⟨by rw [H.out]; rfl, rfl⟩
  · have H : Hid (withinB n lo hi = false) := by show _ = _; unfold withinB; simp [h]
    generalize withinB n lo hi = E at *
    go_enter Try.func69, Try.ntmps69
    go_wp2
    go_ret
    exact ⟨by rw [H.out]; rfl, rfl⟩
end Go.Proofs.Ythcddboeejbncaa
namespace Go.Proofs.Ythcddboeejbncaa
open Go.RowKit

/-- Whether a byte may stand at a place of a name. -/
def badC (c : Int) (i : Nat) : Bool := !(decide (65 ≤ c) && decide (c ≤ 90)) && (decide (i = 0) || decide (c < 48) || decide (57 < c))
def nameGo : List UInt8 → Nat → Bool
  | [], _ => true
  | c :: cs, i => if badC c.toNat i = true then false else nameGo cs (i + 1)
def nameB (s : ByteArray) : Bool := nameGo s.data.toList 0 && (decide (s.size ≠ 0) && decide (s.size ≤ 8))
theorem nameGo_drop {l : List UInt8} {k : Nat} (h : k < l.length) : nameGo (l.drop k) k = if badC (l.getD k 0).toNat k = true then false else nameGo (l.drop (k + 1)) (k + 1) := by
  rw [List.drop_eq_getElem_cons h]
  conv => lhs; unfold nameGo
  simp [h]
theorem below_bytes (w : World) (e : TypeId) (s : ByteArray) : Below w.heap.size w (Lib.bytesWorld w e s) :=
  ⟨rfl, rfl, rfl, by rw [Lib.bytesWorld_size]; omega, fun k hk => Lib.bytesWorld_at_old w e s k hk⟩
theorem size_zero (s : ByteArray) : (s.toList == ByteArray.empty.toList) = decide (s.size = 0) := by
  by_cases h : s = ByteArray.empty
  · subst h; decide +kernel
  · rw [(Lib.bytes_beq_false_iff _ _).2 h, eq_comm, decide_eq_false_iff_not]
    intro h0
    exact h (ByteArray.ext (Array.eq_empty_of_size_eq_zero h0))

theorem toList_nil (s : ByteArray) : s.toList = [] ↔ s.size = 0 := by
  have h := size_zero s
  have e : ByteArray.empty.toList = [] := by decide +kernel
  rw [e] at h
  constructor
  · intro h1; rw [h1] at h; simpa using h.symm
  · intro h1
    have : decide (s.size = 0) = true := decide_eq_true h1
    rw [this] at h; simpa using h

set_option maxHeartbeats 1000000 in
theorem name_c (s : ByteArray) (w : World) (hs : s.size ≤ 9223372036854775807) :
    Calls Try.prog 67 #[.string s] w fun e w' => e = .returned (.bool (nameB s)) ∧ Below w.heap.size w w' := by
  have hcv : ∀ W : World, (convert 9 147 (.string s)).run Try.prog W = .ok (.slice (some ⟨W.heap.size, 0, none⟩) s.size (grownCap W s.size 0 5)) (Lib.bytesWorld W 5 s) := fun W =>
    Lib.run_convert_string_bytes W 9 147 5 s Try.underlying9 Try.underlying147 Try.underlying5
  have HN : Hid (nameB s = (nameGo s.data.toList 0 && (decide (s.size ≠ 0) && decide (s.size ≤ 8)))) := rfl
  generalize nameB s = R at *
  have hgo : Hid (nameGo (s.data.toList.drop 0) 0 = nameGo s.data.toList 0) := rfl
  generalize nameGo s.data.toList 0 = E at *
  go_enter Try.func67, Try.ntmps67
  go_wp2_with (rw [hcv])
  have hc : ∀ j, j < s.size → (Lib.bytesWorld w 5 s).cell? ⟨w.heap.size, j, none⟩ = some (.int .u8 (s.data.toList.getD j 0).toNat) := fun j hj => Lib.bytesWorld_cell w 5 s j hj
  have hsz := Lib.bytesWorld_size w 5 s
  have HB := Lib.hid (below_bytes w 5 s)
  have HC := Lib.hid hc
  have hlen : s.data.toList.length = s.size := by simp
  have HLen := Lib.hid hlen
  clear hc hcv hlen
  generalize Lib.bytesWorld w 5 s = W1 at *
  generalize grownCap w s.size 0 5 = cp at *
  go_loopw [9] (fun i wr => ∃ k : Nat, k ≤ s.size ∧ i = .int .i64 k ∧ Hid (nameGo (s.data.toList.drop k) k = E) ∧ W1 = wr) (fun i _ => s.size - (intOf i).toNat)
  case atStart => exact ⟨0, Nat.zero_le _, rfl, hgo, rfl⟩
  case round =>
    obtain ⟨k, hk, rfl, he, rfl⟩ := hrel
    by_cases hlt : k < s.size
    · have x0 := HC.out k hlt
      have hd := nameGo_drop (l := s.data.toList) (k := k) (by rw [HLen.out]; exact hlt)
      have c0 : (s.data.toList.getD k 0).toNat < 256 := UInt8.toNat_lt _
      generalize (s.data.toList.getD k 0).toNat = c at *
      have HD := Lib.hid (he.out.symm.trans hd)
      clear hd he
      cases hb : badC c k
      · have HP := Lib.hid (HD.out.trans (if_neg (by rw [hb]; decide)))
        have HBC := Lib.hid hb
        clear hb
        go_wp2_with fail
        all_goals first
          | (exfalso; have hq := HBC.out; unfold badC at hq; simp at * <;> omega)
          | (refine ⟨⟨k + 1, by omega, by go_num, by show _ = _; exact HP.out.symm, by first | rfl | trivial⟩, ?_⟩
             simp [intOf]; omega)
      · have HP := Lib.hid (HD.out.trans (if_pos hb))
        have HBC := Lib.hid hb
        clear hb
        go_wp2_with fail
        all_goals first
          | (exfalso; have hq := HBC.out; unfold badC at hq; simp at * <;> omega)
          | (go_ret
             exact ⟨by rw [HN.out, HP.out]; rfl, HB.out⟩)
    · have hkn : s.data.toList.drop k = [] := List.drop_eq_nil_of_le (by rw [HLen.out]; omega)
      have HX : Hid (E = true) := by show _ = _; rw [← he.out, hkn]; rfl
      have HR : Hid (R = (decide (s.size ≠ 0) && decide (s.size ≤ 8))) := by show _ = _; rw [HN.out, HX.out]; rfl
      clear he hkn
      by_cases h0 : s.size = 0
      · have h1 : s.toList = [] := (toList_nil s).2 h0
        have h2 : s.toList.isEmpty = true := by rw [h1]; rfl
        have HF : Hid (R = false) := by show _ = _; rw [HR.out]; simp [h0]
        clear h0
        go_wp2_with fail
        all_goals first
          | (go_ret
             exact ⟨by rw [HF.out]; rfl, HB.out⟩)
      · have h1 : ¬ s.toList = [] := fun h => h0 ((toList_nil s).1 h)
        have h2 : s.toList.isEmpty = false := by simpa using h1
        have HF : Hid (R = decide (s.size ≤ 8)) := by show _ = _; rw [HR.out]; simp [h0]
        clear h0
        go_wp2_with fail
        all_goals first
          | (go_ret
             exact ⟨by rw [HF.out]; simp; omega, HB.out⟩)
end Go.Proofs.Ythcddboeejbncaa
namespace Go.Proofs.Ythcddboeejbncaa
open Go.RowKit

theorem infoStr : (Try.prog.info? 9).map (fun i => (i.zero, i.size, i.bytes)) = some (some (.string ByteArray.empty), 1, 16) := by kernel_rfl

theorem row_own {W : World} {base : Nat} {e : TypeId} {sz n : Nat} {v : Value} {xs : List Value} (h : W.ownsRow base e sz v n xs) : ∀ j, v.ownBlock = some j → base ≤ j := by
  intro j hj
  rcases h.2 with ⟨rfl, _⟩ | ⟨g, cap, cur, rfl, hg, _⟩
  · cases hj
  · have : g = j := Option.some.inj hj
    omega
theorem row_slice {W : World} {base : Nat} {e : TypeId} {sz n : Nat} {v : Value} {xs : List Value} (h : W.ownsRow base e sz v n xs) : ∃ a c, v = .slice a n c := by
  rcases h.2 with ⟨rfl, rfl⟩ | ⟨g, cap, cur, rfl, _⟩
  · exact ⟨none, 0, rfl⟩
  · exact ⟨_, cap, rfl⟩
theorem row_succ {W : World} {base : Nat} {e : TypeId} {size : Nat} {v : Value} {k : Nat} {xs : List Value} (h : W.ownsRow base e size v (k + 1) xs) : ∃ g cap, v = .slice (some ⟨g, 0, none⟩) (k + 1) cap := by
  rcases h.2 with ⟨_, h0⟩ | ⟨g, cap, _, rfl, _⟩
  · omega
  · exact ⟨g, cap, rfl⟩
theorem row_alloc {W : World} {base : Nat} {e : TypeId} {sz n : Nat} {v : Value} {xs : List Value} (h : W.ownsRow base e sz v n xs) (o : Obj) : (W.alloc o).ownsRow base e sz v n xs :=
  h.kept (World.grownBy_alloc _ _ none) (by
    rcases h.2 with ⟨e, _⟩ | ⟨g, cap, cur, e, _⟩
    · exact .inl (by rw [e]; rfl)
    · exact .inr (fun k => by rw [e] at k; cases k))
theorem row_kept {W W' : World} {base b : Nat} {e : TypeId} {sz n : Nat} {v : Value} {xs : List Value} (h : W.ownsRow base e sz v n xs) (k : W.grownBy W' (some b)) (hb : b < base) : W'.ownsRow base e sz v n xs :=
  h.kept k (by
    rcases h.2 with ⟨rfl, _⟩ | ⟨g, cap, cur, rfl, hg, _⟩
    · exact .inl rfl
    · exact .inr (fun e => by have : g = b := Option.some.inj e; omega))
theorem row_below {W W' : World} {base : Nat} {e : TypeId} {sz n : Nat} {v : Value} {xs : List Value} (h : W.ownsRow base e sz v n xs) (k : Below W.heap.size W W') : W'.ownsRow base e sz v n xs :=
  h.kept (row := none) ⟨k.os, k.tape, k.output, k.size, fun i hi _ => k.block i hi⟩ (by
    rcases h.2 with ⟨e, _⟩ | ⟨g, cap, cur, e, _⟩
    · exact .inl (by rw [e]; rfl)
    · exact .inr (fun k => by rw [e] at k; cases k))

/-- The names that were met, in block b and a row behind it. -/
def NS (b : Nat) (met : List ByteArray) (W : World) : Prop :=
  ∃ lv, Blk W b #[lv] 105 ∧ W.ownsRow (b + 1) 9 1 lv met.length (strs met) ∧ b + 1 ≤ W.heap.size
theorem NS.below {b : Nat} {met : List ByteArray} {W W' : World} (h : NS b met W) (k : Below W.heap.size W W') : NS b met W' := by
  obtain ⟨lv, h1, h2, h3⟩ := h
  exact ⟨lv, below_blk k h1 (by omega), row_below h2 k, Nat.le_trans h3 k.size⟩
/-- What add leaves alone: all but the block of the names and the row's own block. -/
def Frame (b : Nat) (W W' : World) : Prop := ∀ j, j < W.heap.size → j ≠ b → (∀ lv, Blk W b #[lv] 105 → lv.ownBlock ≠ some j) → W'.heap[j]? = W.heap[j]?
theorem Frame.of_below {b : Nat} {W W' : World} (h : Below W.heap.size W W') : Frame b W W' := fun j hj _ _ => h.block j hj
theorem Frame.after {b : Nat} {W w1 w2 : World} (h : Below W.heap.size W w1) (hb : b < W.heap.size) (k : Frame b w1 w2) : Frame b W w2 := fun j hj h1 h2 => by
  rw [k j (Nat.lt_of_lt_of_le hj h.size) h1 (fun lv hl => h2 lv (by unfold Blk at hl ⊢; rw [← h.block b hb]; exact hl)), h.block j hj]
theorem NS.push {b : Nat} {met : List ByteArray} {lv v' : Value} {s : ByteArray} {W w3 : World} (h1 : Blk W b #[lv] 105) (h2 : W.ownsRow (b + 1) 9 1 lv met.length (strs met)) (h3 : b + 1 ≤ W.heap.size)
    (hown : w3.ownsRow (b + 1) 9 1 v' (met.length + 1) (strs met ++ [.string s])) (hgrow : (W.alloc (.cells #[.string s] 9)).grownBy w3 lv.ownBlock) :
    NS b (met ++ [s]) (w3.setCell ⟨b, 0, none⟩ v') ∧ Below b W (w3.setCell ⟨b, 0, none⟩ v') ∧ Frame b W (w3.setCell ⟨b, 0, none⟩ v') := by
  have k1 : Below (b + 1) W w3 := Below.grown ((Below.refl (b + 1) W).alloc h3 _) hgrow (by simp; omega) (row_own h2)
  have k2 : But b w3 (w3.setCell ⟨b, 0, none⟩ v') := (But.refl _ _).set 0 _
  have k3 : Below b W (w3.setCell ⟨b, 0, none⟩ v') := But.below (k1.mono (Nat.le_succ b)) k2 (Nat.le_refl _) (by omega)
  refine ⟨⟨v', ((below_blk k1 h1 (Nat.lt_succ_self b)).set 0 _).congr (by simp), ?_, Nat.le_trans h3 k3.size⟩, k3, ?_⟩
  · have := row_kept hown k2 (Nat.lt_succ_self b)
    simpa [strs] using this
  · intro j hj h5 h6
    have e1 := k2.block j (Nat.lt_of_lt_of_le (by simp; omega) hgrow.size) (fun e => h5 (Option.some.inj e))
    have e2 := hgrow.block j (by simp; omega) (fun e => h6 lv h1 e.symm)
    rw [e1, e2, Below.heap_alloc _ _ _ hj]

/-- What add does. -/
def addR (met : List ByteArray) (s : ByteArray) : Int × List ByteArray :=
  if nameB s = false then (5, met) else if hasS s met = true then (7, met) else (0, met ++ [s])

set_option maxHeartbeats 2000000 in
theorem add_c (b : Nat) (met : List ByteArray) (s : ByteArray) (hs : s.size ≤ 9223372036854775807) (hm : met.length ≤ 1000) (W : World) (h : NS b met W) :
    Calls Try.prog 52 #[.pointer (some ⟨b, 0, none⟩), .string s] W fun e w' => e = .returned (.int .i64 (addR met s).1) ∧ NS b (addR met s).2 w' ∧ Below b W w' ∧ Frame b W w' := by
  have HN := Lib.hid (name_c s W hs)
  have H : Hid (addR met s = if nameB s = false then (5, met) else if hasS s met = true then (7, met) else (0, met ++ [s])) := rfl
  generalize addR met s = R at *
  have HNS := Lib.hid h
  have hbW : b ≤ W.heap.size := by obtain ⟨_, _, _, h⟩ := h; omega
  have hbl : b < W.heap.size := by obtain ⟨_, _, _, h⟩ := h; omega
  cases hn : nameB s
  · have HR := Lib.hid (H.out.trans (if_pos hn))
    rw [hn] at HN
    clear H h
    go_enter Try.func52, Try.ntmps52
    go_wp2_with fail
    refine HN.out.mono ?_; rintro e w1 ⟨rfl, b1⟩
    have B1 := Lib.hid b1
    clear b1
    go_wp2_with fail
    go_ret
    rw [HR.out]
    exact ⟨rfl, HNS.out.below B1.out, B1.out.mono hbW, Frame.of_below B1.out⟩
  rw [hn] at HN
  have H2 := Lib.hid (H.out.trans (if_neg (by rw [hn]; decide)))
  clear H hn h
  obtain ⟨m, hmm⟩ : ∃ m, met.length = m := ⟨_, rfl⟩
  have HM := Lib.hid hmm
  rw [hmm] at hm
  clear hmm
  obtain ⟨i0, hi0, hz0, hz1, hz2⟩ := info_parts infoStr
  cases hh : hasS s met
  · have HR := Lib.hid (H2.out.trans (if_neg (by rw [hh]; decide)))
    have HH := Lib.hid hh
    clear H2 hh
    go_enter Try.func52, Try.ntmps52
    go_wp2_with fail
    refine HN.out.mono ?_; rintro e w1 ⟨rfl, b1⟩
    have hns := HNS.out.below b1
    obtain ⟨lv, l1, l2, l3⟩ := hns
    rw [HM.out] at l2
    obtain ⟨la, lc, rfl⟩ := row_slice l2
    have HC := Lib.hid (contains_c (.slice la m lc) met s w1 (by show Reads _ _ _ _; rw [HM.out]; exact Reads.of_owns l2 (by omega)))
    rw [HH.out] at HC
    have x0 := l1.cell 0 rfl
    have B1 := Lib.hid b1
    have L1 := Lib.hid l1
    have L2 := Lib.hid l2
    have L3 := Lib.hid l3
    have HL : Hid ((w1.alloc (.cells #[.string s] 9)).ownsRow (b + 1) 9 1 (.slice la m lc) m (strs met)) := row_alloc l2 _
    have lb := l1.lt
    clear b1 l1 l2 HNS
    go_wp2_with fail
    refine HC.out.mono ?_; rintro e w2 ⟨rfl, rfl⟩
    clear HC
    go_wp2_with (at_builtin; refine wpList_append_own _ rfl _ _ 22 rfl (b + 1) 9 i0 (.string ByteArray.empty) 1 16 Try.underlying22 hi0 hz0 hz1 hz2 rfl (by decide) _ m (strs met) rfl HL.out ⟨w1.heap.size, 0, none⟩ 1 1 [.string s] rfl rfl (cell_one_new _ _ _) (strs_one [s]) (by unfold maxLen; omega) (by omega) (by simp; omega) ?_; intro v' w3 hown' hgrow3 hnil3; obtain ⟨g3, cap3, rfl⟩ := row_succ hown'; have z1 : Blk w3 b #[.slice la m lc] 105 := below_blk (Below.grown ((Below.refl (b + 1) w1).alloc L3.out _) hgrow3 (by simp; omega) (row_own L2.out)) L1.out (Nat.lt_succ_self b); have z0 := z1.cell 0 rfl; have zf := z1.free 0; have HOW := Lib.hid hown'; have HGR := Lib.hid hgrow3; clear hown' hgrow3 hnil3 x0 z1)
    go_ret
    rw [HR.out]
    have hp := NS.push L1.out (by rw [HM.out]; exact L2.out) L3.out (by rw [HM.out]; exact HOW.out) HGR.out
    exact ⟨rfl, hp.1, (B1.out.mono hbW).trans hp.2.1, Frame.after B1.out hbl hp.2.2⟩
  · have HR := Lib.hid (H2.out.trans (if_pos hh))
    have HH := Lib.hid hh
    clear H2 hh
    go_enter Try.func52, Try.ntmps52
    go_wp2_with fail
    refine HN.out.mono ?_; rintro e w1 ⟨rfl, b1⟩
    have hns := HNS.out.below b1
    have HNS1 := Lib.hid hns
    obtain ⟨lv, l1, l2, l3⟩ := hns
    rw [HM.out] at l2
    obtain ⟨la, lc, rfl⟩ := row_slice l2
    have HC := Lib.hid (contains_c (.slice la m lc) met s w1 (by show Reads _ _ _ _; rw [HM.out]; exact Reads.of_owns l2 (by omega)))
    rw [HH.out] at HC
    have x0 := l1.cell 0 rfl
    have B1 := Lib.hid b1
    clear b1 l1 l2 HNS
    go_wp2_with fail
    refine HC.out.mono ?_; rintro e w2 ⟨rfl, rfl⟩
    go_wp2_with fail
    go_ret
    rw [HR.out]
    exact ⟨rfl, HNS1.out, B1.out.mono hbW, Frame.of_below B1.out⟩
end Go.Proofs.Ythcddboeejbncaa
namespace Go.Proofs.Ythcddboeejbncaa
open Go.RowKit

def endsE (nl ls : List ByteArray) : Int := if ls.all (fun s => hasS s nl) = true then 0 else 6
theorem all_drop {p : ByteArray → Bool} {l : List ByteArray} {k : Nat} (h : k < l.length) : (l.drop k).all p = (p (l.getD k ByteArray.empty) && (l.drop (k + 1)).all p) := by
  rw [List.drop_eq_getElem_cons h, List.all_cons]; simp [h]

/-- A network as a value: six slices. -/
abbrev netV (na : Option Addr) (nn nc : Nat) (sa : Option Addr) (sn sc : Nat) (ba : Option Addr) (bn bc : Nat) (ga : Option Addr) (gn gc : Nat) (la : Option Addr) (ln lc : Nat) (ta : Option Addr) (tn tc : Nat) : Value :=
  .agg #[.slice na nn nc, .slice sa sn sc, .slice ba bn bc, .slice ga gn gc, .slice la ln lc, .slice ta tn tc]

set_option maxHeartbeats 1000000 in
theorem ends_c (na : Option Addr) (nn nc : Nat) (sa : Option Addr) (sn sc : Nat) (ba : Option Addr) (bn bc : Nat) (ga : Option Addr) (gn gc : Nat) (la : Option Addr) (ln lc : Nat) (ta : Option Addr) (tn tc : Nat)
    (nl ls : List ByteArray) (v : Value) (w : World) (hn : nl.length = nn) (hnl : Reads w (.slice na nn nc) nn (strs nl)) (hls : SVal w v ls) :
    Calls Try.prog 68 #[netV na nn nc sa sn sc ba bn bc ga gn gc la ln lc ta tn tc, v] w fun e w' => e = .returned (.int .i64 (endsE nl ls)) ∧ Below w.heap.size w w' := by
  obtain ⟨a, cap, rfl⟩ := hls.slice
  have hm0 : ls.length ≤ 9223372036854775807 := by
    rcases hls with ⟨h, _⟩ | ⟨_, _, _, _, _, h, _⟩
    · omega
    · exact h
  have HE : Hid (endsE nl ls = if (ls.drop 0).all (fun s => hasS s nl) = true then 0 else 6) := rfl
  generalize endsE nl ls = E at *
  obtain ⟨m, hM⟩ : ∃ m, ls.length = m := ⟨_, rfl⟩
  have HM := Lib.hid hM
  have HL : Hid (Reads w (.slice a m cap) m (strs ls)) := by show Reads _ _ _ _; rw [← hM]; exact hls
  have HC : Hid (∀ s W, Below w.heap.size w W → Calls Try.prog 56 #[.slice na nn nc, .string s] W fun e w' => e = .returned (.bool (hasS s nl)) ∧ W = w') := fun s W hW =>
    contains_c (.slice na nn nc) nl s W (by show Reads _ _ _ _; rw [hn]; exact hnl.below hW)
  rw [hM] at hm0 ⊢
  clear hls hM hnl
  go_enter Try.func68, Try.ntmps68
  go_wp2_with fail
  have B0 := Lib.hid (belowA (Below.refl _ w) (.cells #[.slice na nn nc, .slice sa sn sc, .slice ba bn bc, .slice ga gn gc, .slice la ln lc, .slice ta tn tc] 29))
  have k1 := Blk.new w #[.slice na nn nc, .slice sa sn sc, .slice ba bn bc, .slice ga gn gc, .slice la ln lc, .slice ta tn tc] 29
  have x0 : (w.alloc (.cells #[.slice na nn nc, .slice sa sn sc, .slice ba bn bc, .slice ga gn gc, .slice la ln lc, .slice ta tn tc] 29)).cell? ⟨w.heap.size, 0, none⟩ = some (.slice na nn nc) := k1.cell 0 rfl
  have lw : w.heap.size < (w.alloc (.cells #[.slice na nn nc, .slice sa sn sc, .slice ba bn bc, .slice ga gn gc, .slice la ln lc, .slice ta tn tc] 29)).heap.size := k1.lt
  clear k1
  generalize w.alloc (.cells #[.slice na nn nc, .slice sa sn sc, .slice ba bn bc, .slice ga gn gc, .slice la ln lc, .slice ta tn tc] 29) = W1 at *
  go_loopw [9] (fun i wr => ∃ k : Nat, k ≤ m ∧ i = .int .i64 k ∧ Hid (E = if (ls.drop k).all (fun s => hasS s nl) = true then 0 else 6) ∧ W1 = wr) (fun i _ => m - (intOf i).toNat)
  case atStart => exact ⟨0, Nat.zero_le _, rfl, HE, rfl⟩
  case round =>
    obtain ⟨k, hk, rfl, he, rfl⟩ := hrel
    by_cases hlt : k < m
    · obtain ⟨b, off, cap', hvv, _, _, hbl, hc⟩ := HL.out.addr (by omega)
      simp only [Value.slice.injEq] at hvv
      obtain ⟨rfl, _, rfl⟩ := hvv
      have hlk : k < ls.length := by rw [HM.out]; exact hlt
      have y0 := hc k _ (strs_get hlk)
      rw [← B0.out.cell (by exact hbl)] at y0
      have hd := he.out
      rw [all_drop hlk] at hd
      have HCk := Lib.hid (HC.out (ls.getD k ByteArray.empty) W1 B0.out)
      generalize ls.getD k ByteArray.empty = s at *
      have HD := Lib.hid hd
      clear hd hc he
      cases hh : hasS s nl
      · have HR : Hid (E = 6) := by show _ = _; rw [HD.out, hh]; rfl
        rw [hh] at HCk
        clear hh HD
        go_wp2_with fail
        refine HCk.out.mono ?_; rintro e w2 ⟨rfl, rfl⟩
        go_wp2_with fail
        go_ret
        exact ⟨by rw [HR.out]; rfl, B0.out⟩
      · have HR : Hid (E = if (ls.drop (k + 1)).all (fun s => hasS s nl) = true then 0 else 6) := by show _ = _; rw [HD.out, hh, Bool.true_and]
        rw [hh] at HCk
        clear hh HD
        go_wp2_with fail
        refine HCk.out.mono ?_; rintro e w2 ⟨rfl, rfl⟩
        go_wp2_with fail
        go_roundw
        case rel => exact ⟨k + 1, by omega, by go_num, HR, by first | rfl | trivial⟩
        case measure => simp [intOf]; omega
    · have hkn : ls.drop k = [] := List.drop_eq_nil_of_le (by rw [HM.out]; omega)
      have HX : Hid (E = 0) := by show _ = _; rw [he.out, hkn]; rfl
      clear he hkn
      go_wp2_with fail
      go_ret
      exact ⟨by rw [HX.out]; rfl, B0.out⟩

/-- What device does. -/
def deviceE (nl met : List ByteArray) (s : ByteArray) (ls : List ByteArray) : Int := if (addR met s).1 ≠ 0 then (addR met s).1 else endsE nl ls

theorem Reads.low {b n c : Nat} {a : Option Addr} {w w' : World} {cs : List Value} (h : Reads w (.slice a n c) n cs) (ha : cs ≠ [] → ∀ x, a = some x → x.block < b) (k : Below b w w') : Reads w' (.slice a n c) n cs := by
  rcases h with h | ⟨g, off, cap, h1, h2, h3, h4, h5⟩
  · exact Or.inl h
  · cases h1
    exact Or.inr ⟨g, off, c, rfl, h2, h3, Nat.lt_of_lt_of_le h4 k.size, fun j u hj => by rw [k.cell (by have := ha (fun h => by rw [h] at hj; cases hj) ⟨g, off, none⟩ rfl; exact this)]; exact h5 j u hj⟩
theorem Reads.same {g n c : Nat} {w w' : World} {cs : List Value} (h : Reads w (.slice (some ⟨g, 0, none⟩) n c) n cs) (hg : w'.heap[g]? = w.heap[g]?) (hs : w.heap.size ≤ w'.heap.size) : Reads w' (.slice (some ⟨g, 0, none⟩) n c) n cs := by
  rcases h with h | ⟨g', off, cap, h1, h2, h3, h4, h5⟩
  · exact Or.inl h
  · cases h1
    exact Or.inr ⟨g, 0, c, rfl, h2, h3, Nat.lt_of_lt_of_le h4 hs, fun j u hj => by rw [World.cell?_of_block (w := w) hg]; exact h5 j u hj⟩
theorem Reads.at_lt {g n c : Nat} {w : World} {cs : List Value} (h : Reads w (.slice (some ⟨g, 0, none⟩) n c) n cs) (hn : 0 < n) : g < w.heap.size := by
  obtain ⟨g', off, cap, h1, _, _, h4, _⟩ := h.addr hn
  cases h1; exact h4
theorem NS.own_lt {b : Nat} {met : List ByteArray} {W : World} (h : NS b met W) : ∀ lv, Blk W b #[lv] 105 → ∀ j, lv.ownBlock = some j → j < W.heap.size := by
  obtain ⟨lv0, h1, h2, h3⟩ := h
  intro lv hl j hj
  have e : lv = lv0 := by
    unfold Blk at h1 hl
    rw [h1] at hl
    injection hl with hl; injection hl with hl; simpa using hl.symm
  subst e
  rcases h2.2 with ⟨rfl, _⟩ | ⟨g, cap, cur, rfl, _, hh, _⟩
  · cases hj
  · have : g = j := Option.some.inj hj
    rw [← this]; exact (Array.getElem?_eq_some_iff.1 hh).1

theorem Frame.before {b : Nat} {W w1 w2 : World} (k : Frame b W w1) (hs : W.heap.size ≤ w1.heap.size) (h : Below w1.heap.size w1 w2) : Frame b W w2 := fun j hj h1 h2 => by
  rw [h.block j (Nat.lt_of_lt_of_le hj hs), k j hj h1 h2]

set_option maxHeartbeats 1000000 in
theorem device_c (na : Option Addr) (nn nc : Nat) (sa : Option Addr) (sn sc : Nat) (ba : Option Addr) (bn bc : Nat) (ga : Option Addr) (gn gc : Nat) (la : Option Addr) (ln lc : Nat) (ta : Option Addr) (tn tc : Nat)
    (nl met ls : List ByteArray) (s : ByteArray) (b g mm cc : Nat) (w : World) (hn : nl.length = nn) (hnl : Reads w (.slice na nn nc) nn (strs nl)) (hnb : strs nl ≠ [] → ∀ x, na = some x → x.block < b)
    (hlm : ls.length = mm) (hm1 : 0 < mm) (hls : Reads w (.slice (some ⟨g, 0, none⟩) mm cc) mm (strs ls)) (hg1 : g ≠ b) (hg2 : ∀ lv, Blk w b #[lv] 105 → lv.ownBlock ≠ some g)
    (hs : s.size ≤ 9223372036854775807) (hm : met.length ≤ 1000) (h : NS b met w) :
    Calls Try.prog 53 #[netV na nn nc sa sn sc ba bn bc ga gn gc la ln lc ta tn tc, .pointer (some ⟨b, 0, none⟩), .string s, .slice (some ⟨g, 0, none⟩) mm cc] w fun e w' =>
      e = .returned (.int .i64 (deviceE nl met s ls)) ∧ NS b (addR met s).2 w' ∧ Below b w w' ∧ Frame b w w' := by
  have hb : b < w.heap.size := by obtain ⟨_, _, _, h⟩ := h; omega
  have H : Hid (deviceE nl met s ls = if (addR met s).1 ≠ 0 then (addR met s).1 else endsE nl ls) := rfl
  generalize deviceE nl met s ls = E at *
  generalize hW1 : w.alloc (.cells #[.slice na nn nc, .slice sa sn sc, .slice ba bn bc, .slice ga gn gc, .slice la ln lc, .slice ta tn tc] 29) = W1
  have k1 : Blk W1 w.heap.size #[.slice na nn nc, .slice sa sn sc, .slice ba bn bc, .slice ga gn gc, .slice la ln lc, .slice ta tn tc] 29 := by rw [← hW1]; exact Blk.new _ _ _
  have B1 : Below w.heap.size w W1 := by rw [← hW1]; exact belowA (Below.refl _ w) _
  have HA := Lib.hid (add_c b met s hs hm W1 (h.below B1))
  have hgl := hls.at_lt hm1
  have up : ∀ lv, Blk W1 b #[lv] 105 → Blk w b #[lv] 105 := fun lv hl => by unfold Blk at hl ⊢; rw [← B1.block b hb]; exact hl
  have F : Hid (∀ w2, Below b W1 w2 → Frame b W1 w2 → Blk w2 w.heap.size #[.slice na nn nc, .slice sa sn sc, .slice ba bn bc, .slice ga gn gc, .slice la ln lc, .slice ta tn tc] 29 ∧
      Reads w2 (.slice na nn nc) nn (strs nl) ∧ Reads w2 (.slice (some ⟨g, 0, none⟩) mm cc) mm (strs ls) ∧ Below b w w2 ∧ Frame b w w2) := fun w2 hb2 hf => by
    have e1 := hf w.heap.size k1.lt (by omega) (fun lv hl e => absurd (h.own_lt lv (up lv hl) _ e) (Nat.lt_irrefl _))
    have e2 := hf g (Nat.lt_of_lt_of_le hgl B1.size) hg1 (fun lv hl => hg2 lv (up lv hl))
    exact ⟨by unfold Blk at k1 ⊢; rw [e1]; exact k1, (hnl.below B1).low hnb hb2, (hls.below B1).same e2 hb2.size, (B1.mono (Nat.le_of_lt hb)).trans hb2, Frame.after B1 hb hf⟩
  clear hls hnl h up B1 k1 hg2
  generalize addR met s = P at *
  obtain ⟨pc, pm⟩ := P
  simp only at HA H ⊢
  go_enter Try.func53, Try.ntmps53
  go_wp2_with fail
  refine HA.out.mono ?_; rintro e w2 ⟨rfl, hns, hb2, hf⟩
  obtain ⟨k2, hr1, hr2, hbw, hfw⟩ := F.out w2 hb2 hf
  have HFW := Lib.hid hfw
  have HNS := Lib.hid hns
  have HBW := Lib.hid hbw
  clear hns hbw hf hfw HA F hW1
  by_cases hp : pc = 0
  · have g1 : (pc != 0) = false := by simp [hp]
    have HR := Lib.hid (H.out.trans (if_neg (fun h => h hp)))
    have HEn := Lib.hid (ends_c na nn nc sa sn sc ba bn bc ga gn gc la ln lc ta tn tc nl ls (.slice (some ⟨g, 0, none⟩) mm cc) w2 hn hr1 (by show Reads _ _ _ _; rw [hlm]; exact hr2))
    have x0 := k2.cell 0 rfl
    have x1 := k2.cell 1 rfl
    have x2 := k2.cell 2 rfl
    have x3 := k2.cell 3 rfl
    have x4 := k2.cell 4 rfl
    have x5 := k2.cell 5 rfl
    clear hp H k2 hr1 hr2
    go_wp2_with fail
    refine HEn.out.mono ?_; rintro e w3 ⟨rfl, b3⟩
    have B3 := Lib.hid b3
    clear b3 HEn
    go_wp2_with fail
    go_ret
    exact ⟨by rw [HR.out]; rfl, HNS.out.below B3.out, HBW.out.trans (B3.out.mono (Nat.le_trans (Nat.le_of_lt hb) HBW.out.size)), HFW.out.before HBW.out.size B3.out⟩
  · have g1 : (pc != 0) = true := by simp [hp]
    have HR := Lib.hid (H.out.trans (if_pos hp))
    clear hp H k2 hr1 hr2
    go_wp2_with fail
    go_ret
    exact ⟨by rw [HR.out]; rfl, HNS.out, HBW.out, HFW.out⟩
end Go.Proofs.Ythcddboeejbncaa
namespace Go.Proofs.Ythcddboeejbncaa
open Go.RowKit

def SizesOk (nn sn bn gn ln tn : Nat) : Prop := nn ≤ 24 ∧ sn ≤ 32 ∧ bn ≤ 24 ∧ gn ≤ 10 ∧ ln ≤ 12 ∧ tn ≤ 4
instance (nn sn bn gn ln tn : Nat) : Decidable (SizesOk nn sn bn gn ln tn) := by unfold SizesOk; infer_instance
def sizesE (nn sn bn gn ln tn : Nat) : Int := if SizesOk nn sn bn gn ln tn then 0 else 2
theorem ret_int {k : IntKind} {a b : Int} (h : a = b) : Ending.returned (.int k a) = .returned (.int k b) := by rw [h]

set_option maxHeartbeats 1000000 in
theorem sizes_c (na : Option Addr) (nn nc : Nat) (sa : Option Addr) (sn sc : Nat) (ba : Option Addr) (bn bc : Nat) (ga : Option Addr) (gn gc : Nat) (la : Option Addr) (ln lc : Nat) (ta : Option Addr) (tn tc : Nat) (w : World) :
    Calls Try.prog 51 #[netV na nn nc sa sn sc ba bn bc ga gn gc la ln lc ta tn tc] w fun e w' => e = .returned (.int .i64 (sizesE nn sn bn gn ln tn)) ∧ Below w.heap.size w w' := by
  by_cases h1 : nn ≤ 24 ∧ sn ≤ 32 ∧ bn ≤ 24
  · by_cases h2 : gn ≤ 10 ∧ ln ≤ 12 ∧ tn ≤ 4
    · have HR : Hid (sizesE nn sn bn gn ln tn = 0) := if_pos ⟨h1.1, h1.2.1, h1.2.2, h2⟩
      obtain ⟨a1, a2, a3⟩ := h1
      obtain ⟨a4, a5, a6⟩ := h2
      generalize sizesE nn sn bn gn ln tn = E at *
      have g1 : decide ((24 : Int) < nn) = false := decide_eq_false (by omega)
      have g2 : decide ((32 : Int) < sn) = false := decide_eq_false (by omega)
      have g3 : decide ((24 : Int) < bn) = false := decide_eq_false (by omega)
      have g4 : decide ((10 : Int) < gn) = false := decide_eq_false (by omega)
      have g5 : decide ((12 : Int) < ln) = false := decide_eq_false (by omega)
      have g6 : decide ((4 : Int) < tn) = false := decide_eq_false (by omega)
      go_enter Try.func51, Try.ntmps51
      go_wp2
      all_goals (go_ret; exact ⟨by rw [HR.out]; rfl, belowA (Below.refl _ w) _⟩)
    · have HR : Hid (sizesE nn sn bn gn ln tn = 2) := if_neg (fun h => h2 h.2.2.2)
      obtain ⟨a1, a2, a3⟩ := h1
      generalize sizesE nn sn bn gn ln tn = E at *
      have g1 : decide ((24 : Int) < nn) = false := decide_eq_false (by omega)
      have g2 : decide ((32 : Int) < sn) = false := decide_eq_false (by omega)
      have g3 : decide ((24 : Int) < bn) = false := decide_eq_false (by omega)
      have H2 := Lib.hid h2
      clear h2
      go_enter Try.func51, Try.ntmps51
      go_wp2
      all_goals first
        | (exfalso; apply H2.out; omega)
        | (go_ret; exact ⟨by rw [HR.out]; rfl, belowA (Below.refl _ w) _⟩)
  · have HR : Hid (sizesE nn sn bn gn ln tn = 2) := if_neg (fun h => h1 ⟨h.1, h.2.1, h.2.2.1⟩)
    generalize sizesE nn sn bn gn ln tn = E at *
    have H1 := Lib.hid h1
    clear h1
    go_enter Try.func51, Try.ntmps51
    go_wp2
    all_goals first
      | (exfalso; apply H1.out; omega)
      | (go_ret; exact ⟨by rw [HR.out]; rfl, belowA (Below.refl _ w) _⟩)
end Go.Proofs.Ythcddboeejbncaa
namespace Go.Proofs.Ythcddboeejbncaa
open Go.RowKit

/-- Whether the numbers of a branch are permitted. -/
def brB (x tap sh lim shrt hold : Int) : Bool := withinB x 1 10000 && (withinB tap 500 1500 && (withinB sh (-1000) 1000 && (withinB lim 0 100000 && (withinB shrt lim 100000 && withinB hold 0 200000))))
def brE (x tap sh lim shrt hold : Int) : Int := if brB x tap sh lim shrt hold = true then 0 else 4

set_option maxHeartbeats 2000000 in
theorem branch_c (nm fr to : ByteArray) (x tap sh lim shrt hold : Int) (w : World) :
    Calls Try.prog 54 #[.agg #[.string nm, .string fr, .string to, .int .i64 x, .int .i64 tap, .int .i64 sh, .int .i64 lim, .int .i64 shrt, .int .i64 hold]] w fun e w' => e = .returned (.int .i64 (brE x tap sh lim shrt hold)) ∧ Below w.heap.size w w' := by
  have H1 := Lib.hid (fun W => within_c x 1 10000 W)
  have H2 := Lib.hid (fun W => within_c tap 500 1500 W)
  have H3 := Lib.hid (fun W => within_c sh (-1000) 1000 W)
  have H4 := Lib.hid (fun W => within_c lim 0 100000 W)
  have H5 := Lib.hid (fun W => within_c shrt lim 100000 W)
  have H6 := Lib.hid (fun W => within_c hold 0 200000 W)
  have HE : Hid (brE x tap sh lim shrt hold = if (withinB x 1 10000 && (withinB tap 500 1500 && (withinB sh (-1000) 1000 && (withinB lim 0 100000 && (withinB shrt lim 100000 && withinB hold 0 200000))))) = true then 0 else 4) := rfl
  generalize brE x tap sh lim shrt hold = E at *
  generalize withinB x 1 10000 = q1 at *
  generalize withinB tap 500 1500 = q2 at *
  generalize withinB sh (-1000) 1000 = q3 at *
  generalize withinB lim 0 100000 = q4 at *
  generalize withinB shrt lim 100000 = q5 at *
  generalize withinB hold 0 200000 = q6 at *
  cases q1
  · have HR : Hid (E = 4) := HE.out
    go_enter Try.func54, Try.ntmps54
    go_wp2_with fail
    refine (H1.out _).mono ?_; rintro e w' ⟨rfl, rfl⟩
    go_wp2_with fail
    go_ret
    exact ⟨by rw [HR.out]; rfl, belowA (Below.refl _ w) _⟩
  cases q2
  · have HR : Hid (E = 4) := HE.out
    go_enter Try.func54, Try.ntmps54
    go_wp2_with fail
    refine (H1.out _).mono ?_; rintro e w' ⟨rfl, rfl⟩
    go_wp2_with fail
    refine (H2.out _).mono ?_; rintro e w' ⟨rfl, rfl⟩
    go_wp2_with fail
    go_ret
    exact ⟨by rw [HR.out]; rfl, belowA (Below.refl _ w) _⟩
  cases q3
  · have HR : Hid (E = 4) := HE.out
    go_enter Try.func54, Try.ntmps54
    go_wp2_with fail
    refine (H1.out _).mono ?_; rintro e w' ⟨rfl, rfl⟩
    go_wp2_with fail
    refine (H2.out _).mono ?_; rintro e w' ⟨rfl, rfl⟩
    go_wp2_with fail
    refine (H3.out _).mono ?_; rintro e w' ⟨rfl, rfl⟩
    go_wp2_with fail
    go_ret
    exact ⟨by rw [HR.out]; rfl, belowA (Below.refl _ w) _⟩
  cases q4
  · have HR : Hid (E = 4) := HE.out
    go_enter Try.func54, Try.ntmps54
    go_wp2_with fail
    refine (H1.out _).mono ?_; rintro e w' ⟨rfl, rfl⟩
    go_wp2_with fail
    refine (H2.out _).mono ?_; rintro e w' ⟨rfl, rfl⟩
    go_wp2_with fail
    refine (H3.out _).mono ?_; rintro e w' ⟨rfl, rfl⟩
    go_wp2_with fail
    refine (H4.out _).mono ?_; rintro e w' ⟨rfl, rfl⟩
    go_wp2_with fail
    go_ret
    exact ⟨by rw [HR.out]; rfl, belowA (Below.refl _ w) _⟩
  cases q5
  · have HR : Hid (E = 4) := HE.out
    go_enter Try.func54, Try.ntmps54
    go_wp2_with fail
    refine (H1.out _).mono ?_; rintro e w' ⟨rfl, rfl⟩
    go_wp2_with fail
    refine (H2.out _).mono ?_; rintro e w' ⟨rfl, rfl⟩
    go_wp2_with fail
    refine (H3.out _).mono ?_; rintro e w' ⟨rfl, rfl⟩
    go_wp2_with fail
    refine (H4.out _).mono ?_; rintro e w' ⟨rfl, rfl⟩
    go_wp2_with fail
    refine (H5.out _).mono ?_; rintro e w' ⟨rfl, rfl⟩
    go_wp2_with fail
    go_ret
    exact ⟨by rw [HR.out]; rfl, belowA (Below.refl _ w) _⟩
  cases q6
  · have HR : Hid (E = 4) := HE.out
    go_enter Try.func54, Try.ntmps54
    go_wp2_with fail
    refine (H1.out _).mono ?_; rintro e w' ⟨rfl, rfl⟩
    go_wp2_with fail
    refine (H2.out _).mono ?_; rintro e w' ⟨rfl, rfl⟩
    go_wp2_with fail
    refine (H3.out _).mono ?_; rintro e w' ⟨rfl, rfl⟩
    go_wp2_with fail
    refine (H4.out _).mono ?_; rintro e w' ⟨rfl, rfl⟩
    go_wp2_with fail
    refine (H5.out _).mono ?_; rintro e w' ⟨rfl, rfl⟩
    go_wp2_with fail
    refine (H6.out _).mono ?_; rintro e w' ⟨rfl, rfl⟩
    go_wp2_with fail
    go_ret
    exact ⟨by rw [HR.out]; rfl, belowA (Below.refl _ w) _⟩
  · have HR : Hid (E = 0) := HE.out
    go_enter Try.func54, Try.ntmps54
    go_wp2_with fail
    refine (H1.out _).mono ?_; rintro e w' ⟨rfl, rfl⟩
    go_wp2_with fail
    refine (H2.out _).mono ?_; rintro e w' ⟨rfl, rfl⟩
    go_wp2_with fail
    refine (H3.out _).mono ?_; rintro e w' ⟨rfl, rfl⟩
    go_wp2_with fail
    refine (H4.out _).mono ?_; rintro e w' ⟨rfl, rfl⟩
    go_wp2_with fail
    refine (H5.out _).mono ?_; rintro e w' ⟨rfl, rfl⟩
    go_wp2_with fail
    refine (H6.out _).mono ?_; rintro e w' ⟨rfl, rfl⟩
    go_wp2_with fail
    go_ret
    exact ⟨by rw [HR.out]; rfl, belowA (Below.refl _ w) _⟩
end Go.Proofs.Ythcddboeejbncaa
