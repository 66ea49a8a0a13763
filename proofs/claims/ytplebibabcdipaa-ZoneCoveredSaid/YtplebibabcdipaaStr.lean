/- Lists of strings: slices.Index, Contains; netmodel.Name, within, names.add, ends, device. -/
import Derived.Test.YtplebibabcdipaaRds
import Derived.Lib.SlicesS
namespace Go.Proofs.Ytplebibabcdipaa
open Go.RowKit

def strs (l : List ByteArray) : List Value := l.map Value.string
abbrev SVal (w : World) (v : Value) (l : List ByteArray) : Prop := Reads w v l.length (strs l)
theorem strs_get {l : List ByteArray} {i : Nat} (h : i < l.length) : (strs l)[i]? = some (.string (l.getD i ByteArray.empty)) := by unfold strs; simp [h]
theorem strs_one (l : List ByteArray) : ∀ u ∈ strs l, u.oneCell' = true := by
  intro u hu; unfold strs at hu; obtain ⟨n, _, rfl⟩ := List.mem_map.1 hu; rfl

/-- The first index of a string, or -1. -/
def idxS (s : ByteArray) : List ByteArray → Int → Int
  | [], _ => -1
  | x :: xs, i => if (s.toList == x.toList) = true then i else idxS s xs (i + 1)
/-- Whether a list holds a string. -/
def hasS (s : ByteArray) (l : List ByteArray) : Bool := l.any (fun x => s.toList == x.toList)
theorem hasS_iff {s : ByteArray} {l : List ByteArray} : hasS s l = true ↔ s ∈ l := by
  unfold hasS
  rw [List.any_eq_true]
  constructor
  · rintro ⟨x, h1, h2⟩; rw [(Lib.bytes_beq_iff s x).1 h2]; exact h1
  · intro h; exact ⟨s, h, (Lib.bytes_beq_iff s s).2 rfl⟩
theorem idxS_neg (s : ByteArray) : ∀ (l : List ByteArray) (i : Int), 0 ≤ i → (0 ≤ idxS s l i ↔ hasS s l = true) := by
  intro l
  induction l with
  | nil => intro i _; simp [idxS, hasS]
  | cons x xs ih =>
    intro i hi
    unfold idxS hasS
    rw [List.any_cons]
    by_cases hp : (s.toList == x.toList) = true
    · rw [if_pos hp, hp]; simp [hi]
    · rw [if_neg hp, ih (i + 1) (by omega)]
      have : (s.toList == x.toList) = false := by simpa using hp
      rw [this]; simp [hasS]
theorem idxS_drop {s : ByteArray} {l : List ByteArray} {k : Nat} (h : k < l.length) : idxS s (l.drop k) k = if (s.toList == (l.getD k ByteArray.empty).toList) = true then (k : Int) else idxS s (l.drop (k + 1)) ((k + 1 : Nat) : Int) := by
  rw [List.drop_eq_getElem_cons h]
  conv => lhs; unfold idxS
  simp [h]

set_option maxHeartbeats 400000 in
theorem index_c (v : Value) (l : List ByteArray) (s : ByteArray) (w : World) (hv : SVal w v l) :
    Calls Try.prog 52 #[v, .string s] w fun e w' => e = .returned (.int .i64 (idxS s l 0)) ∧ w = w' := by
  obtain ⟨a, cap, rfl⟩ := hv.slice
  have hn : l.length ≤ 9223372036854775807 := by
    rcases hv with ⟨h, _⟩ | ⟨_, _, _, _, _, h, _⟩
    · omega
    · exact h
  have HE : Hid (idxS s (l.drop 0) (0 : Nat) = idxS s l 0) := by show _ = _; rfl
  generalize idxS s l 0 = E at *
  obtain ⟨n, hN⟩ : ∃ n, l.length = n := ⟨_, rfl⟩
  have HN := Lib.hid hN
  have HV2 : Hid (Reads w (.slice a n cap) n (strs l)) := by show Reads _ _ _ _; rw [← hN]; exact hv
  rw [hN] at hn ⊢
  clear hN hv
  go_enter Try.func52, Try.ntmps52
  go_wp2_with fail
  go_loopw [8] (fun i wr => ∃ k : Nat, k ≤ n ∧ i = .int .i64 k ∧ Hid (idxS s (l.drop k) k = E) ∧ w = wr) (fun i _ => n - (intOf i).toNat)
  case atStart => exact ⟨0, Nat.zero_le _, rfl, HE.out, rfl⟩
  case round =>
    obtain ⟨k, hk, rfl, he, rfl⟩ := hrel
    by_cases hlt : k < n
    · obtain ⟨b, off, cap', hvv, _, _, hbl, hc⟩ := HV2.out.addr (by omega)
      simp only [Value.slice.injEq] at hvv
      obtain ⟨rfl, _, rfl⟩ := hvv
      have hlk : k < l.length := by rw [HN.out]; exact hlt
      have x0 := hc k _ (strs_get hlk)
      have hd := idxS_drop (s := s) hlk
      generalize l.getD k ByteArray.empty = x at *
      have HD := Lib.hid hd
      clear hd hc
      cases hp : (s.toList == x.toList)
      · have HP := Lib.hid (HD.out.trans (if_neg (by rw [hp]; decide)))
        go_wp2_with fail
        go_roundw
        case rel => exact ⟨k + 1, by omega, by go_num, by show _ = _; rw [← he.out, HP.out], by first | rfl | trivial⟩
        case measure => simp [intOf]; omega
      · have HP := Lib.hid (he.out.symm.trans (HD.out.trans (if_pos hp)))
        go_wp2_with fail
        go_ret
        exact ⟨by rw [HP.out]; rfl, rfl⟩
    · have hkn : l.drop k = [] := List.drop_eq_nil_of_le (by rw [HN.out]; omega)
      have HX : Hid (E = -1) := by show _ = _; rw [← he.out, hkn]; rfl
      clear he hkn
      go_wp2_with fail
      go_ret
      exact ⟨by rw [HX.out]; rfl, rfl⟩

set_option maxHeartbeats 400000 in
theorem contains_c (v : Value) (l : List ByteArray) (s : ByteArray) (w : World) (hv : SVal w v l) :
    Calls Try.prog 68 #[v, .string s] w fun e w' => e = .returned (.bool (hasS s l)) ∧ w = w' := by
  have hc := index_c v l s w hv
  have hi := idxS_neg s l 0 (by decide)
  obtain ⟨a, cap, rfl⟩ := hv.slice
  have HC := Lib.hid hc
  clear hc hv
  generalize idxS s l 0 = E at *
  by_cases hp : hasS s l = true
  · have h : 0 ≤ E := hi.2 hp
    have HP : Hid (hasS s l = true) := hp
    clear hi hp
    generalize hasS s l = R at *
    go_enter Try.func68, Try.ntmps68
    go_wp2_with fail
    refine HC.out.mono ?_; rintro e w2 ⟨rfl, rfl⟩
    have g1 : decide (0 ≤ E) = true := decide_eq_true h
    go_wp2_with fail
    go_ret
    exact ⟨by rw [HP.out]; rfl, rfl⟩
  · have h : ¬ 0 ≤ E := fun h => hp (hi.1 h)
    have HP : Hid (hasS s l = false) := by show _ = _; simpa using hp
    clear hi hp
    generalize hasS s l = R at *
    go_enter Try.func68, Try.ntmps68
    go_wp2_with fail
    refine HC.out.mono ?_; rintro e w2 ⟨rfl, rfl⟩
    have g1 : decide (0 ≤ E) = false := decide_eq_false (by omega)
    go_wp2_with fail
    go_ret
    exact ⟨by rw [HP.out]; rfl, rfl⟩

def withinB (n lo hi : Int) : Bool := decide (lo ≤ n) && decide (n ≤ hi)
set_option maxHeartbeats 400000 in
theorem within_c (n lo hi : Int) (w : World) : Calls Try.prog 112 #[.int .i64 n, .int .i64 lo, .int .i64 hi] w fun e w' => e = .returned (.bool (withinB n lo hi)) ∧ w = w' := by
  by_cases h : lo ≤ n
  · have H : Hid (withinB n lo hi = decide (n ≤ hi)) := by show _ = _; unfold withinB; simp [h]
    generalize withinB n lo hi = E at *
    go_enter Try.func112, Try.ntmps112
    go_wp2
    go_ret
    exact ⟨by rw [H.out]; rfl, rfl⟩
  · have H : Hid (withinB n lo hi = false) := by show _ = _; unfold withinB; simp [h]
    generalize withinB n lo hi = E at *
    go_enter Try.func112, Try.ntmps112
    go_wp2
    go_ret
    exact ⟨by rw [H.out]; rfl, rfl⟩
end Go.Proofs.Ytplebibabcdipaa
