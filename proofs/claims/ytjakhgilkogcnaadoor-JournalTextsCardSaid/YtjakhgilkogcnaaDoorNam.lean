/- Names: netmodel.Name; rows of strings. -/
import Derived.Test.YtjakhgilkogcnaaDoorRds
import Derived.Lib.SlicesS
import Derived.Lib.ConvBytes
namespace Go.Proofs.YtjakhgilkogcnaaDoor
open Go.RowKit

def strs (l : List ByteArray) : List Value := l.map Value.string
abbrev SVal (w : World) (v : Value) (l : List ByteArray) : Prop := Reads w v l.length (strs l)
theorem strs_get {l : List ByteArray} {i : Nat} (h : i < l.length) : (strs l)[i]? = some (.string (l.getD i ByteArray.empty)) := by unfold strs; simp [h]
theorem strs_one (l : List ByteArray) : ∀ u ∈ strs l, u.oneCell' = true := by
  intro u hu; unfold strs at hu; obtain ⟨n, _, rfl⟩ := List.mem_map.1 hu; rfl

end Go.Proofs.YtjakhgilkogcnaaDoor
namespace Go.Proofs.YtjakhgilkogcnaaDoor
open Go.RowKit

/-- Whether a byte may stand at a place of a name. -/
def badC (c : Int) (i : Nat) : Bool := !(decide (65 ≤ c) && decide (c ≤ 90)) && (decide (i = 0) || decide (c < 48) || decide (57 < c))
def nameGo : List UInt8 → Nat → Bool
  | [], _ => true
  | c :: cs, i => if badC c.toNat i = true then false else nameGo cs (i + 1)
def nameB (s : ByteArray) : Bool := nameGo s.data.toList 0 && (decide (s.size ≠ 0) && decide (s.size ≤ 8))
theorem nameGo_drop {l : List UInt8} {k : Nat} (h : k < l.length) : nameGo (l.drop k) k = if badC (l.getD k 0).toNat k = true then false else nameGo (l.drop (k + 1)) (k + 1) := by
  rw [List.drop_eq_getElem_cons h]
  conv => lhs; unfold nameGo
  simp [h]
theorem below_bytes (w : World) (e : TypeId) (s : ByteArray) : Below w.heap.size w (Lib.bytesWorld w e s) :=
  ⟨rfl, rfl, rfl, by rw [Lib.bytesWorld_size]; omega, fun k hk => Lib.bytesWorld_at_old w e s k hk⟩
theorem size_zero (s : ByteArray) : (s.toList == ByteArray.empty.toList) = decide (s.size = 0) := by
  by_cases h : s = ByteArray.empty
  · subst h; decide +kernel
  · rw [(Lib.bytes_beq_false_iff _ _).2 h, eq_comm, decide_eq_false_iff_not]
    intro h0
    exact h (ByteArray.ext (Array.eq_empty_of_size_eq_zero h0))

theorem toList_nil (s : ByteArray) : s.toList = [] ↔ s.size = 0 := by
  have h := size_zero s
  have e : ByteArray.empty.toList = [] := by decide +kernel
  rw [e] at h
  constructor
  · intro h1; rw [h1] at h; simpa using h.symm
  · intro h1
    have : decide (s.size = 0) = true := decide_eq_true h1
    rw [this] at h; simpa using h

set_option maxHeartbeats 1000000 in
theorem name_c (s : ByteArray) (w : World) (hs : s.size ≤ 9223372036854775807) :
    Calls Tryd.prog 36 #[.string s] w fun e w' => e = .returned (.bool (nameB s)) ∧ Below w.heap.size w w' := by
  have hcv : ∀ W : World, (convert 9 49 (.string s)).run Tryd.prog W = .ok (.slice (some ⟨W.heap.size, 0, none⟩) s.size (grownCap W s.size 0 5)) (Lib.bytesWorld W 5 s) := fun W =>
    Lib.run_convert_string_bytes W 9 49 5 s Tryd.underlying9 Tryd.underlying49 Tryd.underlying5
  have HN : Hid (nameB s = (nameGo s.data.toList 0 && (decide (s.size ≠ 0) && decide (s.size ≤ 8)))) := rfl
  generalize nameB s = R at *
  have hgo : Hid (nameGo (s.data.toList.drop 0) 0 = nameGo s.data.toList 0) := rfl
  generalize nameGo s.data.toList 0 = E at *
  go_enter Tryd.func36, Tryd.ntmps36
  go_wp2_with (rw [hcv])
  have hc : ∀ j, j < s.size → (Lib.bytesWorld w 5 s).cell? ⟨w.heap.size, j, none⟩ = some (.int .u8 (s.data.toList.getD j 0).toNat) := fun j hj => Lib.bytesWorld_cell w 5 s j hj
  have hsz := Lib.bytesWorld_size w 5 s
  have HB := Lib.hid (below_bytes w 5 s)
  have HC := Lib.hid hc
  have hlen : s.data.toList.length = s.size := by simp
  have HLen := Lib.hid hlen
  clear hc hcv hlen
  generalize Lib.bytesWorld w 5 s = W1 at *
  generalize grownCap w s.size 0 5 = cp at *
  go_loopw [9] (fun i wr => ∃ k : Nat, k ≤ s.size ∧ i = .int .i64 k ∧ Hid (nameGo (s.data.toList.drop k) k = E) ∧ W1 = wr) (fun i _ => s.size - (intOf i).toNat)
  case atStart => exact ⟨0, Nat.zero_le _, rfl, hgo, rfl⟩
  case round =>
    obtain ⟨k, hk, rfl, he, rfl⟩ := hrel
    by_cases hlt : k < s.size
    · have x0 := HC.out k hlt
      have hd := nameGo_drop (l := s.data.toList) (k := k) (by rw [HLen.out]; exact hlt)
      have c0 : (s.data.toList.getD k 0).toNat < 256 := UInt8.toNat_lt _
      generalize (s.data.toList.getD k 0).toNat = c at *
      have HD := Lib.hid (he.out.symm.trans hd)
      clear hd he
      cases hb : badC c k
      · have HP := Lib.hid (HD.out.trans (if_neg (by rw [hb]; decide)))
        have HBC := Lib.hid hb
        clear hb
        go_wp2_with fail
        all_goals first
          | (exfalso; have hq := HBC.out; unfold badC at hq; simp at * <;> omega)
          | (refine ⟨⟨k + 1, by omega, by go_num, by show _ = _; exact HP.out.symm, by first | rfl | trivial⟩, ?_⟩
             simp [intOf]; omega)
      · have HP := Lib.hid (HD.out.trans (if_pos hb))
        have HBC := Lib.hid hb
        clear hb
        go_wp2_with fail
        all_goals first
          | (exfalso; have hq := HBC.out; unfold badC at hq; simp at * <;> omega)
          | (go_ret
             exact ⟨by rw [HN.out, HP.out]; rfl, HB.out⟩)
    · have hkn : s.data.toList.drop k = [] := List.drop_eq_nil_of_le (by rw [HLen.out]; omega)
      have HX : Hid (E = true) := by show _ = _; rw [← he.out, hkn]; rfl
      have HR : Hid (R = (decide (s.size ≠ 0) && decide (s.size ≤ 8))) := by show _ = _; rw [HN.out, HX.out]; rfl
      clear he hkn
      by_cases h0 : s.size = 0
      · have h1 : s.toList = [] := (toList_nil s).2 h0
        have h2 : s.toList.isEmpty = true := by rw [h1]; rfl
        have HF : Hid (R = false) := by show _ = _; rw [HR.out]; simp [h0]
        clear h0
        go_wp2_with fail
        all_goals first
          | (go_ret
             exact ⟨by rw [HF.out]; rfl, HB.out⟩)
      · have h1 : ¬ s.toList = [] := fun h => h0 ((toList_nil s).1 h)
        have h2 : s.toList.isEmpty = false := by simpa using h1
        have HF : Hid (R = decide (s.size ≤ 8)) := by show _ = _; rw [HR.out]; simp [h0]
        clear h0
        go_wp2_with fail
        all_goals first
          | (go_ret
             exact ⟨by rw [HF.out]; simp; omega, HB.out⟩)
end Go.Proofs.YtjakhgilkogcnaaDoor
namespace Go.Proofs.YtjakhgilkogcnaaDoor
open Go.RowKit

theorem infoStr : (Tryd.prog.info? 9).map (fun i => (i.zero, i.size, i.bytes)) = some (some (.string ByteArray.empty), 1, 16) := by kernel_rfl

theorem row_own {W : World} {base : Nat} {e : TypeId} {sz n : Nat} {v : Value} {xs : List Value} (h : W.ownsRow base e sz v n xs) : ∀ j, v.ownBlock = some j → base ≤ j := by
  intro j hj
  rcases h.2 with ⟨rfl, _⟩ | ⟨g, cap, cur, rfl, hg, _⟩
  · cases hj
  · have : g = j := Option.some.inj hj
    omega
theorem row_slice {W : World} {base : Nat} {e : TypeId} {sz n : Nat} {v : Value} {xs : List Value} (h : W.ownsRow base e sz v n xs) : ∃ a c, v = .slice a n c := by
  rcases h.2 with ⟨rfl, rfl⟩ | ⟨g, cap, cur, rfl, _⟩
  · exact ⟨none, 0, rfl⟩
  · exact ⟨_, cap, rfl⟩
theorem row_succ {W : World} {base : Nat} {e : TypeId} {size : Nat} {v : Value} {k : Nat} {xs : List Value} (h : W.ownsRow base e size v (k + 1) xs) : ∃ g cap, v = .slice (some ⟨g, 0, none⟩) (k + 1) cap := by
  rcases h.2 with ⟨_, h0⟩ | ⟨g, cap, _, rfl, _⟩
  · omega
  · exact ⟨g, cap, rfl⟩
theorem row_alloc {W : World} {base : Nat} {e : TypeId} {sz n : Nat} {v : Value} {xs : List Value} (h : W.ownsRow base e sz v n xs) (o : Obj) : (W.alloc o).ownsRow base e sz v n xs :=
  h.kept (World.grownBy_alloc _ _ none) (by
    rcases h.2 with ⟨e, _⟩ | ⟨g, cap, cur, e, _⟩
    · exact .inl (by rw [e]; rfl)
    · exact .inr (fun k => by rw [e] at k; cases k))
theorem row_kept {W W' : World} {base b : Nat} {e : TypeId} {sz n : Nat} {v : Value} {xs : List Value} (h : W.ownsRow base e sz v n xs) (k : W.grownBy W' (some b)) (hb : b < base) : W'.ownsRow base e sz v n xs :=
  h.kept k (by
    rcases h.2 with ⟨rfl, _⟩ | ⟨g, cap, cur, rfl, hg, _⟩
    · exact .inl rfl
    · exact .inr (fun e => by have : g = b := Option.some.inj e; omega))
theorem row_below {W W' : World} {base : Nat} {e : TypeId} {sz n : Nat} {v : Value} {xs : List Value} (h : W.ownsRow base e sz v n xs) (k : Below W.heap.size W W') : W'.ownsRow base e sz v n xs :=
  h.kept (row := none) ⟨k.os, k.tape, k.output, k.size, fun i hi _ => k.block i hi⟩ (by
    rcases h.2 with ⟨e, _⟩ | ⟨g, cap, cur, e, _⟩
    · exact .inl (by rw [e]; rfl)
    · exact .inr (fun k => by rw [e] at k; cases k))
end Go.Proofs.YtjakhgilkogcnaaDoor
