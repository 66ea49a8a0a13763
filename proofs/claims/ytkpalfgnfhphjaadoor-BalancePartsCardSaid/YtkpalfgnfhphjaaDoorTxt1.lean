/- Texts of numbers: what Check says of the text of a natural number. -/
import Derived.Test.YtkpalfgnfhphjaaDoorNat1
namespace Go.Proofs.YtkpalfgnfhphjaaDoor
open Go.RowKit

def digB (c : Nat) : Bool := !(decide (c < 48) || decide (57 < c))
def digsE : List UInt8 → Bool
  | [] => true
  | c :: cs => if digB c.toNat = true then digsE cs else false
/-- What nat.Check answers. -/
def natE (l : List UInt8) : Int :=
  if l.length = 0 ∨ (l.getD 0 0).toNat = 48 ∧ 1 < l.length then 5 else if digsE l = false then 5 else if 2000 < l.length then 2 else 0
theorem digsE_drop {l : List UInt8} {k : Nat} (h : k < l.length) : digsE (l.drop k) = if digB (l.getD k 0).toNat = true then digsE (l.drop (k + 1)) else false := by
  rw [List.drop_eq_getElem_cons h]
  conv => lhs; unfold digsE
  simp [h]
theorem toList_data (s : ByteArray) : s.data.toList.length = s.size := by simp
theorem byte_at (s : ByteArray) (h : 0 < s.size) : (s[0]'h) = s.data.toList.getD 0 0 := by
  have h' : 0 < s.data.toList.length := by simpa using h
  rw [List.getD_eq_getElem?_getD, List.getElem?_eq_getElem h']
  simp; rfl
set_option maxHeartbeats 1000000 in
theorem natCheck_c (s : ByteArray) (w : World) (hs : s.size ≤ 9223372036854775807) :
    Calls Tryd.prog 72 #[.string s] w fun e w' => e = .returned (.int .i64 (natE s.data.toList)) ∧ Below w.heap.size w w' := by
  have hcv : ∀ W : World, (convert 9 118 (.string s)).run Tryd.prog W = .ok (.slice (some ⟨W.heap.size, 0, none⟩) s.size (grownCap W s.size 0 5)) (Lib.bytesWorld W 5 s) := fun W =>
    Lib.run_convert_string_bytes W 9 118 5 s Tryd.underlying9 Tryd.underlying118 Tryd.underlying5
  have HN : Hid (natE s.data.toList = if s.data.toList.length = 0 ∨ (s.data.toList.getD 0 0).toNat = 48 ∧ 1 < s.data.toList.length then 5 else if digsE s.data.toList = false then 5 else if 2000 < s.data.toList.length then 2 else 0) := rfl
  have hlen : s.data.toList.length = s.size := by simp
  have HLen := Lib.hid hlen
  generalize natE s.data.toList = R at *
  have hgo : Hid (digsE (s.data.toList.drop 0) = digsE s.data.toList) := rfl
  generalize digsE s.data.toList = E at *
  clear hlen
  by_cases h0 : s.size = 0
  · have h1 : s.toList = [] := (toList_nil s).2 h0
    have h2 : s.toList.isEmpty = true := by rw [h1]; rfl
    have HF : Hid (R = 5) := by show _ = _; rw [HN.out, if_pos (Or.inl (by rw [HLen.out]; exact h0))]
    clear h0
    go_enter Tryd.func72, Tryd.ntmps72
    go_wp2_with fail
    go_ret
    exact ⟨by rw [HF.out]; rfl, Below.refl _ _⟩
  · have h1 : ¬ s.toList = [] := fun h => h0 ((toList_nil s).1 h)
    have h2 : s.toList.isEmpty = false := by simpa using h1
    have h3 : 0 < s.size := by omega
    obtain ⟨c, hc⟩ : ∃ c, (s[0]'h3).toNat = c := ⟨_, rfl⟩
    have HC0 : Hid ((s.data.toList.getD 0 0).toNat = c) := by show _ = _; rw [← hc, ← byte_at s h3]
    by_cases h4 : c = 48 ∧ 1 < s.size
    · have HF : Hid (R = 5) := by show _ = _; rw [HN.out, if_pos (Or.inr ⟨by rw [HC0.out]; exact h4.1, by rw [HLen.out]; exact h4.2⟩)]
      obtain ⟨rfl, h6⟩ := h4
      have q2 : decide (1 < (s.size : Int)) = true := decide_eq_true (by omega)
      go_enter Tryd.func72, Tryd.ntmps72
      go_wp2_with fail
      go_ret
      exact ⟨ret_int HF.out.symm, Below.refl _ _⟩
    · have HF : Hid (R = if E = false then 5 else if 2000 < s.size then 2 else 0) := by
        show _ = _
        rw [HN.out, if_neg (by rw [HLen.out, HC0.out]; omega), HLen.out]
      have h4' : ¬ (c = 48 ∧ 1 < s.size) := h4
      clear h4
      by_cases h5 : c = 48
      · have h6 : ¬ 1 < s.size := fun h => h4' ⟨h5, h⟩
        have q2 : decide (1 < (s.size : Int)) = false := decide_eq_false (by omega)
        subst h5
        clear h4'
        go_enter Tryd.func72, Tryd.ntmps72
        go_wp2_with (rw [hcv])
        have hc1 : ∀ j, j < s.size → (Lib.bytesWorld w 5 s).cell? ⟨w.heap.size, j, none⟩ = some (.int .u8 (s.data.toList.getD j 0).toNat) := fun j hj => Lib.bytesWorld_cell w 5 s j hj
        have hsz := Lib.bytesWorld_size w 5 s
        have HB := Lib.hid (below_bytes w 5 s)
        have HC := Lib.hid hc1
        clear hc1 hcv hc HC0
        generalize Lib.bytesWorld w 5 s = W1 at *
        generalize grownCap w s.size 0 5 = cp at *
        go_loopw [20] (fun i wr => ∃ k : Nat, k ≤ s.size ∧ i = .int .i64 k ∧ Hid (digsE (s.data.toList.drop k) = E) ∧ W1 = wr) (fun i _ => s.size - (intOf i).toNat)
        case atStart => exact ⟨0, Nat.zero_le _, rfl, hgo, rfl⟩
        case round =>
          obtain ⟨k, hk, rfl, he, rfl⟩ := hrel
          by_cases hlt : k < s.size
          · have x0 := HC.out k hlt
            have hd := digsE_drop (l := s.data.toList) (k := k) (by rw [HLen.out]; exact hlt)
            have c0 : (s.data.toList.getD k 0).toNat < 256 := UInt8.toNat_lt _
            generalize (s.data.toList.getD k 0).toNat = d at *
            have HD := Lib.hid (he.out.symm.trans hd)
            clear hd he
            by_cases d1 : d < 48
            · have HE : Hid (E = false) := by show _ = _; rw [HD.out, if_neg]; unfold digB; simp [d1]
              have p1 : decide ((d : Int) < 48) = true := decide_eq_true (by omega)
              go_wp2_with fail
              go_ret
              exact ⟨ret_int (by rw [HF.out, if_pos HE.out]), HB.out⟩
            · have p1 : decide ((d : Int) < 48) = false := decide_eq_false (by omega)
              by_cases d2 : 57 < d
              · have HE : Hid (E = false) := by show _ = _; rw [HD.out, if_neg]; unfold digB; simp [d2]
                have p2 : decide (57 < (d : Int)) = true := decide_eq_true (by omega)
                go_wp2_with fail
                go_ret
                exact ⟨ret_int (by rw [HF.out, if_pos HE.out]), HB.out⟩
              · have p2 : decide (57 < (d : Int)) = false := decide_eq_false (by omega)
                have HE : Hid (digsE (s.data.toList.drop (k + 1)) = E) := by show _ = _; rw [HD.out, if_pos]; unfold digB; simp [d1, d2]
                clear HD
                go_wp2_with fail
                go_roundw
                case rel => exact ⟨k + 1, hlt, by go_num, HE, trivial⟩
                case measure => (simp [intOf] <;> omega)
          · have hkn : s.data.toList.drop k = [] := List.drop_eq_nil_of_le (by rw [HLen.out]; omega)
            have HX : Hid (E = true) := by show _ = _; rw [← he.out, hkn]; rfl
            clear he hkn
            by_cases hbig : 2000 < s.size
            · have p3 : decide (2000 < (s.size : Int)) = true := decide_eq_true (by omega)
              go_wp2_with fail
              go_ret
              exact ⟨ret_int (by rw [HF.out, HX.out, if_pos hbig]; rfl), HB.out⟩
            · have p3 : decide (2000 < (s.size : Int)) = false := decide_eq_false (by omega)
              go_wp2_with fail
              go_ret
              exact ⟨ret_int (by rw [HF.out, HX.out, if_neg hbig]; rfl), HB.out⟩
      · have q1 : ((c : Int) == 48) = false := by rw [beq_eq_false_iff_ne]; omega
        clear h4'
        go_enter Tryd.func72, Tryd.ntmps72
        go_wp2_with (rw [hcv])
        have hc1 : ∀ j, j < s.size → (Lib.bytesWorld w 5 s).cell? ⟨w.heap.size, j, none⟩ = some (.int .u8 (s.data.toList.getD j 0).toNat) := fun j hj => Lib.bytesWorld_cell w 5 s j hj
        have hsz := Lib.bytesWorld_size w 5 s
        have HB := Lib.hid (below_bytes w 5 s)
        have HC := Lib.hid hc1
        clear hc1 hcv hc HC0
        generalize Lib.bytesWorld w 5 s = W1 at *
        generalize grownCap w s.size 0 5 = cp at *
        go_loopw [20] (fun i wr => ∃ k : Nat, k ≤ s.size ∧ i = .int .i64 k ∧ Hid (digsE (s.data.toList.drop k) = E) ∧ W1 = wr) (fun i _ => s.size - (intOf i).toNat)
        case atStart => exact ⟨0, Nat.zero_le _, rfl, hgo, rfl⟩
        case round =>
          obtain ⟨k, hk, rfl, he, rfl⟩ := hrel
          by_cases hlt : k < s.size
          · have x0 := HC.out k hlt
            have hd := digsE_drop (l := s.data.toList) (k := k) (by rw [HLen.out]; exact hlt)
            have c0 : (s.data.toList.getD k 0).toNat < 256 := UInt8.toNat_lt _
            generalize (s.data.toList.getD k 0).toNat = d at *
            have HD := Lib.hid (he.out.symm.trans hd)
            clear hd he
            by_cases d1 : d < 48
            · have HE : Hid (E = false) := by show _ = _; rw [HD.out, if_neg]; unfold digB; simp [d1]
              have p1 : decide ((d : Int) < 48) = true := decide_eq_true (by omega)
              go_wp2_with fail
              go_ret
              exact ⟨ret_int (by rw [HF.out, if_pos HE.out]), HB.out⟩
            · have p1 : decide ((d : Int) < 48) = false := decide_eq_false (by omega)
              by_cases d2 : 57 < d
              · have HE : Hid (E = false) := by show _ = _; rw [HD.out, if_neg]; unfold digB; simp [d2]
                have p2 : decide (57 < (d : Int)) = true := decide_eq_true (by omega)
                go_wp2_with fail
                go_ret
                exact ⟨ret_int (by rw [HF.out, if_pos HE.out]), HB.out⟩
              · have p2 : decide (57 < (d : Int)) = false := decide_eq_false (by omega)
                have HE : Hid (digsE (s.data.toList.drop (k + 1)) = E) := by show _ = _; rw [HD.out, if_pos]; unfold digB; simp [d1, d2]
                clear HD
                go_wp2_with fail
                go_roundw
                case rel => exact ⟨k + 1, hlt, by go_num, HE, trivial⟩
                case measure => (simp [intOf] <;> omega)
          · have hkn : s.data.toList.drop k = [] := List.drop_eq_nil_of_le (by rw [HLen.out]; omega)
            have HX : Hid (E = true) := by show _ = _; rw [← he.out, hkn]; rfl
            clear he hkn
            by_cases hbig : 2000 < s.size
            · have p3 : decide (2000 < (s.size : Int)) = true := decide_eq_true (by omega)
              go_wp2_with fail
              go_ret
              exact ⟨ret_int (by rw [HF.out, HX.out, if_pos hbig]; rfl), HB.out⟩
            · have p3 : decide (2000 < (s.size : Int)) = false := decide_eq_false (by omega)
              go_wp2_with fail
              go_ret
              exact ⟨ret_int (by rw [HF.out, HX.out, if_neg hbig]; rfl), HB.out⟩
end Go.Proofs.YtkpalfgnfhphjaaDoor
