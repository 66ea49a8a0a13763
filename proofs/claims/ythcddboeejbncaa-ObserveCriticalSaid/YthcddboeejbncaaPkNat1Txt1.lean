/- Naturals in memory; trim. Texts of numbers: what Check says of the text of a natural number. -/
import Derived.Test.YthcddboeejbncaaPkNetOApp
import Derived.Test.YthcddboeejbncaaPzStr6
import Derived.Deep.OwnRows
import Derived.Deep.CutRange
import Derived.Deep.CutBlock
import Derived.IntWalk
namespace Go.Proofs.Ythcddboeejbncaa
open Go.RowKit

def u32s (l : List Int) : List Value := l.map (Value.int .u32)
theorem u32s_len (l : List Int) : (u32s l).length = l.length := by unfold u32s; simp
theorem u32s_get {l : List Int} {i : Nat} (h : i < l.length) : (u32s l)[i]? = some (.int .u32 (l.getD i 0)) := by unfold u32s; simp [h]
theorem u32s_one (l : List Int) : ∀ u ∈ u32s l, u.oneCell' = true := by
  intro u hu; unfold u32s at hu; obtain ⟨n, _, rfl⟩ := List.mem_map.1 hu; rfl
theorem u32s_take (l : List Int) (k : Nat) : u32s (l.take k) = (u32s l).take k := by unfold u32s; rw [List.map_take]
theorem u32s_set (l : List Int) (k : Nat) (x : Int) : u32s (l.set k x) = (u32s l).set k (.int .u32 x) := by unfold u32s; rw [List.map_set]
/-- A natural number that may be read. -/
def NV (w : World) (v : Value) (n : Nat) : Prop := Reads w v (ln n) (u32s (dg n)) ∧ ∀ g off len cap, v = .slice (some ⟨g, off, none⟩) len cap → 0 < len → ∃ cur, Blk w g cur 123
/-- A row of digits of the call's own, leading zeros allowed. -/
def RO (base : Nat) (w : World) (v : Value) (l : List Int) : Prop := w.ownsRow base 123 1 v l.length (u32s l)
/-- A natural number in a row of the call's own. -/
def NO (base : Nat) (w : World) (v : Value) (n : Nat) : Prop := RO base w v (dg n)
theorem NV.below {w w' : World} {v : Value} {n : Nat} (h : NV w v n) (k : Below w.heap.size w w') : NV w' v n := ⟨Reads.below h.1 k, fun g off len cap e hl => by
  obtain ⟨cur, hc⟩ := h.2 g off len cap e hl
  exact ⟨cur, below_blk k hc hc.lt⟩⟩
theorem NV.slice {w : World} {v : Value} {n : Nat} (h : NV w v n) : ∃ a cap, v = .slice a (ln n) cap := Reads.slice h.1
theorem NV.zero (w : World) : NV w (.slice none 0 0) 0 := ⟨Or.inl ⟨ln_zero, by rw [dg_zero]; rfl, none, 0, rfl⟩, fun g off len cap e _ => by cases e⟩
theorem RO.len {base : Nat} {w : World} {v : Value} {l : List Int} (h : RO base w v l) : l.length ≤ maxLen := by
  obtain ⟨_, hv | ⟨g, cap, cur, _, _, _, h4, h5, _⟩⟩ := h
  · have := hv.2; rw [this]; exact Nat.zero_le _
  · omega
theorem NO.nv {base : Nat} {w : World} {v : Value} {n : Nat} (h : NO base w v n) : NV w v n :=
  ⟨Reads.of_owns h (show ln n ≤ 9223372036854775807 by have := h.len; unfold maxLen at this; unfold ln; omega), fun g off len cap e _ => by
    obtain ⟨_, hv | ⟨g', cap', cur, hv, _, h3, _⟩⟩ := h
    · rw [hv.1] at e; cases e
    · rw [hv] at e
      injection e with e1
      injection e1 with e1
      injection e1 with e1
      subst e1
      exact ⟨cur, h3⟩⟩
theorem RO.below {base : Nat} {w w' : World} {v : Value} {l : List Int} (h : RO base w v l) (k : Below w.heap.size w w') : RO base w' v l := by
  obtain ⟨h1, h2⟩ := h
  refine ⟨h1, h2.imp id ?_⟩
  rintro ⟨g, cap, cur, e1, e2, e3, e4⟩
  exact ⟨g, cap, cur, e1, e2, below_blk k (show Blk w g cur _ from e3) (show Blk w g cur _ from e3).lt, e4⟩
theorem RO.le {base base' : Nat} {w : World} {v : Value} {l : List Int} (h : RO base w v l) (hb : base' ≤ base) : RO base' w v l :=
  ⟨h.1, h.2.imp id (fun ⟨g, cap, cur, e1, e2, e3⟩ => ⟨g, cap, cur, e1, Nat.le_trans hb e2, e3⟩)⟩
theorem RO.slice {base : Nat} {w : World} {v : Value} {l : List Int} (h : RO base w v l) : ∃ a c, v = .slice a l.length c := by
  obtain ⟨_, hv | ⟨g, cap, cur, rfl, _⟩⟩ := h
  · rw [hv.2]; exact ⟨none, 0, hv.1⟩
  · exact ⟨_, _, rfl⟩
theorem RO.nil (base : Nat) (w : World) : RO base w (.slice none 0 0) [] := ⟨rfl, Or.inl ⟨rfl, rfl⟩⟩
theorem NO.zero (base : Nat) (w : World) : NO base w (.slice none 0 0) 0 := by unfold NO; rw [dg_zero]; exact RO.nil _ _
/-- A shorter slice of an own row. -/
theorem RO.take {base : Nat} {w : World} {A : Option Addr} {c : Nat} {l : List Int} (h : RO base w (.slice A l.length c) l) (k : Nat) (hk : k ≤ l.length) : RO base w (.slice A k c) (l.take k) := by
  have hl : (l.take k).length = k := by rw [List.length_take, Nat.min_eq_left hk]
  unfold RO
  rw [hl]
  obtain ⟨h1, hv | ⟨g, cap, cur, hv, h2, h3, h4, h5, h6, h7⟩⟩ := h
  · have h0 : l.length = 0 := hv.2
    have : k = 0 := by omega
    subst this
    refine ⟨by rw [u32s_len]; omega, Or.inl ⟨?_, rfl⟩⟩
    have := hv.1; rw [h0] at this; exact this
  · cases hv
    refine ⟨by rw [u32s_len]; omega, Or.inr ⟨g, c, cur, rfl, h2, h3, by omega, h5, h6, ?_⟩⟩
    rw [u32s_take, ← h7, List.take_take]; congr 1; omega
theorem RO.cell {base : Nat} {w : World} {A : Option Addr} {c : Nat} {l : List Int} (h : RO base w (.slice A l.length c) l) {j : Nat} (hj : j < l.length) : ∃ g, A = some ⟨g, 0, none⟩ ∧ base ≤ g ∧ w.cell? ⟨g, j, none⟩ = some (.int .u32 (l.getD j 0)) ∧ w.frozen? ⟨g, j, none⟩ = false := by
  obtain ⟨h1, hv | ⟨g, cap, cur, hv, h2, h3, h4, h5, h6, h7⟩⟩ := h
  · have := hv.2; omega
  · cases hv
    refine ⟨g, rfl, h2, ?_, (show Blk w g cur _ from h3).free j⟩
    have hx := u32s_get hj
    rw [← h7, List.getElem?_take, if_pos (by omega), Array.getElem?_toList] at hx
    exact (show Blk w g cur _ from h3).cell j hx
theorem RO.cap {base : Nat} {w : World} {A : Option Addr} {c : Nat} {l : List Int} (h : RO base w (.slice A l.length c) l) : l.length ≤ c := by
  obtain ⟨h1, hv | ⟨g, cap, cur, hv, h2, h3, h4, h5, h6, h7⟩⟩ := h
  · rw [hv.2]; exact Nat.zero_le _
  · cases hv; exact h4
/-- A canonical piece of an own row. -/
theorem RO.no {base : Nat} {w : World} {v : Value} {l : List Int} {n : Nat} (h : RO base w v l) (hd : DgOk l) (hl : l = [] ∨ l.getD (l.length - 1) 0 ≠ 0) (hn : (val l).toNat = n) : NO base w v n := by
  subst hn; unfold NO; rw [dg_of hd hl]; exact h
def lenOf : Value → Nat
  | .slice _ n _ => n
  | _ => 0
set_option maxHeartbeats 1000000 in
theorem ntrim_c (base : Nat) (v : Value) (l : List Int) (w : World) (h : RO base w v l) (hd : DgOk l) :
    Calls Try.prog 85 #[v] w fun e w' => (∃ v', e = .returned v' ∧ NO base w v' (val l).toNat) ∧ w' = w := by
  obtain ⟨A, c, rfl⟩ := h.slice
  have hz := h.len
  have hcap := h.cap
  unfold maxLen at hz
  obtain ⟨n, hn⟩ : ∃ n, l.length = n := ⟨_, rfl⟩
  have HN := Lib.hid hn
  have HH : Hid (RO base w (.slice A l.length c) l) := h
  rw [hn] at hz hcap ⊢
  clear hn h
  go_enter Try.func85, Try.ntmps85
  go_wp2_with fail
  go_loop [0] (fun v => ∃ k : Nat, k ≤ n ∧ v = .slice A k c ∧ Hid (val (l.take k) = val l)) (fun v => lenOf v)
  case atStart => exact ⟨n, Nat.le_refl _, rfl, by show val _ = _; rw [List.take_of_length_le (by rw [HN.out]; exact Nat.le_refl _)]⟩
  case round =>
    obtain ⟨k, hk, rfl, hval⟩ := hrel
    rcases Nat.eq_zero_or_pos k with h0 | h0
    · subst h0
      have hfin : NO base w (.slice A 0 c) (val l).toNat := (HH.out.take 0 (Nat.zero_le _)).no (hd.take _) (Or.inl rfl) (by rw [hval.out])
      go_wp2_with fail
      go_ret
      exact ⟨⟨_, rfl, hfin⟩, rfl⟩
    · obtain ⟨j, rfl⟩ : ∃ j, k = j + 1 := ⟨k - 1, by omega⟩
      have hjc : j ≤ c := by omega
      obtain ⟨g, rfl, hg, hcell, _⟩ := HH.out.cell (j := j) (by rw [HN.out]; omega)
      obtain ⟨x, hx⟩ : ∃ x, l.getD j 0 = x := ⟨_, rfl⟩
      rw [hx] at hcell
      have HX := Lib.hid hx
      clear hx
      by_cases hx0 : x = 0
      · subst hx0
        go_wp2_with fail
        go_round
        case rel => exact ⟨j, by omega, rfl, by show val _ = _; rw [← hval.out, val_take_succ (by rw [HN.out]; omega), HX.out]; omega⟩
        case measure => simp [lenOf]
      · have q1 : (x == 0) = false := by simpa using hx0
        have hfin : NO base w (.slice (some ⟨g, 0, none⟩) (j + 1) c) (val l).toNat := (HH.out.take (j + 1) (by rw [HN.out]; exact hk)).no (hd.take _) (Or.inr (by
          have hlen : (l.take (j + 1)).length = j + 1 := by rw [List.length_take, HN.out]; omega
          rw [hlen]
          simp only [Nat.add_sub_cancel, List.getD_eq_getElem?_getD, List.getElem?_take]
          rw [if_pos (by omega), ← List.getD_eq_getElem?_getD, HX.out]; exact hx0)) (by rw [hval.out])
        go_wp2_with fail
        go_ret
        exact ⟨⟨_, rfl, hfin⟩, rfl⟩
end Go.Proofs.Ythcddboeejbncaa
namespace Go.Proofs.Ythcddboeejbncaa
open Go.RowKit

def digB (c : Nat) : Bool := !(decide (c < 48) || decide (57 < c))
def digsE : List UInt8 → Bool
  | [] => true
  | c :: cs => if digB c.toNat = true then digsE cs else false
/-- What nat.Check answers. -/
def natE (l : List UInt8) : Int :=
  if l.length = 0 ∨ (l.getD 0 0).toNat = 48 ∧ 1 < l.length then 5 else if digsE l = false then 5 else if 2000 < l.length then 2 else 0
theorem digsE_drop {l : List UInt8} {k : Nat} (h : k < l.length) : digsE (l.drop k) = if digB (l.getD k 0).toNat = true then digsE (l.drop (k + 1)) else false := by
  rw [List.drop_eq_getElem_cons h]
  conv => lhs; unfold digsE
  simp [h]
theorem toList_data (s : ByteArray) : s.data.toList.length = s.size := by simp
theorem byte_at (s : ByteArray) (h : 0 < s.size) : (s[0]'h) = s.data.toList.getD 0 0 := by
  have h' : 0 < s.data.toList.length := by simpa using h
  rw [List.getD_eq_getElem?_getD, List.getElem?_eq_getElem h']
  simp; rfl
set_option maxHeartbeats 1000000 in
theorem natCheck_c (s : ByteArray) (w : World) (hs : s.size ≤ 9223372036854775807) :
    Calls Try.prog 74 #[.string s] w fun e w' => e = .returned (.int .i64 (natE s.data.toList)) ∧ Below w.heap.size w w' := by
  have hcv : ∀ W : World, (convert 9 147 (.string s)).run Try.prog W = .ok (.slice (some ⟨W.heap.size, 0, none⟩) s.size (grownCap W s.size 0 5)) (Lib.bytesWorld W 5 s) := fun W =>
    Lib.run_convert_string_bytes W 9 147 5 s Try.underlying9 Try.underlying147 Try.underlying5
  have HN : Hid (natE s.data.toList = if s.data.toList.length = 0 ∨ (s.data.toList.getD 0 0).toNat = 48 ∧ 1 < s.data.toList.length then 5 else if digsE s.data.toList = false then 5 else if 2000 < s.data.toList.length then 2 else 0) := rfl
  have hlen : s.data.toList.length = s.size := by simp
  have HLen := Lib.hid hlen
  generalize natE s.data.toList = R at *
  have hgo : Hid (digsE (s.data.toList.drop 0) = digsE s.data.toList) := rfl
  generalize digsE s.data.toList = E at *
  clear hlen
  by_cases h0 : s.size = 0
  · have h1 : s.toList = [] := (toList_nil s).2 h0
    have h2 : s.toList.isEmpty = true := by rw [h1]; rfl
    have HF : Hid (R = 5) := by show _ = _; rw [HN.out, if_pos (Or.inl (by rw [HLen.out]; exact h0))]
    clear h0
    go_enter Try.func74, Try.ntmps74
    go_wp2_with fail
    go_ret
    exact ⟨by rw [HF.out]; rfl, Below.refl _ _⟩
  · have h1 : ¬ s.toList = [] := fun h => h0 ((toList_nil s).1 h)
    have h2 : s.toList.isEmpty = false := by simpa using h1
    have h3 : 0 < s.size := by omega
    obtain ⟨c, hc⟩ : ∃ c, (s[0]'h3).toNat = c := ⟨_, rfl⟩
    have HC0 : Hid ((s.data.toList.getD 0 0).toNat = c) := by show _ = _; rw [← hc, ← byte_at s h3]
    by_cases h4 : c = 48 ∧ 1 < s.size
    · have HF : Hid (R = 5) := by show _ = _; rw [HN.out, if_pos (Or.inr ⟨by rw [HC0.out]; exact h4.1, by rw [HLen.out]; exact h4.2⟩)]
      obtain ⟨rfl, h6⟩ := h4
      have q2 : decide (1 < (s.size : Int)) = true := decide_eq_true (by omega)
      go_enter Try.func74, Try.ntmps74
      go_wp2_with fail
      go_ret
      exact ⟨ret_int HF.out.symm, Below.refl _ _⟩
    · have HF : Hid (R = if E = false then 5 else if 2000 < s.size then 2 else 0) := by
        show _ = _
        rw [HN.out, if_neg (by rw [HLen.out, HC0.out]; omega), HLen.out]
      have h4' : ¬ (c = 48 ∧ 1 < s.size) := h4
      clear h4
      by_cases h5 : c = 48
      · have h6 : ¬ 1 < s.size := fun h => h4' ⟨h5, h⟩
        have q2 : decide (1 < (s.size : Int)) = false := decide_eq_false (by omega)
        subst h5
        clear h4'
        go_enter Try.func74, Try.ntmps74
        go_wp2_with (rw [hcv])
        have hc1 : ∀ j, j < s.size → (Lib.bytesWorld w 5 s).cell? ⟨w.heap.size, j, none⟩ = some (.int .u8 (s.data.toList.getD j 0).toNat) := fun j hj => Lib.bytesWorld_cell w 5 s j hj
        have hsz := Lib.bytesWorld_size w 5 s
        have HB := Lib.hid (below_bytes w 5 s)
        have HC := Lib.hid hc1
        clear hc1 hcv hc HC0
        generalize Lib.bytesWorld w 5 s = W1 at *
        generalize grownCap w s.size 0 5 = cp at *
        go_loopw [20] (fun i wr => ∃ k : Nat, k ≤ s.size ∧ i = .int .i64 k ∧ Hid (digsE (s.data.toList.drop k) = E) ∧ W1 = wr) (fun i _ => s.size - (intOf i).toNat)
        case atStart => exact ⟨0, Nat.zero_le _, rfl, hgo, rfl⟩
        case round =>
          obtain ⟨k, hk, rfl, he, rfl⟩ := hrel
          by_cases hlt : k < s.size
          · have x0 := HC.out k hlt
            have hd := digsE_drop (l := s.data.toList) (k := k) (by rw [HLen.out]; exact hlt)
            have c0 : (s.data.toList.getD k 0).toNat < 256 := UInt8.toNat_lt _
            generalize (s.data.toList.getD k 0).toNat = d at *
            have HD := Lib.hid (he.out.symm.trans hd)
            clear hd he
            by_cases d1 : d < 48
            · have HE : Hid (E = false) := by show _ = _; rw [HD.out, if_neg]; unfold digB; simp [d1]
              have p1 : decide ((d : Int) < 48) = true := decide_eq_true (by omega)
              go_wp2_with fail
              go_ret
              exact ⟨ret_int (by rw [HF.out, if_pos HE.out]), HB.out⟩
            · have p1 : decide ((d : Int) < 48) = false := decide_eq_false (by omega)
              by_cases d2 : 57 < d
              · have HE : Hid (E = false) := by show _ = _; rw [HD.out, if_neg]; unfold digB; simp [d2]
                have p2 : decide (57 < (d : Int)) = true := decide_eq_true (by omega)
                go_wp2_with fail
                go_ret
                exact ⟨ret_int (by rw [HF.out, if_pos HE.out]), HB.out⟩
              · have p2 : decide (57 < (d : Int)) = false := decide_eq_false (by omega)
                have HE : Hid (digsE (s.data.toList.drop (k + 1)) = E) := by show _ = _; rw [HD.out, if_pos]; unfold digB; simp [d1, d2]
                clear HD
                go_wp2_with fail
                go_roundw
                case rel => exact ⟨k + 1, hlt, by go_num, HE, trivial⟩
                case measure => (simp [intOf] <;> omega)
          · have hkn : s.data.toList.drop k = [] := List.drop_eq_nil_of_le (by rw [HLen.out]; omega)
            have HX : Hid (E = true) := by show _ = _; rw [← he.out, hkn]; rfl
            clear he hkn
            by_cases hbig : 2000 < s.size
            · have p3 : decide (2000 < (s.size : Int)) = true := decide_eq_true (by omega)
              go_wp2_with fail
              go_ret
              exact ⟨ret_int (by rw [HF.out, HX.out, if_pos hbig]; rfl), HB.out⟩
            · have p3 : decide (2000 < (s.size : Int)) = false := decide_eq_false (by omega)
              go_wp2_with fail
              go_ret
              exact ⟨ret_int (by rw [HF.out, HX.out, if_neg hbig]; rfl), HB.out⟩
      · have q1 : ((c : Int) == 48) = false := by rw [beq_eq_false_iff_ne]; omega
        clear h4'
        go_enter Try.func74, Try.ntmps74
        go_wp2_with (rw [hcv])
        have hc1 : ∀ j, j < s.size → (Lib.bytesWorld w 5 s).cell? ⟨w.heap.size, j, none⟩ = some (.int .u8 (s.data.toList.getD j 0).toNat) := fun j hj => Lib.bytesWorld_cell w 5 s j hj
        have hsz := Lib.bytesWorld_size w 5 s
        have HB := Lib.hid (below_bytes w 5 s)
        have HC := Lib.hid hc1
        clear hc1 hcv hc HC0
        generalize Lib.bytesWorld w 5 s = W1 at *
        generalize grownCap w s.size 0 5 = cp at *
        go_loopw [20] (fun i wr => ∃ k : Nat, k ≤ s.size ∧ i = .int .i64 k ∧ Hid (digsE (s.data.toList.drop k) = E) ∧ W1 = wr) (fun i _ => s.size - (intOf i).toNat)
        case atStart => exact ⟨0, Nat.zero_le _, rfl, hgo, rfl⟩
        case round =>
          obtain ⟨k, hk, rfl, he, rfl⟩ := hrel
          by_cases hlt : k < s.size
          · have x0 := HC.out k hlt
            have hd := digsE_drop (l := s.data.toList) (k := k) (by rw [HLen.out]; exact hlt)
            have c0 : (s.data.toList.getD k 0).toNat < 256 := UInt8.toNat_lt _
            generalize (s.data.toList.getD k 0).toNat = d at *
            have HD := Lib.hid (he.out.symm.trans hd)
            clear hd he
            by_cases d1 : d < 48
            · have HE : Hid (E = false) := by show _ = _; rw [HD.out, if_neg]; unfold digB; simp [d1]
              have p1 : decide ((d : Int) < 48) = true := decide_eq_true (by omega)
              go_wp2_with fail
              go_ret
              exact ⟨ret_int (by rw [HF.out, if_pos HE.out]), HB.out⟩
            · have p1 : decide ((d : Int) < 48) = false := decide_eq_false (by omega)
              by_cases d2 : 57 < d
              · have HE : Hid (E = false) := by show _ = _; rw [HD.out, if_neg]; unfold digB; simp [d2]
                have p2 : decide (57 < (d : Int)) = true := decide_eq_true (by omega)
                go_wp2_with fail
                go_ret
                exact ⟨ret_int (by rw [HF.out, if_pos HE.out]), HB.out⟩
              · have p2 : decide (57 < (d : Int)) = false := decide_eq_false (by omega)
                have HE : Hid (digsE (s.data.toList.drop (k + 1)) = E) := by show _ = _; rw [HD.out, if_pos]; unfold digB; simp [d1, d2]
                clear HD
                go_wp2_with fail
                go_roundw
                case rel => exact ⟨k + 1, hlt, by go_num, HE, trivial⟩
                case measure => (simp [intOf] <;> omega)
          · have hkn : s.data.toList.drop k = [] := List.drop_eq_nil_of_le (by rw [HLen.out]; omega)
            have HX : Hid (E = true) := by show _ = _; rw [← he.out, hkn]; rfl
            clear he hkn
            by_cases hbig : 2000 < s.size
            · have p3 : decide (2000 < (s.size : Int)) = true := decide_eq_true (by omega)
              go_wp2_with fail
              go_ret
              exact ⟨ret_int (by rw [HF.out, HX.out, if_pos hbig]; rfl), HB.out⟩
            · have p3 : decide (2000 < (s.size : Int)) = false := decide_eq_false (by omega)
              go_wp2_with fail
              go_ret
              exact ⟨ret_int (by rw [HF.out, HX.out, if_neg hbig]; rfl), HB.out⟩
end Go.Proofs.Ythcddboeejbncaa
