/- strings.Cut at one byte, strings.CutPrefix. nat.Of; an append to a row of digits. nat.Cmp. -/
import Derived.Test.YthcddboeejbncaaPkNat1Txt1
import Derived.Test.YthcddboeejbncaaShelf
import Derived.Lib.IndexLaws
namespace Go.Proofs.Ythcddboeejbncaa
open Go.RowKit

/-- The string of some bytes. -/
abbrev bs (l : List UInt8) : ByteArray := ⟨l.toArray⟩
theorem bs_list (l : List UInt8) : (bs l).data.toList = l := by simp
theorem bs_data (s : ByteArray) : bs s.data.toList = s := by simp
theorem bs_inj {l m : List UInt8} (h : bs l = bs m) : l = m := by
  have := congrArg (fun s => s.data.toList) h
  simpa using this
theorem bs_size (l : List UInt8) : (bs l).size = l.length := by show l.toArray.size = _; simp
theorem ext_take (s : ByteArray) (i : Nat) : s.extract 0 i = bs (s.data.toList.take i) := by
  apply ByteArray.ext
  rw [ByteArray.data_extract]
  apply Array.ext'
  simp only [Array.toList_extract]
  simp [List.extract_eq_take_drop]
theorem ext_drop (s : ByteArray) (i : Nat) : s.extract i s.size = bs (s.data.toList.drop i) := by
  apply ByteArray.ext
  rw [ByteArray.data_extract]
  apply Array.ext'
  simp only [Array.toList_extract]
  rw [show s.size = s.data.size from rfl, List.extract_eq_take_drop, List.take_of_length_le]
  simp
/-- What Cut answers at a separator of one byte. -/
def cutL (c : UInt8) (l : List UInt8) : List UInt8 × List UInt8 × Bool :=
  if 0 ≤ Lib.indexByte l c then (l.take (Lib.indexByte l c).toNat, l.drop ((Lib.indexByte l c).toNat + 1), true) else (l, [], false)
set_option maxHeartbeats 1000000 in
theorem liteCut_c (s : ByteArray) (c : UInt8) (w : World) (hs : s.size ≤ 9223372036854775807) :
    Calls Try.prog 84 #[.string s, .string ⟨#[c]⟩] w fun e w' => e = .returned (.tuple #[.string (bs (cutL c s.data.toList).1), .string (bs (cutL c s.data.toList).2.1), .bool (cutL c s.data.toList).2.2]) ∧ Below w.heap.size w w' := by
  have HI := Lib.hid (Try.stringslite_Index_one s c w)
  have hge := Lib.indexByte_ge s.data.toList c
  obtain ⟨i, hi⟩ : ∃ i, Lib.indexByte s.data.toList c = i := ⟨_, rfl⟩
  have HC : Hid (cutL c s.data.toList = if 0 ≤ i then (s.data.toList.take i.toNat, s.data.toList.drop (i.toNat + 1), true) else (s.data.toList, [], false)) := by
    show _ = _; unfold cutL; rw [hi]
  generalize cutL c s.data.toList = R at *
  rw [hi] at HI hge
  have h1 : (⟨#[c]⟩ : ByteArray).size = 1 := rfl
  by_cases h0 : 0 ≤ i
  · obtain ⟨k, rfl⟩ : ∃ k : Nat, i = k := ⟨i.toNat, by omega⟩
    have hk : k < s.size := by
      have := (List.getElem?_eq_some_iff.1 (Lib.indexByte_some hi).1).1
      simpa using this
    have HF : Hid (R = (s.data.toList.take k, s.data.toList.drop (k + 1), true)) := by show _ = _; rw [HC.out, if_pos h0]; rfl
    have e1 : ((k : Int) + 1).toNat = k + 1 := by omega
    have m1 : IntKind.i64.wrap ((k : Int) + 1) = (k : Int) + 1 := IntWalk.i64_in _ (by omega)
    clear hi HC hge h0
    go_enter Try.func84, Try.ntmps84
    go_wp2_with fail
    refine HI.out.mono ?_; rintro e w2 ⟨rfl, rfl⟩
    go_wp2_with fail
    go_quiet (fail)
    go_wp2_with fail
    refine bodyPost_ret (v := .tuple #[.string (s.extract 0 k), .string (s.extract (k + 1) s.size), .bool true]) (by simp [results, Try.results84, go_sem]) rfl ⟨?_, below_drewN (Below.refl _ _) _⟩
    rw [HF.out, ext_take, ext_drop]
  · obtain rfl : i = -1 := by omega
    have HF : Hid (R = (s.data.toList, [], false)) := by show _ = _; rw [HC.out, if_neg h0]
    clear hi HC hge h0
    go_enter Try.func84, Try.ntmps84
    go_wp2_with fail
    refine HI.out.mono ?_; rintro e w2 ⟨rfl, rfl⟩
    go_wp2_with fail
    refine bodyPost_ret (v := .tuple #[.string s, .string ⟨#[]⟩, .bool false]) (by simp [results, Try.results84, go_sem]) rfl ⟨?_, Below.refl _ _⟩
    rw [HF.out]
set_option maxHeartbeats 1000000 in
theorem cut_c (s : ByteArray) (c : UInt8) (w : World) (hs : s.size ≤ 9223372036854775807) :
    Calls Try.prog 73 #[.string s, .string ⟨#[c]⟩] w fun e w' => e = .returned (.tuple #[.string (bs (cutL c s.data.toList).1), .string (bs (cutL c s.data.toList).2.1), .bool (cutL c s.data.toList).2.2]) ∧ Below w.heap.size w w' := by
  have HI := Lib.hid (liteCut_c s c w hs)
  obtain ⟨⟨R1, R2, R3⟩, hR⟩ : ∃ r, cutL c s.data.toList = r := ⟨_, rfl⟩
  rw [hR] at HI ⊢
  clear hR
  obtain ⟨A, hA⟩ : ∃ x, bs R1 = x := ⟨_, rfl⟩
  obtain ⟨B, hB⟩ : ∃ x, bs R2 = x := ⟨_, rfl⟩
  have HI2 : Hid (Calls Try.prog 84 #[.string s, .string ⟨#[c]⟩] w fun e w' => e = .returned (.tuple #[.string A, .string B, .bool R3]) ∧ Below w.heap.size w w') := by rw [← hA, ← hB]; exact HI.out
  show Calls _ _ _ _ fun e w' => e = .returned (.tuple #[.string (bs R1), .string (bs R2), .bool R3]) ∧ Below w.heap.size w w'
  rw [hA, hB]
  clear HI hA hB
  go_enter Try.func73, Try.ntmps73
  go_wp2_with fail
  refine HI2.out.mono ?_; rintro e w2 ⟨rfl, hb⟩
  have HB := Lib.hid hb
  clear hb
  go_wp2_with fail
  exact bodyPost_ret (v := .tuple #[.string A, .string B, .bool R3]) (by simp [results, Try.results73, go_sem]) rfl ⟨rfl, HB.out⟩
end Go.Proofs.Ythcddboeejbncaa
namespace Go.Proofs.Ythcddboeejbncaa
open Go.RowKit

theorem info_parts {P : Program} {t : TypeId} {z : Value} {s b : Nat} (h : (P.info? t).map (fun i => (i.zero, i.size, i.bytes)) = some (some z, s, b)) :
    ∃ i, P.info? t = some i ∧ i.zero = some z ∧ i.size = s ∧ i.bytes = b := by
  cases hi : P.info? t with
  | none => rw [hi] at h; cases h
  | some i => rw [hi] at h; simp at h; exact ⟨i, rfl, h⟩
theorem infoU32 : (Try.prog.info? 123).map (fun i => (i.zero, i.size, i.bytes)) = some (some (.int .u32 0), 1, 4) := by kernel_rfl
theorem RO.own {base : Nat} {W : World} {v : Value} {l : List Int} (h : RO base W v l) : ∀ j, v.ownBlock = some j → base ≤ j := by
  intro j hj
  obtain ⟨_, hv | ⟨g, cap, cur, rfl, h2, _⟩⟩ := h
  · rw [hv.1] at hj; cases hj
  · cases hj; exact h2
theorem RO.app {base : Nat} {W : World} {v : Value} {l : List Int} (h : RO base W v l) (hb : base ≤ W.heap.size) (x : Int) (lb : Nat) (hx : W.cell? ⟨lb, 0, none⟩ = some (.int .u32 x)) (hl : l.length ≤ 35000000000000) :
    ∃ v' W', (∀ ty, (Builtin.append_ #[78, 78] ty #[v, .slice (some ⟨lb, 0, none⟩) 1 1]).run Try.prog W = .ok v' W') ∧ RO base W' v' (l ++ [x]) ∧ Below base W W' := by
  obtain ⟨i0, hi0, hz0, hz1, hz2⟩ := info_parts infoU32
  have key := fun ty => run_append_own (P := Try.prog) W base 78 ty 123 i0 (.int .u32 0) 1 4 Try.underlying78 hi0 hz0 hz1 hz2 rfl (by decide) v l.length (u32s l) h ⟨lb, 0, none⟩ 1 1 [.int .u32 x] rfl
    (fun j u hj => by
      cases j with
      | zero => simp at hj; subst hj; simpa [Addr.add] using hx
      | succ j => simp at hj) (fun u hu => by rw [List.mem_singleton] at hu; subst hu; rfl) (by unfold maxLen; omega) (by omega) hb
  obtain ⟨v', w', h1, h2, h3, _⟩ := key 0
  refine ⟨v', w', fun ty => h1, ?_, ?_⟩
  · unfold RO
    rw [List.length_append, show u32s (l ++ [x]) = u32s l ++ [.int .u32 x] by unfold u32s; simp]; exact h2
  · exact Below.grown ⟨rfl, rfl, rfl, Nat.le_refl _, fun _ _ => rfl⟩ h3 hb (fun k e => h.own k e)
theorem RO.alloc {base : Nat} {W : World} {v : Value} {l : List Int} (h : RO base W v l) (o : Obj) : RO base (W.alloc o) v l :=
  h.below (belowA (Below.refl _ _) o)
theorem RO.drew {base : Nat} {W : World} {v : Value} {l : List Int} (h : RO base W v l) : RO base W.drew v l := h
theorem dg_pos {n : Nat} (h : 0 < n) : dg n = ((n % 1000000000 : Nat) : Int) :: dg (n / 1000000000) := by
  conv => lhs; unfold dg
  rw [if_neg (by omega)]
set_option maxHeartbeats 1000000 in
theorem nof_c (m : Nat) (w : World) (hm : m ≤ 9223372036854775807) :
    Calls Try.prog 50 #[.int .i64 m] w fun e w' => (∃ v', e = .returned v' ∧ NO w.heap.size w' v' m) ∧ Below w.heap.size w w' := by
  have HL : Hid (ln m ≤ 3) := ln_le (by have : pw 3 = 1000000000000000000000000000 := by decide
                                        rw [this]; omega)
  go_enter Try.func50, Try.ntmps50
  go_wp2_with fail
  go_loopw [0, 3] (fun i o wr => ∃ (k : Nat) (ds : List Int) , k ≤ m ∧ i = .int .i64 k ∧ Hid (dg m = ds ++ dg k) ∧ Hid (RO w.heap.size wr o ds) ∧ Hid (Below w.heap.size w wr)) (fun i _ _ => (intOf i).toNat)
  case atStart => exact ⟨m, [], Nat.le_refl _, rfl, rfl, RO.nil _ _, Below.refl _ _⟩
  case round =>
    obtain ⟨k, ds, hk, rfl, hd, ho, hb⟩ := hrel
    obtain ⟨a, c, rfl⟩ := ho.out.slice
    by_cases hlt : 0 < k
    · have hdl : ds.length ≤ 3 := by
        have h1 := congrArg List.length hd.out
        have h2 := HL.out
        unfold ln at h2
        rw [List.length_append] at h1; omega
      obtain ⟨v7, W7, h7, hr7, hb7⟩ := (ho.out.alloc (.cells #[.int .u32 ((k : Int) % 1000000000)] 123)).app (by rw [World.size_alloc]; have := hb.out.size; omega) _ wr.heap.size ((Blk.new _ _ _).cell 0 rfl) (by omega)
      have HB7 := Lib.hid ((hb.out.alloc hb.out.size _).trans hb7)
      have HR7 := Lib.hid hr7
      have HD : Hid (dg m = (ds ++ [(k : Int) % 1000000000]) ++ dg (k / 1000000000)) := by
        show dg m = _
        rw [hd.out, dg_pos hlt]; simp
      clear hd ho hb hdl hr7 hb7
      go_wp2_with (at_builtin; refine wpList_append_told rfl (.tmp 6) (.tmp 10) 78 rfl _ _ rfl rfl v7 W7 (h7 _) ?_)
      go_roundw
      case rel => exact ⟨k / 1000000000, _, by omega, by go_num, HD, HR7, HB7⟩
      case measure => simp [intOf]; omega
    · obtain rfl : k = 0 := by omega
      have hfin : NO w.heap.size wr (.slice a ds.length c) m := by
        have h1 := hd.out
        rw [dg_zero, List.append_nil] at h1
        unfold NO; rw [h1]; exact ho.out
      go_wp2_with fail
      go_ret
      exact ⟨⟨_, rfl, hfin⟩, hb.out⟩
end Go.Proofs.Ythcddboeejbncaa
namespace Go.Proofs.Ythcddboeejbncaa
open Go.RowKit

def cmpN (a b : Nat) : Int := if a < b then -1 else if b < a then 1 else 0
theorem dg_lt {a b i : Nat} (hi : i < ln a) (hl : ln a = ln b) (hd : (dg a).drop (i + 1) = (dg b).drop (i + 1)) (h : (dg a).getD i 0 < (dg b).getD i 0) : a < b := by
  have ha : i < (dg a).length := hi
  have hb : i < (dg b).length := by unfold ln at hl; omega
  have a1 := val_split (dg a) i (by omega)
  have b1 := val_split (dg b) i (by omega)
  rw [dg_val, val_drop ha, hd] at a1
  rw [dg_val, val_drop hb] at b1
  have a2 := val_lt ((dg_ok a).take i)
  have b2 := val_nonneg ((dg_ok b).take i)
  rw [List.length_take, Nat.min_eq_left (by omega)] at a2
  have hp := pw_pos i
  generalize val ((dg b).drop (i + 1)) = t at *
  generalize (dg a).getD i 0 = x at *
  generalize (dg b).getD i 0 = y at *
  have h3 : pw i * (x + 1000000000 * t) + pw i * 1 ≤ pw i * (y + 1000000000 * t) := by
    rw [← Int.mul_add]; exact Int.mul_le_mul_of_nonneg_left (by omega) (by omega)
  omega
theorem dg_inj {a b : Nat} (h : dg a = dg b) : a = b := by
  have := congrArg val h; rw [dg_val, dg_val] at this; omega
theorem NV.at {w : World} {v : Value} {a n : Nat} (h : NV w v a) (hn : ln a = n) {j : Nat} (hj : j < n) : ∃ g off cap, v = .slice (some ⟨g, off, none⟩) n cap ∧ n ≤ cap ∧ w.cell? ⟨g, off + j, none⟩ = some (.int .u32 ((dg a).getD j 0)) := by
  subst hn
  obtain ⟨g, off, cap, h1, h2, _, _, h5⟩ := Reads.addr h.1 (by omega)
  exact ⟨g, off, cap, h1, h2, h5 j _ (u32s_get hj)⟩
theorem NV.bound {w : World} {v : Value} {a : Nat} (h : NV w v a) : ln a ≤ 9223372036854775807 := by
  rcases h.1 with ⟨h, _⟩ | ⟨_, _, _, _, _, h, _⟩ <;> omega
set_option maxHeartbeats 1000000 in
theorem ncmp_c (va vb : Value) (a b : Nat) (w : World) (ha : NV w va a) (hb : NV w vb b) :
    Calls Try.prog 77 #[va, vb] w fun e w' => e = .returned (.int .i64 (cmpN a b)) ∧ Below w.heap.size w w' := by
  have hA := ha.bound
  have hB := hb.bound
  obtain ⟨aa, ca, rfl⟩ := ha.slice
  obtain ⟨ab, cb, rfl⟩ := hb.slice
  have HA := Lib.hid ha
  have HB := Lib.hid hb
  obtain ⟨n, hn⟩ : ∃ n, ln a = n := ⟨_, rfl⟩
  obtain ⟨m, hm⟩ : ∃ m, ln b = m := ⟨_, rfl⟩
  obtain ⟨r, hr⟩ : ∃ r, cmpN a b = r := ⟨_, rfl⟩
  have HN := Lib.hid hn
  have HM := Lib.hid hm
  have HR := Lib.hid hr
  rw [hn] at hA HA ⊢
  rw [hm] at hB HB ⊢
  rw [hr]
  clear hn hm hr ha hb
  by_cases hnm : n = m
  · subst hnm
    go_enter Try.func77, Try.ntmps77
    go_wp2_with fail
    go_loopw [5] (fun i wr => ∃ (k : Nat) (z : Int), k ≤ n ∧ Hid (z = (k : Int) - 1) ∧ i = .int .i64 z ∧ Hid ((dg a).drop k = (dg b).drop k) ∧ Hid (Below w.heap.size w wr)) (fun i _ => (intOf i + 1).toNat)
    case atStart => exact ⟨n, _, Nat.le_refl _, rfl, rfl, by show _ = _; rw [List.drop_eq_nil_of_le (by show ln a ≤ n; rw [HN.out]; exact Nat.le_refl _), List.drop_eq_nil_of_le (by show ln b ≤ n; rw [HM.out]; exact Nat.le_refl _)], Below.refl _ _⟩
    case round =>
      obtain ⟨k, z, hk, hz, rfl, hd, hb⟩ := hrel
      rcases k with _ | j
      · obtain rfl : z = -1 := by have := hz.out; omega
        have he : a = b := dg_inj (by simpa using hd.out)
        go_wp2_with fail
        go_ret
        exact ⟨ret_int (by rw [← HR.out, he]; unfold cmpN; simp), hb.out⟩
      · obtain rfl : z = (j : Int) := by have := hz.out; omega
        obtain ⟨g1, o1, c1, e1, _, x1⟩ := (HA.out.below hb.out).at HN.out (j := j) (by omega)
        obtain ⟨g2, o2, c2, e2, _, x2⟩ := (HB.out.below hb.out).at HM.out (j := j) (by omega)
        cases e1; cases e2
        obtain ⟨x, hx⟩ : ∃ x, (dg a).getD j 0 = x := ⟨_, rfl⟩
        obtain ⟨y, hy⟩ : ∃ y, (dg b).getD j 0 = y := ⟨_, rfl⟩
        rw [hx] at x1; rw [hy] at x2
        have HX := Lib.hid hx
        have HY := Lib.hid hy
        clear hx hy
        rcases Int.lt_trichotomy x y with hlt | heq | hgt
        · have hab : a < b := dg_lt (by rw [HN.out]; omega) (by rw [HN.out, HM.out]) hd.out (by rw [HX.out, HY.out]; exact hlt)
          have q1 : decide (x < y) = true := decide_eq_true hlt
          go_wp2_with fail
          go_quiet (fail)
          go_wp2_with fail
          go_ret
          exact ⟨ret_int (by rw [← HR.out]; unfold cmpN; rw [if_pos hab]), (by first | exact below_drewN hb.out _ | exact below_drewN (below_drewN hb.out _) _)⟩
        · have q1 : decide (x < y) = false := decide_eq_false (by omega)
          have q2 : decide (y < x) = false := decide_eq_false (by omega)
          have HD : Hid ((dg a).drop j = (dg b).drop j) := by
            show _ = _
            have hja : j < (dg a).length := by show j < ln a; rw [HN.out]; omega
            have hjb : j < (dg b).length := by show j < ln b; rw [HM.out]; omega
            have h1 := HX.out; have h2 := HY.out
            rw [List.drop_eq_getElem_cons hja, List.drop_eq_getElem_cons hjb, hd.out]
            congr 1
            rw [List.getD_eq_getElem?_getD, List.getElem?_eq_getElem hja] at h1
            rw [List.getD_eq_getElem?_getD, List.getElem?_eq_getElem hjb] at h2
            simp only [Option.getD_some] at h1 h2
            omega
          clear heq hd hz
          go_wp2_with fail
          go_quiet (fail)
          go_wp2_with fail
          go_quiet (fail)
          go_wp2_with fail
          go_roundw
          case rel => exact ⟨j, _, by omega, rfl, by go_num, HD, (by first | exact below_drewN hb.out _ | exact below_drewN (below_drewN hb.out _) _)⟩
          case measure => (simp [intOf] <;> omega)
        · have hab : b < a := dg_lt (by rw [HM.out]; omega) (by rw [HN.out, HM.out]) hd.out.symm (by rw [HX.out, HY.out]; exact hgt)
          have q1 : decide (x < y) = false := decide_eq_false (by omega)
          have q2 : decide (y < x) = true := decide_eq_true (by omega)
          go_wp2_with fail
          go_quiet (fail)
          go_wp2_with fail
          go_quiet (fail)
          go_wp2_with fail
          go_ret
          exact ⟨ret_int (by rw [← HR.out]; unfold cmpN; rw [if_neg (by omega), if_pos hab]), (by first | exact below_drewN hb.out _ | exact below_drewN (below_drewN hb.out _) _)⟩
  · rcases Nat.lt_or_gt_of_ne hnm with hlt | hgt
    · have hab : a < b := lt_of_ln (by rw [HN.out, HM.out]; exact hlt)
      have q1 : ((n : Int) != m) = true := by simp; omega
      go_enter Try.func77, Try.ntmps77
      go_wp2_with fail
      go_ret
      exact ⟨ret_int (by rw [← HR.out]; unfold cmpN; rw [if_pos hab]), Below.refl _ _⟩
    · have hab : b < a := lt_of_ln (by rw [HN.out, HM.out]; exact hgt)
      have q1 : ((n : Int) != m) = true := by simp; omega
      have q2 : ¬ n < m := by omega
      go_enter Try.func77, Try.ntmps77
      go_wp2_with fail
      go_ret
      exact ⟨ret_int (by rw [← HR.out]; unfold cmpN; rw [if_neg (by omega), if_pos hab]), Below.refl _ _⟩
end Go.Proofs.Ythcddboeejbncaa
