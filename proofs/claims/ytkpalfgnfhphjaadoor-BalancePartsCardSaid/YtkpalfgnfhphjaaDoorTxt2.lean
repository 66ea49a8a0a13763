/- strings.Cut at one byte, strings.CutPrefix. -/
import Derived.Test.YtkpalfgnfhphjaaDoorTxt1
import Derived.Test.YtkpalfgnfhphjaaDoorShelf
import Derived.Lib.IndexLaws
namespace Go.Proofs.YtkpalfgnfhphjaaDoor
open Go.RowKit

/-- The string of some bytes. -/
abbrev bs (l : List UInt8) : ByteArray := ⟨l.toArray⟩
theorem bs_list (l : List UInt8) : (bs l).data.toList = l := by simp
theorem bs_data (s : ByteArray) : bs s.data.toList = s := by simp
theorem bs_inj {l m : List UInt8} (h : bs l = bs m) : l = m := by
  have := congrArg (fun s => s.data.toList) h
  simpa using this
theorem bs_size (l : List UInt8) : (bs l).size = l.length := by show l.toArray.size = _; simp
theorem ext_take (s : ByteArray) (i : Nat) : s.extract 0 i = bs (s.data.toList.take i) := by
  apply ByteArray.ext
  rw [ByteArray.data_extract]
  apply Array.ext'
  simp only [Array.toList_extract]
  simp [List.extract_eq_take_drop]
theorem ext_drop (s : ByteArray) (i : Nat) : s.extract i s.size = bs (s.data.toList.drop i) := by
  apply ByteArray.ext
  rw [ByteArray.data_extract]
  apply Array.ext'
  simp only [Array.toList_extract]
  rw [show s.size = s.data.size from rfl, List.extract_eq_take_drop, List.take_of_length_le]
  simp
/-- What Cut answers at a separator of one byte. -/
def cutL (c : UInt8) (l : List UInt8) : List UInt8 × List UInt8 × Bool :=
  if 0 ≤ Lib.indexByte l c then (l.take (Lib.indexByte l c).toNat, l.drop ((Lib.indexByte l c).toNat + 1), true) else (l, [], false)
set_option maxHeartbeats 1000000 in
theorem liteCut_c (s : ByteArray) (c : UInt8) (w : World) (hs : s.size ≤ 9223372036854775807) :
    Calls Tryd.prog 74 #[.string s, .string ⟨#[c]⟩] w fun e w' => e = .returned (.tuple #[.string (bs (cutL c s.data.toList).1), .string (bs (cutL c s.data.toList).2.1), .bool (cutL c s.data.toList).2.2]) ∧ Below w.heap.size w w' := by
  have HI := Lib.hid (Tryd.stringslite_Index_one s c w)
  have hge := Lib.indexByte_ge s.data.toList c
  obtain ⟨i, hi⟩ : ∃ i, Lib.indexByte s.data.toList c = i := ⟨_, rfl⟩
  have HC : Hid (cutL c s.data.toList = if 0 ≤ i then (s.data.toList.take i.toNat, s.data.toList.drop (i.toNat + 1), true) else (s.data.toList, [], false)) := by
    show _ = _; unfold cutL; rw [hi]
  generalize cutL c s.data.toList = R at *
  rw [hi] at HI hge
  have h1 : (⟨#[c]⟩ : ByteArray).size = 1 := rfl
  by_cases h0 : 0 ≤ i
  · obtain ⟨k, rfl⟩ : ∃ k : Nat, i = k := ⟨i.toNat, by omega⟩
    have hk : k < s.size := by
      have := (List.getElem?_eq_some_iff.1 (Lib.indexByte_some hi).1).1
      simpa using this
    have HF : Hid (R = (s.data.toList.take k, s.data.toList.drop (k + 1), true)) := by show _ = _; rw [HC.out, if_pos h0]; rfl
    have e1 : ((k : Int) + 1).toNat = k + 1 := by omega
    have m1 : IntKind.i64.wrap ((k : Int) + 1) = (k : Int) + 1 := IntWalk.i64_in _ (by omega)
    clear hi HC hge h0
    go_enter Tryd.func74, Tryd.ntmps74
    go_wp2_with fail
    refine HI.out.mono ?_; rintro e w2 ⟨rfl, rfl⟩
    go_wp2_with fail
    go_quiet (fail)
    go_wp2_with fail
    refine bodyPost_ret (v := .tuple #[.string (s.extract 0 k), .string (s.extract (k + 1) s.size), .bool true]) (by simp [results, Tryd.results74, go_sem]) rfl ⟨?_, below_drewN (Below.refl _ _) _⟩
    rw [HF.out, ext_take, ext_drop]
  · obtain rfl : i = -1 := by omega
    have HF : Hid (R = (s.data.toList, [], false)) := by show _ = _; rw [HC.out, if_neg h0]
    clear hi HC hge h0
    go_enter Tryd.func74, Tryd.ntmps74
    go_wp2_with fail
    refine HI.out.mono ?_; rintro e w2 ⟨rfl, rfl⟩
    go_wp2_with fail
    refine bodyPost_ret (v := .tuple #[.string s, .string ⟨#[]⟩, .bool false]) (by simp [results, Tryd.results74, go_sem]) rfl ⟨?_, Below.refl _ _⟩
    rw [HF.out]
set_option maxHeartbeats 1000000 in
theorem cut_c (s : ByteArray) (c : UInt8) (w : World) (hs : s.size ≤ 9223372036854775807) :
    Calls Tryd.prog 58 #[.string s, .string ⟨#[c]⟩] w fun e w' => e = .returned (.tuple #[.string (bs (cutL c s.data.toList).1), .string (bs (cutL c s.data.toList).2.1), .bool (cutL c s.data.toList).2.2]) ∧ Below w.heap.size w w' := by
  have HI := Lib.hid (liteCut_c s c w hs)
  obtain ⟨⟨R1, R2, R3⟩, hR⟩ : ∃ r, cutL c s.data.toList = r := ⟨_, rfl⟩
  rw [hR] at HI ⊢
  clear hR
  obtain ⟨A, hA⟩ : ∃ x, bs R1 = x := ⟨_, rfl⟩
  obtain ⟨B, hB⟩ : ∃ x, bs R2 = x := ⟨_, rfl⟩
  have HI2 : Hid (Calls Tryd.prog 74 #[.string s, .string ⟨#[c]⟩] w fun e w' => e = .returned (.tuple #[.string A, .string B, .bool R3]) ∧ Below w.heap.size w w') := by rw [← hA, ← hB]; exact HI.out
  show Calls _ _ _ _ fun e w' => e = .returned (.tuple #[.string (bs R1), .string (bs R2), .bool R3]) ∧ Below w.heap.size w w'
  rw [hA, hB]
  clear HI hA hB
  go_enter Tryd.func58, Tryd.ntmps58
  go_wp2_with fail
  refine HI2.out.mono ?_; rintro e w2 ⟨rfl, hb⟩
  have HB := Lib.hid hb
  clear hb
  go_wp2_with fail
  exact bodyPost_ret (v := .tuple #[.string A, .string B, .bool R3]) (by simp [results, Tryd.results58, go_sem]) rfl ⟨rfl, HB.out⟩
end Go.Proofs.YtkpalfgnfhphjaaDoor
