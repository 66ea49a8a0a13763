/- journal: Parse. -/
import Derived.Test.YtjakhgilkogcnaaDoorJr22
namespace Go.Proofs.YtjakhgilkogcnaaDoor
open Go.RowKit

/-- Events, a line and an error, as Parse returns them. -/
def ParP (r : List Ev × Int × Int) (w : World) (e : Ending) (w' : World) : Prop :=
  ∃ a c, e = .returned (.tuple #[.slice a r.1.length c, .int .i64 r.2.1, .int .i64 r.2.2]) ∧ EVal w' (.slice a r.1.length c) r.1 ∧ Below w.heap.size w w'
theorem ParP.fail {w w' : World} {k er : Int} (h : Below w.heap.size w w') : ParP ([], k, er) w (.returned (.tuple #[.slice none 0 0, .int .i64 k, .int .i64 er])) w' :=
  ⟨none, 0, rfl, Or.inl ⟨rfl, rfl, none, 0, rfl⟩, h⟩
set_option maxRecDepth 100000 in
set_option maxHeartbeats 4000000 in
theorem parse_c (s : ByteArray) (w : World) (hp : Pow w) (hv : ErrV w) (hm : MaxV w) (hsz : s.size ≤ 9223372036854775807) :
    Calls Tryd.prog 16 #[.string s] w (ParP (parseE s) w) := by
  by_cases hbig : 65536 < s.size
  · have HE : Hid (parseE s = ([], 0, 2)) := by show _ = _; unfold parseE; rw [if_pos hbig]
    generalize parseE s = E at *
    obtain ⟨n, hn⟩ : ∃ n, s.size = n := ⟨_, rfl⟩
    have g1 : decide (65536 < (n : Int)) = true := decide_eq_true (by omega)
    clear hp hv hm hbig
    go_enter Tryd.func16, Tryd.ntmps16
    go_wp2_with fail
    go_ret3
    rw [HE.out]; exact ParP.fail (Below.refl _ _)
  · have hs : s.size ≤ 70000 := by omega
    have HC := Lib.hid (cloneS_c s w hs)
    have HSP := Lib.hid (fun W (hW : Below w.heap.size w W) => split_c s ⟨#[10]⟩ W hs (hm.below hW) (by decide))
    have HE : Hid (parseE s = if (pcs s ⟨#[10]⟩).getLastD ByteArray.empty ≠ ByteArray.empty then ([], ((pcs s ⟨#[10]⟩).length : Int), 5) else
      if 256 < (pcs s ⟨#[10]⟩).length - 1 then ([], 0, 2) else linesE (pcs s ⟨#[10]⟩).dropLast 0 []) := by
      show _ = _
      unfold parseE; rw [if_neg hbig]
    have HLI := Lib.hid (fun (a : ByteArray) (ha : a ∈ pcs s ⟨#[10]⟩) W (hW : Below w.heap.size w W) => line_c a W (Nat.le_trans (pcs_le ha) hs) (hp.below hW) (hv.below hW) (hm.below hW))
    have hpl : 0 < (pcs s ⟨#[10]⟩).length := by
      have := Lib.splitB_all ⟨#[10]⟩ (by decide) 0 _ s rfl
      show 0 < (Lib.splitB _ _ _ _).length
      omega
    have hpm : (pcs s ⟨#[10]⟩).length ≤ 70001 := by
      have := Lib.splitB_all ⟨#[10]⟩ (by decide) 0 _ s rfl
      have h2 := Lib.countB_le ⟨#[10]⟩ (by decide) _ s (Nat.le_refl _)
      show (Lib.splitB _ _ _ _).length ≤ _
      omega
    generalize parseE s = E at *
    generalize pcs s ⟨#[10]⟩ = P at *
    obtain ⟨m, hml⟩ : ∃ m, P.length = m + 1 := ⟨P.length - 1, by omega⟩
    obtain ⟨x, hx⟩ : ∃ x, P[m]? = some x := ⟨_, List.getElem?_eq_getElem (by omega)⟩
    have hlast : P.getLastD ByteArray.empty = x := by
      rw [List.getLastD_eq_getLast?, List.getLast?_eq_getElem?, hml, Nat.add_sub_cancel, hx]; rfl
    obtain ⟨n, hn⟩ : ∃ n, s.size = n := ⟨_, rfl⟩
    have g1 : decide (65536 < (n : Int)) = false := decide_eq_false (by omega)
    have hm1 : m + 1 ≤ 70001 := by omega
    rw [hlast, hml] at HE
    rw [hml] at HSP
    have HML := Lib.hid hml
    have HXX := Lib.hid hx
    clear hp hv hm hbig hlast hx hml hpl hpm
    go_enter Tryd.func16, Tryd.ntmps16
    go_wp2_with fail
    refine HC.out.mono ?_; rintro e w2 ⟨rfl, hb2⟩
    have HSP2 := Lib.hid (HSP.out w2 hb2)
    have B2 := Lib.hid hb2
    clear hb2 HC HSP
    go_wp2_with fail
    refine HSP2.out.mono ?_; rintro e w3 ⟨rfl, hk3, hb3⟩
    have B3 := Lib.hid (belowT B2.out hb3)
    have KP : Hid (Blk w3 w2.heap.size (P.map Value.string).toArray 9) := hk3
    have cx : w3.cell? ⟨w2.heap.size, m, none⟩ = some (.string x) := KP.out.cell m (by simp [HXX.out])
    have hlt3 := KP.out.lt
    generalize w2.heap.size = pb at *
    clear hb3 hk3 HSP2 B2
    have hm2 : (m : Int) < (m : Int) + 1 := by omega
    by_cases hxe : x = ByteArray.empty
    · have HE1 : Hid (E = if 256 < m then ([], 0, 2) else linesE P.dropLast 0 []) := HE.out.trans (if_neg (fun h => h hxe))
      have g2 : x.toList.isEmpty = true := by rw [hxe, show ByteArray.empty.toList = [] by decide +kernel]; rfl
      clear HE hxe
      by_cases hb : 256 < m
      · have HE2 : Hid (E = ([], 0, 2)) := HE1.out.trans (if_pos hb)
        have g3 : decide (256 < (m : Int)) = true := decide_eq_true (by omega)
        clear HE1 hb
        go_wp2_with fail
        go_ret3
        rw [HE2.out]; exact ParP.fail B3.out
      · have HE2 : Hid (E = linesE P.dropLast 0 []) := HE1.out.trans (if_neg hb)
        have g3 : decide (256 < (m : Int)) = false := decide_eq_false (by omega)
        have hm256 : m ≤ 256 := by omega
        have HR0 : Hid (linesE (P.dropLast.drop 0) 0 [] = E) := HE2.out.symm
        have HBW := Lib.hid B3.out.size
        clear HE1 hb HE2
        go_wp2_with fail
        go_loopw [36, 7] (fun i ov wr => ∃ (k : Nat) (out : List Ev), k ≤ m ∧ i = .int .i64 k ∧ out.length ≤ k ∧ Hid (linesE (P.dropLast.drop k) k out = E) ∧ Hid (OwnE wr w3.heap.size ov out) ∧ Hid (Below w3.heap.size w3 wr)) (fun i _ _ => m - (intOf i).toNat)
        case atStart => exact ⟨0, [], Nat.zero_le _, rfl, Nat.le_refl _, HR0, OwnE.nil _ _, Below.refl _ _⟩
        case round =>
          clear HR0
          obtain ⟨k, out, hk, rfl, hol, he, ho, hb⟩ := hrel
          obtain ⟨oa, oc, rfl⟩ := row_slice (show wr.ownsRow w3.heap.size 31 4 _ out.length (flat Ev.cells out) from ho.out)
          by_cases hlt : k < m
          · obtain ⟨y, hy⟩ : ∃ y, P[k]? = some y := ⟨_, List.getElem?_eq_getElem (by rw [HML.out]; omega)⟩
            have hyd : P.dropLast[k]? = some y := by rw [List.getElem?_dropLast, if_pos (by rw [HML.out]; omega)]; exact hy
            rw [linesE_drop hyd] at he
            have KW := below_blk hb.out KP.out KP.out.lt
            have cy : wr.cell? ⟨pb, k, none⟩ = some (.string y) := KW.cell k (by simp [hy])
            have hpw := KW.lt
            have BW : Hid (Below w.heap.size w wr) := B3.out.trans (hb.out.mono HBW.out)
            have HL := HLI.out y (List.mem_of_getElem? hy) wr BW.out
            unfold EvP at HL
            obtain ⟨⟨X, er⟩, hXe⟩ : ∃ p, lineE y = p := ⟨_, rfl⟩
            obtain ⟨x0, x1, x2, x3⟩ := X
            rw [hXe] at HL he
            have HL2 : Hid (Calls Tryd.prog 27 #[.string y] wr fun e w' => e = .returned (.tuple #[.agg #[.int .i64 x0, .string x1, .string x2, .int .i64 x3], .int .i64 er]) ∧ Below wr.heap.size wr w') := HL
            clear HL hXe hy hyd KW
            by_cases her : er = 0
            · have HR1 : Hid (linesE (P.dropLast.drop (k + 1)) (k + 1) (out ++ [⟨x0, x1, x2, x3⟩]) = E) := by
                show _ = _
                rw [← he.out, if_neg (fun h => h her)]
              subst her
              clear he
              go_wp2_with fail
              refine HL2.out.mono ?_; rintro e w5 ⟨rfl, hb5⟩
              have B5 : Hid (Below w3.heap.size w3 w5) := hb.out.trans (hb5.mono hb.out.size)
              have O5 := ho.out.below hb5
              have B6 : Hid (Below w3.heap.size w3 (w5.alloc (.cells #[.int .i64 x0, .string x1, .string x2, .int .i64 x3] 31))) := B5.out.alloc B5.out.size _
              have O6 : Hid (OwnE (w5.alloc (.cells #[.int .i64 x0, .string x1, .string x2, .int .i64 x3] 31)) w3.heap.size (.slice oa out.length oc) out) := row_alloc O5 _
              have KX := Lib.hid (Blk.new w5 #[.int .i64 x0, .string x1, .string x2, .int .i64 x3] 31)
              clear hb5 HL2 O5 B5 cy
              go_upto_region 14 with fail
              generalize w5.alloc (.cells #[.int .i64 x0, .string x1, .string x2, .int .i64 x3] 31) = W6 at *
              generalize w5.heap.size = xb at *
              obtain ⟨a7, c7, W7, hr7, ho7, hb7⟩ := app_one ⟨x0, x1, x2, x3⟩ O6.out (by omega) B6.out.size
              have H7 : Hid (∀ ty, (Builtin.append_ #[22, 22] ty #[.slice oa out.length oc, .slice (some ⟨W6.heap.size, 0, none⟩) 1 1]).run Tryd.prog (W6.alloc (.cells #[.int .i64 x0, .string x1, .string x2, .int .i64 x3] 31)) = .ok (.slice a7 (out.length + 1) c7) W7) := hr7
              have O7 := Lib.hid ho7
              have B7 : Hid (Below w3.heap.size w3 W7) := B6.out.trans hb7
              have v0 := KX.out.cell 0 rfl
              have v1 := KX.out.cell 1 rfl
              have v2 := KX.out.cell 2 rfl
              have v3 := KX.out.cell 3 rfl
              have hxb := KX.out.lt
              clear hr7 ho7 hb7
              go_wp2_with (at_builtin; refine wpList_append_told rfl (.tmp 51) (.tmp 53) 22 rfl _ _ rfl rfl _ W7 (H7.out _) ?_)
              go_roundw
              case rel => exact ⟨k + 1, _, hlt, by go_num, by simp; omega, HR1, O7, B7⟩
              case measure => simp [intOf]; omega
            · have HE2 : Hid (E = ([], (k : Int) + 1, er)) := by
                show _ = _
                rw [← he.out, if_pos her]
              have g4 : (er != 0) = true := by simpa using her
              clear he her
              go_wp2_with fail
              refine HL2.out.mono ?_; rintro e w5 ⟨rfl, hb5⟩
              have B5 : Hid (Below w.heap.size w w5) := belowT BW.out hb5
              have hs5 : w.heap.size ≤ w5.heap.size := B5.out.size
              clear hb5 HL2 cy
              go_wp2_with fail
              go_ret3
              rw [HE2.out]; exact ParP.fail (B5.out.alloc hs5 _)
          · have hkm : k = m := by omega
            have hd : P.dropLast.drop k = [] := List.drop_eq_nil_of_le (by rw [List.length_dropLast, HML.out]; omega)
            have HE2 : Hid (E = (out, 0, 0)) := by show _ = _; rw [← he.out, hd]; rfl
            have HO2 : Hid (EVal wr (.slice oa out.length oc) out) := Reads.of_owns ho.out (by omega)
            have BB : Hid (Below w.heap.size w wr) := B3.out.trans (hb.out.mono HBW.out)
            clear he hd
            go_wp2_with fail
            go_ret3
            rw [HE2.out]; exact ⟨oa, oc, rfl, HO2.out, BB.out⟩
    · have HE2 : Hid (E = ([], ((m + 1 : Nat) : Int), 5)) := HE.out.trans (if_pos hxe)
      have g2 : x.toList.isEmpty = false := by
        cases hq : x.toList.isEmpty
        · rfl
        · exact absurd ((Lib.bytes_beq_iff x ByteArray.empty).1 (by rw [List.isEmpty_iff.1 hq, show ByteArray.empty.toList = [] by decide +kernel]; rfl)) hxe
      clear HE hxe
      go_wp2_with fail
      go_ret3
      rw [HE2.out]; exact ParP.fail B3.out
end Go.Proofs.YtjakhgilkogcnaaDoor
