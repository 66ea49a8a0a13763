/- journal: Print, the walk. -/
import Derived.Test.YtjakhgilkogcnaaDoorJr12
import Derived.Deep.RegionHeldLaw
namespace Go.Proofs.YtjakhgilkogcnaaDoor
open Go.RowKit Go.Sort

theorem evE_of {l : List Ev} (h : checkE l = 0) : ∀ x ∈ l, evE x = 0 := by
  have hl := checkE_len h
  unfold checkE at h
  rw [if_neg (by omega)] at h
  exact evsE_zero h
theorem join_line (x : Ev) (hx : evE x = 0) (W : World) : Calls Tryd.prog 21 #[.slice (some ⟨W.heap.size, 0, none⟩) 4 4, .string ⟨#[32]⟩] (W.alloc (.cells #[.string ⟨(Lib.itoa x.t).toArray⟩, .string x.k, .string x.n, .string ⟨(Lib.itoa x.v).toArray⟩] 9)) fun e w' => e = .returned (.string (lineJ x)) ∧ Below W.heap.size W w' := by
  have hj2 := (lineJ_len hx).2
  unfold lineJ
  generalize (⟨(Lib.itoa x.t).toArray⟩ : ByteArray) = s0 at *
  generalize (⟨(Lib.itoa x.v).toArray⟩ : ByteArray) = s3 at *
  have K := Blk.new W #[.string s0, .string x.k, .string x.n, .string s3] 9
  refine (Tryd.strings_Join W.heap.size 0 4 [s0, x.k, x.n, s3] ⟨#[32]⟩ (W.alloc (.cells #[.string s0, .string x.k, .string x.n, .string s3] 9)) (fun j y hj => ?_) K.lt (by simp) (by simp) (Nat.le_trans hj2 (by omega))).mono fun e w' ⟨he, hb⟩ => ⟨he, belowT (belowA (Below.refl _ W) _) hb⟩
  rw [Nat.zero_add]
  refine K.cell j ?_
  match j, hj with
  | 0, hj => cases hj; rfl
  | 1, hj => cases hj; rfl
  | 2, hj => cases hj; rfl
  | 3, hj => cases hj; rfl
theorem write_line (B b xb : Nat) (T0 : List UInt8) (s : ByteArray) (cs : Array Value) (W : World) (hI : Lib.IsBuilderF 51 5 B b (Lib.byteCells T0) W) (hl : T0.length ≤ 20000) (hs : s.size ≤ 71) (hB : B ≤ W.heap.size) (hk : Blk W xb cs 31) (hne : xb ≠ b) :
    Calls Tryd.prog 20 #[.pointer (some ⟨b, 0, none⟩), .string s] W fun e w' => ∃ z, e = .returned (.tuple #[.int .i64 z, .nilIface]) ∧ Lib.IsBuilderF 51 5 B b (Lib.byteCells (T0 ++ s.data.toList)) w' ∧ Below B W w' ∧ Blk w' xb cs 31 := by
  refine (Tryd.Builder_WriteString_k B b _ s W hI (by rw [Lib.byteCells_length]; omega) hB).mono fun e w' ⟨he, h1, h2, h3⟩ => ⟨_, he, Or.inr ?_, h2, ?_⟩
  · rw [Lib.byteCells_append, ← Lib.strCells_eq]
    exact h1
  · exact h3 _ _ hk (fun e => by injection e with e; exact hne e) (fun c fz e => by injection e with _ e _; revert e; decide)
set_option maxHeartbeats 2000000 in
theorem print_c (v : Value) (l : List Ev) (w : World) (hv : EVal w v l) (hw : Hid (∀ x ∈ l, x.Wf)) (ht : Pow w) :
    Calls Tryd.prog 14 #[v] w fun e w' => e = .returned (.tuple #[.string (printE l).1, .int .i64 (printE l).2]) ∧ Below w.heap.size w w' := by
  have HCK := Lib.hid (check_c v l w hv hw)
  have HE : Hid (printE l = if checkE l ≠ 0 then (⟨#[]⟩, checkE l) else (⟨(textB l).toArray⟩, 0)) := rfl
  have HOK := Lib.hid (@evE_of l)
  have HLN := Lib.hid (@checkE_len l)
  generalize checkE l = E at *
  generalize printE l = R at *
  by_cases hz : E = 0
  · have HR := Lib.hid (HE.out.trans (if_neg (fun h => h hz)))
    have HEV := Lib.hid (HOK.out hz)
    have hn := HLN.out hz
    subst hz
    clear HE HLN HOK
    obtain ⟨va, vc, rfl⟩ := (show Reads w v l.length (flat Ev.cells l) from hv).slice
    obtain ⟨n, hN⟩ : ∃ n, l.length = n := ⟨_, rfl⟩
    have HN := Lib.hid hN
    have HV : Hid (Reads w (.slice va n vc) n (flat Ev.cells l)) := by show Reads _ _ _ _; rw [← hN]; exact hv
    have HT := Lib.hid ht
    rw [hN] at hn HCK ⊢
    clear hv ht hN
    go_enter Tryd.func14, Tryd.ntmps14
    go_wp2_with fail
    refine HCK.out.mono ?_; rintro e w2 ⟨rfl, hb2⟩
    have HB2 := Lib.hid (belowA hb2 (.cells #[.pointer none, .slice none 0 0] 51))
    have HI2 : Hid (Lib.IsBuilderF 51 5 w.heap.size w2.heap.size (Lib.byteCells (textB (l.take 0))) (w2.alloc (.cells #[.pointer none, .slice none 0 0] 51))) := Or.inl ⟨hb2.size, _, Blk.new w2 #[.pointer none, .slice none 0 0] 51, World.ownsRowF_nil _ _ _ _, by simp [Value.ownBlock]⟩
    have hs2 : w.heap.size ≤ w2.heap.size := hb2.size
    clear hb2 HCK
    go_wp2_with fail
    go_loopw [15] (fun i wr => ∃ k : Nat, k ≤ n ∧ i = .int .i64 k ∧ Hid (Lib.IsBuilderF 51 5 w.heap.size w2.heap.size (Lib.byteCells (textB (l.take k))) wr) ∧ Hid (Below w.heap.size w wr)) (fun i _ => n - (intOf i).toNat)
    case atStart => exact ⟨0, Nat.zero_le _, rfl, HI2, HB2⟩
    case round =>
      clear HI2 HB2
      obtain ⟨k, hk, rfl, hi, hb⟩ := hrel
      by_cases hlt : k < n
      · obtain ⟨x, hx⟩ : ∃ x, l[k]? = some x := ⟨_, List.getElem?_eq_getElem (by rw [HN.out]; exact hlt)⟩
        obtain ⟨g', off, cap', hvv, _, _, _, hcc⟩ := (HV.out.below hb.out).addr (by omega)
        simp only [Value.slice.injEq] at hvv
        obtain ⟨rfl, _, rfl⟩ := hvv
        obtain ⟨c0, c1, c2, c3⟩ := ev_cells hcc hx
        have hex := HEV.out x (List.mem_of_getElem? hx)
        have HTX0 := textB_take hx
        have hok := ev_ok hex
        obtain ⟨hj1, hj2⟩ := lineJ_len hex
        have htl := textB_len (l := l.take k) (fun y hy => HEV.out y (List.mem_of_mem_take hy))
        have htk : (l.take k).length ≤ 256 := by rw [List.length_take, HN.out]; omega
        obtain ⟨T0, hT0⟩ : ∃ t, textB (l.take k) = t := ⟨_, rfl⟩
        rw [hT0] at HTX0 htl hi
        have HTX := Lib.hid HTX0
        have hs1 : (lineJ x ++ ⟨#[10]⟩).size ≤ 71 := by rw [ByteArray.size_append]; have : (⟨#[10]⟩ : ByteArray).size = 1 := rfl; omega
        obtain ⟨a0, a1, a2, a3⟩ := x
        simp only at c0 c1 c2 c3 hok
        have KX := Blk.new wr #[.int .i64 a0, .string a1, .string a2, .int .i64 a3] 31
        have BX := belowA (Below.refl wr.heap.size wr) (.cells #[.int .i64 a0, .string a1, .string a2, .int .i64 a3] 31)
        have IX := isb_below hi.out BX
        have TX : Pow (wr.alloc (.cells #[.int .i64 a0, .string a1, .string a2, .int .i64 a3] 31)) := (HT.out.below hb.out).below BX
        have WX := Lib.hid (hb.out.alloc hb.out.size (.cells #[.int .i64 a0, .string a1, .string a2, .int .i64 a3] 31))
        have hbw : w2.heap.size < wr.heap.size := by rcases hi.out with h | h <;> exact h.lt
        go_upto_region 8 with fail
        generalize hW2 : wr.alloc (.cells #[.int .i64 a0, .string a1, .string a2, .int .i64 a3] 31) = W2 at *
        have hwz : wr.heap.size < W2.heap.size := KX.lt
        have hw2 : w.heap.size ≤ W2.heap.size := by omega
        have HT2 := Lib.hid TX
        have HI2 := Lib.hid IX
        have HK := Lib.hid KX
        obtain ⟨JS, hJS⟩ : ∃ s, lineJ ⟨a0, a1, a2, a3⟩ = s := ⟨_, rfl⟩
        obtain ⟨s0, hs0⟩ : ∃ s, (⟨(Lib.itoa a0).toArray⟩ : ByteArray) = s := ⟨_, rfl⟩
        obtain ⟨s3, hs3⟩ : ∃ s, (⟨(Lib.itoa a3).toArray⟩ : ByteArray) = s := ⟨_, rfl⟩
        rw [hJS] at hj1
        have qj4 : JS.size ≤ 9223372036854775806 := by omega
        have HI0 : Hid (∀ W, Below W2.heap.size W2 W → Calls Tryd.prog 22 #[.int .i64 a0] W fun e w' => e = .returned (.string s0) ∧ Below W2.heap.size W2 w') := fun W hW => by
          rw [← hs0]
          exact (itoa_c a0 W (by omega) (by omega) (HT2.out.below hW)).mono fun e w' ⟨he, hb⟩ => ⟨he, belowT hW hb⟩
        have HI3 : Hid (∀ W, Below W2.heap.size W2 W → Calls Tryd.prog 22 #[.int .i64 a3] W fun e w' => e = .returned (.string s3) ∧ Below W2.heap.size W2 w') := fun W hW => by
          rw [← hs3]
          exact (itoa_c a3 W (by omega) (by omega) (HT2.out.below hW)).mono fun e w' ⟨he, hb⟩ => ⟨he, belowT hW hb⟩
        have HJ : Hid (∀ W, Below W2.heap.size W2 W → Calls Tryd.prog 21 #[.slice (some ⟨W.heap.size, 0, none⟩) 4 4, .string ⟨#[32]⟩] (W.alloc (.cells #[.string s0, .string a1, .string a2, .string s3] 9)) fun e w' => e = .returned (.string JS) ∧ Below W2.heap.size W2 w') := fun W hW => by
          rw [← hJS, ← hs0, ← hs3]
          exact (join_line ⟨a0, a1, a2, a3⟩ hex W).mono fun e w' ⟨he, hb⟩ => ⟨he, belowT hW hb⟩
        have HT1 : Hid (textB (l.take (k + 1)) = T0 ++ (JS ++ ⟨#[10]⟩).data.toList) := by show _ = _; rw [HTX.out, ← hJS]; rfl
        rw [hJS] at hs1
        have HWS : Hid (∀ W, Below W2.heap.size W2 W → Calls Tryd.prog 20 #[.pointer (some ⟨w2.heap.size, 0, none⟩), .string (JS ++ ⟨#[10]⟩)] W fun e w' => ∃ z, e = .returned (.tuple #[.int .i64 z, .nilIface]) ∧ Lib.IsBuilderF 51 5 w.heap.size w2.heap.size (Lib.byteCells (T0 ++ (JS ++ ⟨#[10]⟩).data.toList)) w' ∧ Below w.heap.size w w' ∧ Blk w' wr.heap.size #[.int .i64 a0, .string a1, .string a2, .int .i64 a3] 31) := fun W hW =>
          (write_line _ _ _ T0 _ _ W (isb_below HI2.out hW) (by omega) hs1 (Nat.le_trans hw2 hW.size) (below_blk hW HK.out hwz) (by omega)).mono fun e w' ⟨z, he, h1, h2, h3⟩ => ⟨z, he, h1, (WX.out.trans (hW.mono hw2)).trans h2, h3⟩
        have x0 := HK.out.cell 0 rfl
        have HSB : Hid (∀ W, Blk W wr.heap.size #[.int .i64 a0, .string a1, .string a2, .int .i64 a3] 31 → W.cell? ⟨wr.heap.size, 0, none⟩ = some (.int .i64 a0) ∧ W.cell? ⟨wr.heap.size, 1, none⟩ = some (.string a1) ∧ W.cell? ⟨wr.heap.size, 2, none⟩ = some (.string a2) ∧ W.cell? ⟨wr.heap.size, 3, none⟩ = some (.int .i64 a3)) := fun W k => ⟨k.cell 0 rfl, k.cell 1 rfl, k.cell 2 rfl, k.cell 3 rfl⟩
        have HSC : Hid (∀ W, Below W2.heap.size W2 W → W.cell? ⟨wr.heap.size, 0, none⟩ = some (.int .i64 a0) ∧ W.cell? ⟨wr.heap.size, 1, none⟩ = some (.string a1) ∧ W.cell? ⟨wr.heap.size, 2, none⟩ = some (.string a2) ∧ W.cell? ⟨wr.heap.size, 3, none⟩ = some (.int .i64 a3)) := fun W hW => HSB.out W (below_blk hW HK.out hwz)
        have HAL : Hid (∀ W o, Below W2.heap.size W2 W → Below W2.heap.size W2 (W.alloc o)) := fun W o hW => hW.alloc hW.size o
        have D0 : Hid (Below W2.heap.size W2 W2.drew) := below_drewN (Below.refl _ _) 1
        clear TX IX KX BX c0 c1 c2 c3 hcc hx hex HTX HTX0 hT0 hok hj1 hj2 htl htk hs1 hW2 hJS hs0 hs3 hi
        go_region_held_law (fun W => W.cell? ⟨wr.heap.size, 0, none⟩ = some (.int .i64 a0) ∧ W.cell? ⟨wr.heap.size, 1, none⟩ = some (.string a1) ∧ W.cell? ⟨wr.heap.size, 2, none⟩ = some (.string a2) ∧ W.cell? ⟨wr.heap.size, 3, none⟩ = some (.int .i64 a3))
          ((first | (with_reducible exact HSC.out _ D0.out) | (with_reducible exact HSC.out _ DA.out) | (with_reducible exact HSC.out _ DB.out) | (with_reducible exact HSC.out _ DJ.out) | (with_reducible exact HSC.out _ (HAL.out _ _ DA.out)) | (with_reducible exact HSC.out _ (HAL.out _ _ DB.out)) | (with_reducible exact HSB.out _ KE.out)))
          (first
            | (go_at_call 22; (with_reducible refine (HI0.out _ (by first | (with_reducible exact D0.out) | (with_reducible exact DB.out))).mono ?_); rintro e w5 ⟨rfl, hb5⟩; have DA := Lib.hid hb5; clear hb5)
            | (go_at_call 22; (with_reducible refine (HI3.out _ (by first | (with_reducible exact D0.out) | (with_reducible exact DA.out))).mono ?_); rintro e w6 ⟨rfl, hb6⟩; have DB := Lib.hid hb6; clear hb6)
            | (go_at_call 21; (refine (HJ.out _ (by first | (with_reducible exact DA.out) | (with_reducible exact DB.out))).mono ?_); rintro e w7 ⟨rfl, hb7⟩; have DJ := Lib.hid hb7; clear hb7)
            | (go_at_call 20; (refine (HWS.out _ (by with_reducible exact DJ.out)).mono ?_); rintro e w8 ⟨z, rfl, hi8, hb8, hk8⟩; have DE := Lib.hid hb8; have DI := Lib.hid hi8; have KE := Lib.hid hk8; clear hi8 hb8 hk8))
        all_goals
          go_simp
          go_wp2_with fail
          go_roundw
          case rel => exact ⟨k + 1, hlt, by go_num, by show Lib.IsBuilderF _ _ _ _ _ _; rw [HT1.out]; exact DI.out, DE⟩
          case measure => simp [intOf]; omega
      · have hkn : l.take k = l := List.take_of_length_le (by rw [HN.out]; omega)
        rw [hkn] at hi
        have HSt := Lib.hid (Tryd.Builder_String_any_f w.heap.size w2.heap.size (textB l) wr hi.out hb.out.size)
        clear hi
        go_wp2_with fail
        refine HSt.out.mono ?_; rintro e w9 ⟨rfl, _, hb9⟩
        have B9 := Lib.hid (hb.out.trans hb9)
        clear hb9
        go_wp2_with fail
        go_ret2
        exact ⟨by rw [HR.out]; rfl, B9.out⟩
  · have HR := Lib.hid (HE.out.trans (if_pos hz))
    have g1 : (E != 0) = true := by simpa using hz
    clear HE HOK HLN hz
    go_enter Tryd.func14, Tryd.ntmps14
    go_wp2_with fail
    refine HCK.out.mono ?_; rintro e w2 ⟨rfl, hb2⟩
    have HB2 := Lib.hid hb2
    clear hb2 HCK
    go_wp2_with fail
    go_ret2
    exact ⟨by rw [HR.out]; rfl, HB2.out⟩
end Go.Proofs.YtjakhgilkogcnaaDoor
