/- zone.lengths. -/
import Derived.Test.YtplebibabcdipaaLenP
import Derived.Test.YtplebibabcdipaaZon4
import Derived.Deep.OwnRows
namespace Go.Proofs.Ytplebibabcdipaa
open Go.RowKit

theorem infoIntL : (Try.prog.info? 3).map (fun i => (i.zero, i.size, i.bytes)) = some (some (.int .i64 0), 1, 8) := by kernel_rfl
theorem made_ints (n : Nat) : madeCells #[.int .i64 0] n = (ints (List.replicate n 0)).toArray := by
  apply Array.ext
  · simp [madeCells, ints]
  · intro i h1 h2
    simp [madeCells, ints, Nat.mod_one]
theorem ints_set (d : List Int) (v : Nat) (x : Int) : (ints d).toArray.setIfInBounds v (.int .i64 x) = (ints (d.set v x)).toArray := by
  unfold ints
  rw [List.setIfInBounds_toArray, List.map_set]
theorem Blk.int {w : World} {g : Nat} {d : List Int} {t : TypeId} (h : Blk w g (ints d).toArray t) {i : Nat} (hi : i < d.length) : w.cell? ⟨g, i, none⟩ = some (.int .i64 (d.getD i 0)) :=
  h.cell i (by simpa using ints_get hi)
/-- The numbers of a block. -/
def listAt (w : World) (g : Nat) : List Int := match w.heap[g]? with | some (.cells c _ _) => c.toList.map intOf | _ => []
theorem listAt_eq {w : World} {g : Nat} {d : List Int} {t : TypeId} (h : Blk w g (ints d).toArray t) : listAt w g = d := by
  unfold listAt Blk at *
  rw [h]
  simp [ints, intOf, Function.comp_def]
theorem fill_step (n k : Nat) (hk : k < n) : (List.replicate k (-1 : Int) ++ List.replicate (n - k) 0).set k (-1) = List.replicate (k + 1) (-1) ++ List.replicate (n - (k + 1)) 0 := by
  have e : n - k = (n - (k + 1)) + 1 := by omega
  rw [e, List.replicate_succ, List.set_append_right _ _ (by simp)]
  simp [List.replicate_succ']

theorem idx2_0 (a b c d : Int) (W : World) : (Instr.index 179 (.agg #[.int .i64 a, .int .i64 b, .int .i64 c, .int .i64 d]) (.int .i64 0)).run Try.prog W = .ok (.agg #[.int .i64 a, .int .i64 b]) W := by
  simp [Instr.index, run_underlying Try.underlying179, asIntOf, go_sem]
theorem idx2_1 (a b c d : Int) (W : World) : (Instr.index 179 (.agg #[.int .i64 a, .int .i64 b, .int .i64 c, .int .i64 d]) (.int .i64 1)).run Try.prog W = .ok (.agg #[.int .i64 c, .int .i64 d]) W := by
  simp [Instr.index, run_underlying Try.underlying179, asIntOf, go_sem]
def agN : Value → Nat
  | .bool true => 1
  | _ => 0
set_option maxHeartbeats 4000000 in
set_option maxRecDepth 100000 in
theorem lengths_c (n s : Nat) (es : List Edg) (ev : Value) (w : World) (h24 : n ≤ 24) (hs : s < n) (hes : ∀ e ∈ es, EdgOk n e) (hv : Reads w ev es.length (flat Edg.cells es)) :
    Calls Try.prog 85 #[.int .i64 n, ev, .int .i64 s] w fun e w' => ∃ lv, e = .returned lv ∧ Reads w' lv n (ints (lens es (len0 n s))) ∧ Below w.heap.size w w' := by
  obtain ⟨ea, ec, rfl⟩ := hv.slice
  obtain ⟨m, hM⟩ : ∃ m, es.length = m := ⟨_, rfl⟩
  have HM := Lib.hid hM
  rw [hM] at hv ⊢
  clear hM
  have HV := Lib.hid hv
  have hm0 : m ≤ 9223372036854775807 := by
    rcases hv with ⟨h, _⟩ | ⟨_, _, _, _, _, h, _⟩
    · omega
    · exact h
  clear hv
  have HES := Lib.hid hes
  have HST : Hid (∀ d, DOk n d → lens es d = if (passE es d).2 = true then lens es (passE es d).1 else (passE es d).1) := fun d hd => lens_step h24 es hes d hd
  have HPG : Hid (∀ d, DOk n d → DOk n (passE es d).1 ∧ (passE es d = (d, false) ∨ ((passE es d).2 = true ∧ muN (passE es d).1 < muN d))) := fun d hd => foldE_good h24 es d false hes hd
  obtain ⟨R, hR⟩ : ∃ R, lens es (len0 n s) = R := ⟨_, rfl⟩
  have HR0 := Lib.hid hR
  have HL0 : Hid (DOk n (len0 n s)) := len0_ok hs
  rw [hR]
  clear hR hes
  obtain ⟨i0, hi0, hz0, hz1, hz2⟩ := info_parts infoIntL
  have B1 : Hid (Below w.heap.size w (w.alloc (.cells (madeCells #[.int .i64 0] n) 3))) := belowA (Below.refl _ w) _
  have K1 : Hid (Blk (w.alloc (.cells (madeCells #[.int .i64 0] n) 3)) w.heap.size (ints (List.replicate n 0)).toArray 3) := by
    have := Blk.new w (madeCells #[.int .i64 0] n) 3
    show Blk _ _ _ _
    rw [← made_ints]; exact this
  go_enter Try.func85, Try.ntmps85
  go_wp2_with (at_make; refine wpList_make_row _ rfl _ _ 49 rfl 3 i0 (.int .i64 0) Try.underlying49 hi0 hz0 hz1 rfl .i64 .i64 n rfl rfl (by rw [hz2]; omega) (by omega) ?_)
  generalize w.alloc (.cells (madeCells #[.int .i64 0] n) 3) = W1 at *
  go_loopw [18] (fun i wr => ∃ k : Nat, k ≤ n ∧ i = .int .i64 k ∧ Hid (Blk wr w.heap.size (ints (List.replicate k (-1) ++ List.replicate (n - k) 0)).toArray 3) ∧ Hid (Below w.heap.size w wr)) (fun i _ => n - (intOf i).toNat)
  case atStart => exact ⟨0, Nat.zero_le _, rfl, by simpa using K1, B1⟩
  case round =>
    obtain ⟨k, hk, rfl, hkb, hbl⟩ := hrel
    by_cases hlt : k < n
    ·
      have zf := hkb.out.free k
      have z0 := hkb.out.int (i := k) (by simp; omega)
      have lz := hkb.out.lt
      go_wp2_with fail
      go_roundw
      case rel => exact ⟨k + 1, hlt, by go_num, by show Blk _ _ _ _; rw [← fill_step n k hlt, ← ints_set]; exact hkb.out.set k _, Below.setCell hbl.out (Nat.le_refl _) _⟩
      case measure => simp [intOf]; omega
    ·
      have hkn : n = k := by omega
      subst hkn
      have hk2 : Hid (Blk wr w.heap.size (ints (List.replicate n (-1))).toArray 3) := by show Blk _ _ _ _; have := hkb.out; simpa using this
      have zf := hk2.out.free s
      have lz := hk2.out.lt
      have K2 : Hid (Blk (wr.setCell ⟨w.heap.size, s, none⟩ (.int .i64 0)) w.heap.size (ints (len0 n s)).toArray 3) := by show Blk _ _ _ _; unfold len0; rw [← ints_set]; exact hk2.out.set s _
      have B2 : Hid (Below w.heap.size w (wr.setCell ⟨w.heap.size, s, none⟩ (.int .i64 0))) := Below.setCell hbl.out (Nat.le_refl _) _
      clear hkb hbl hk B1 K1
      have z0 := hk2.out.int (i := s) (by simp; exact hs)
      clear hk2
      go_wp2_with fail
      generalize wr.setCell ⟨w.heap.size, s, none⟩ (.int .i64 0) = W2 at *
      clear zf lz z0
      go_loopw [9] (fun ag wr => ∃ (q : Bool) (d : List Int), ag = .bool q ∧ Hid (DOk n d) ∧ Hid (if q = true then lens es d = R else d = R) ∧ Hid (Blk wr w.heap.size (ints d).toArray 3) ∧ Hid (Below w.heap.size w wr)) (fun ag wr => 2 * muN (listAt wr w.heap.size) + agN ag)
      case atStart => exact ⟨true, len0 n s, rfl, HL0, HR0, K2, B2⟩
      case round =>
        obtain ⟨q, d, rfl, hd, hlr, hkb, hbl⟩ := hrel
        cases q
        ·
          have HDR : Hid (d = R) := hlr.out
          have HKF := hkb
          clear hlr hkb
          go_wp2_with fail
          go_ret
          refine ⟨_, rfl, Or.inr ⟨_, 0, n, rfl, Nat.le_refl _, by omega, HKF.out.lt, fun j u hj => ?_⟩, hbl.out⟩
          rw [← HDR.out] at hj
          rw [Nat.zero_add]
          exact HKF.out.cell j (by simpa using hj)
        ·
          have HLR : Hid (lens es d = R) := hlr.out
          obtain ⟨P, hP⟩ : ∃ P, passE es d = P := ⟨_, rfl⟩
          have HP : Hid ((es.drop 0).foldl relaxE (d, false) = P) := hP
          have hstep := HST.out d hd.out
          have hpg := HPG.out d hd.out
          rw [hP] at hstep hpg
          rw [HLR.out] at hstep
          have HSTP := Lib.hid hstep
          have HPGP := Lib.hid hpg
          clear hP hstep hpg hlr HLR
          have HMU : Hid (listAt wr w.heap.size = d) := listAt_eq hkb.out
          go_wp2_with fail
          go_loopw [31, 9] (fun i ag w2 => ∃ (k : Nat) (d2 : List Int) (q2 : Bool), k ≤ m ∧ i = .int .i64 k ∧ ag = .bool q2 ∧ Hid (DOk n d2) ∧ Hid ((es.drop k).foldl relaxE (d2, q2) = P) ∧ Hid (Blk w2 w.heap.size (ints d2).toArray 3) ∧ Hid (Below w.heap.size w w2)) (fun i _ _ => m - (intOf i).toNat)
          case atStart => exact ⟨0, d, false, Nat.zero_le _, rfl, rfl, hd, HP, hkb, hbl⟩
          case round =>
            clear hkb hbl
            rename_i wr0
            obtain ⟨k, d2, q2, hk, rfl, rfl, hd2, hf2, hkb, hbl⟩ := hrel
            by_cases hlt : k < m
            ·
              have hlk : k < es.length := by rw [HM.out]; exact hlt
              obtain ⟨x, hx⟩ : ∃ x, es[k]? = some x := ⟨_, List.getElem?_eq_getElem hlk⟩
              obtain ⟨eg, eoff, ecap', evv, _, _, hegl, hec⟩ := (HV.out.below hbl.out).addr (by omega)
              simp only [Value.slice.injEq] at evv
              obtain ⟨rfl, _, rfl⟩ := evv
              obtain ⟨c0, c1, c2⟩ := edg_cells hec hx
              have hok := HES.out x (List.mem_of_getElem? hx)
              have hfd : (es.drop k).foldl relaxE (d2, q2) = (es.drop (k + 1)).foldl relaxE (relaxE (d2, q2) x) := by
                obtain ⟨hk', hx'⟩ := List.getElem?_eq_some_iff.1 hx
                rw [List.drop_eq_getElem_cons hk', hx']; rfl
              obtain ⟨a, b, len⟩ := x
              obtain ⟨a0, a1, b0, b1, hl0, hl1⟩ := hok
              simp only at a0 a1 b0 b1 hl0 hl1 c0 c1 c2
              obtain ⟨u, rfl⟩ := Int.eq_ofNat_of_zero_le a0
              obtain ⟨v, rfl⟩ := Int.eq_ofNat_of_zero_le b0
              have hu : u < n := by omega
              have hv : v < n := by omega
              obtain ⟨S1, hS1⟩ : ∃ S1, relax (d2, q2) u v len = S1 := ⟨_, rfl⟩
              obtain ⟨S2, hS2⟩ : ∃ S2, relax S1 v u len = S2 := ⟨_, rfl⟩
              have HS1 := Lib.hid hS1
              have HS2 := Lib.hid hS2
              have HFD : Hid ((es.drop (k + 1)).foldl relaxE S2 = P) := by show _ = _; rw [← hf2.out, hfd, ← hS2, ← hS1]; rfl
              clear hfd hS1 hS2 hf2 hx hec a0 a1 b0 b1
              have hek : Hid (Blk (wr.alloc (.cells #[.int .i64 u, .int .i64 v, .int .i64 len] 178)) wr.heap.size #[.int .i64 u, .int .i64 v, .int .i64 len] 178) := Blk.new _ _ _
              have hkb1 : Hid (Blk (wr.alloc (.cells #[.int .i64 u, .int .i64 v, .int .i64 len] 178)) w.heap.size (ints d2).toArray 3) := hkb.out.alloc _
              have hbl1 : Hid (Below w.heap.size w (wr.alloc (.cells #[.int .i64 u, .int .i64 v, .int .i64 len] 178))) := belowA hbl.out _
              have heb : wr.heap.size ≠ w.heap.size := by have := hkb.out.lt; omega
              have hd3 := hd2
              clear hkb hbl
              have x0 := hek.out.cell 0 rfl
              have x1 := hek.out.cell 1 rfl
              have x2 := hek.out.cell 2 rfl
              go_wp2_with fail
              generalize wr.alloc (.cells #[.int .i64 u, .int .i64 v, .int .i64 len] 178) = W5 at *
              generalize heb0 : wr.heap.size = eb at *
              go_loopw [46, 9] (fun i ag wr => ∃ (j : Nat) (d3 : List Int) (q3 : Bool), i = .int .i64 j ∧ ag = .bool q3 ∧ Hid ((j = 0 ∧ (d3, q3) = (d2, q2)) ∨ (j = 1 ∧ (d3, q3) = S1) ∨ (j = 2 ∧ (d3, q3) = S2)) ∧ Hid (DOk n d3) ∧ Hid (Blk wr w.heap.size (ints d3).toArray 3) ∧ Hid (Blk wr eb #[.int .i64 u, .int .i64 v, .int .i64 len] 178) ∧ Hid (Below w.heap.size w wr)) (fun i _ _ => 2 - (intOf i).toNat)
              case atStart => exact ⟨0, d2, q2, rfl, rfl, Or.inl ⟨rfl, rfl⟩, hd2, hkb1, hek, hbl1⟩
              case round =>
                clear hkb1 hek hbl1 x0 x1 x2 c0 c1 c2 heb0
                obtain ⟨j, d3, q3, rfl, rfl, hj, hd3, hbk, hek, hb3⟩ := hrel
                rcases hj.out with ⟨rfl, h⟩ | ⟨rfl, h⟩ | ⟨rfl, h⟩
                ·
                  have HSD : Hid (∀ (j : Nat), j = 1 → ∀ z, relax (d3, q3) u v len = z → (j = 0 ∧ z = (d2, q2)) ∨ (j = 1 ∧ z = S1) ∨ (j = 2 ∧ z = S2)) := fun j hj z hz => Or.inr (Or.inl ⟨hj, by rw [← HS1.out, ← h]; exact hz.symm⟩)
                  have HH := Lib.hid h
                  clear h
                  have hix := fun W => idx2_0 u v v u W
                  have hgood := relax_good (q := q3) hd3.out.1 h24 hd3.out.2 hu hv hl0 hl1
                  have HG : Hid (DOk n (relax (d3, q3) u v len).1) := ⟨hgood.1, hgood.2.1⟩
                  have z0 := hbk.out.int (i := u) (by rw [hd3.out.1]; exact hu)
                  have z1 := hbk.out.int (i := v) (by rw [hd3.out.1]; exact hv)
                  have hbnd : d3.getD u 0 < 0 ∨ d3.getD u 0 ≤ 240000000 := by
                    have hm := hd3.out.2 (d3.getD u 0) (by rw [List.getD_eq_getElem?_getD, List.getElem?_eq_getElem (by rw [hd3.out.1]; exact hu)]; exact List.getElem_mem _)
                    have hf := finN_le d3
                    rw [hd3.out.1] at hf
                    omega
                  have HRD : Hid (relax (d3, q3) u v len = if hitB (d3.getD u 0) (d3.getD v 0) len = true then (d3.set v (d3.getD u 0 + len), true) else (d3, q3)) := rfl
                  clear hgood
                  obtain ⟨X, hX⟩ : ∃ X, d3.getD u 0 = X := ⟨_, rfl⟩
                  obtain ⟨Y, hY⟩ : ∃ Y, d3.getD v 0 = Y := ⟨_, rfl⟩
                  have HX := Lib.hid hX
                  rw [hX] at z0 hbnd HRD
                  rw [hY] at z1 HRD
                  clear hX hY
                  have lg := hbk.out.lt
                  have le := hek.out.lt
                  have e0 := hek.out.cell 0 rfl
                  have e1 := hek.out.cell 1 rfl
                  have e2 := hek.out.cell 2 rfl
                  cases hh : hitB X Y len
                  ·
                    have HRX : Hid (relax (d3, q3) u v len = (d3, q3)) := HRD.out.trans (if_neg (by rw [hh]; decide))
                    unfold hitB at hh
                    rw [HRX.out] at HG
                    clear HRD
                    cases hc1 : decide (0 ≤ X)
                    ·
                      clear hh
                      go_wp2_with fail
                      refine wp_region_quiet_lit (by kernel_rfl) (by kernel_rfl) ?_
                      repeat (first | go_big_quiet_step (fail) | (go_big_quiet_want; go_simp; go_big_quiet_on))
                      refine wpQuiet_nil ?_
                      intro _ hw'
                      obtain ⟨nq, hw''⟩ := hw'
                      subst hw''
                      go_wp2_with fail
                      go_roundw
                      case rel => exact ⟨0 + 1, d3, q3, by go_num, rfl, HSD.out _ rfl _ HRX.out, HG, (hbk.out.alloc _).drewN nq, (hek.out.alloc _).drewN nq, below_drewN (belowA hb3.out _) nq⟩
                      case measure => simp [intOf]
                    ·
                      rw [hc1] at hh
                      simp only [Bool.true_and, Bool.or_eq_false_iff] at hh
                      obtain ⟨hc2, hc3⟩ := hh
                      have hw := IntWalk.i64_in (X + len) (by have := of_decide_eq_true hc1; omega)
                      go_wp2_with fail
                      refine wp_region_quiet_lit (by kernel_rfl) (by kernel_rfl) ?_
                      repeat (first | go_big_quiet_step (fail) | (go_big_quiet_want; go_simp; go_big_quiet_on))
                      refine wpQuiet_nil ?_
                      intro _ hw'
                      obtain ⟨nq, hw''⟩ := hw'
                      subst hw''
                      go_wp2_with fail
                      go_roundw
                      case rel => exact ⟨0 + 1, d3, q3, by go_num, rfl, HSD.out _ rfl _ HRX.out, HG, (hbk.out.alloc _).drewN nq, (hek.out.alloc _).drewN nq, below_drewN (belowA hb3.out _) nq⟩
                      case measure => simp [intOf]
                  ·
                    have HRX : Hid (relax (d3, q3) u v len = (d3.set v (X + len), true)) := HRD.out.trans (if_pos hh)
                    unfold hitB at hh
                    rw [HRX.out] at HG
                    clear HRD
                    simp only [Bool.and_eq_true] at hh
                    obtain ⟨hc1, hh⟩ := hh
                    have hw := IntWalk.i64_in (X + len) (by have := of_decide_eq_true hc1; omega)
                    cases hc2 : decide (Y < 0)
                    ·
                      rw [hc2] at hh
                      simp only [Bool.false_or] at hh
                      go_wp2_with fail
                      refine wp_region_quiet_lit (by kernel_rfl) (by kernel_rfl) ?_
                      repeat (first | go_big_quiet_step (fail) | (go_big_quiet_want; go_simp; go_big_quiet_on))
                      refine wpQuiet_nil ?_
                      intro _ hw'
                      obtain ⟨nq, hw''⟩ := hw'
                      subst hw''
                      go_wp2_with fail
                      have K4 := (hbk.out.alloc (.cells #[.int .i64 u, .int .i64 v] 71)).drewN nq
                      have E4 := (hek.out.alloc (.cells #[.int .i64 u, .int .i64 v] 71)).drewN nq
                      have X4 := (Blk.new wr #[.int .i64 u, .int .i64 v] 71).drewN nq
                      have B4 := Lib.hid (below_drewN (belowA hb3.out (.cells #[.int .i64 u, .int .i64 v] 71)) nq)
                      generalize (wr.alloc (.cells #[.int .i64 u, .int .i64 v] 71)).drewN nq = W4 at *
                      have y0 := K4.int (i := u) (by rw [hd3.out.1]; assumption)
                      have y1 := K4.free v
                      have y5 := K4.int (i := v) (by rw [hd3.out.1]; assumption)
                      have y2 := E4.cell 2 rfl
                      have y3 := X4.cell 0 rfl
                      have y4 := X4.cell 1 rfl
                      rw [HX.out] at y0
                      have KS : Hid (Blk (W4.drew.setCell ⟨w.heap.size, v, none⟩ (.int .i64 (X + len))) w.heap.size (ints (d3.set v (X + len))).toArray 3) := by show Blk _ _ _ _; rw [← ints_set]; exact K4.drew.set v _
                      have ES : Hid (Blk (W4.drew.setCell ⟨w.heap.size, v, none⟩ (.int .i64 (X + len))) eb #[.int .i64 u, .int .i64 v, .int .i64 len] 178) := E4.drew.setOther ⟨w.heap.size, v, none⟩ heb _
                      have BS : Hid (Below w.heap.size w (W4.drew.setCell ⟨w.heap.size, v, none⟩ (.int .i64 (X + len)))) := Below.setCell (w := W4.drew) ⟨B4.out.os, B4.out.tape, B4.out.output, B4.out.size, B4.out.block⟩ (Nat.le_refl _) _
                      have lg := K4.lt
                      go_region
                      go_wp2_with fail
                      go_roundw
                      case rel => exact ⟨0 + 1, _, _, by go_num, rfl, HSD.out _ rfl _ HRX.out, HG, KS, ES, BS⟩
                      case measure => simp [intOf]
                    ·
                      clear hh
                      go_wp2_with fail
                      refine wp_region_quiet_lit (by kernel_rfl) (by kernel_rfl) ?_
                      repeat (first | go_big_quiet_step (fail) | (go_big_quiet_want; go_simp; go_big_quiet_on))
                      refine wpQuiet_nil ?_
                      intro _ hw'
                      obtain ⟨nq, hw''⟩ := hw'
                      subst hw''
                      go_wp2_with fail
                      have K4 := (hbk.out.alloc (.cells #[.int .i64 u, .int .i64 v] 71)).drewN nq
                      have E4 := (hek.out.alloc (.cells #[.int .i64 u, .int .i64 v] 71)).drewN nq
                      have X4 := (Blk.new wr #[.int .i64 u, .int .i64 v] 71).drewN nq
                      have B4 := Lib.hid (below_drewN (belowA hb3.out (.cells #[.int .i64 u, .int .i64 v] 71)) nq)
                      generalize (wr.alloc (.cells #[.int .i64 u, .int .i64 v] 71)).drewN nq = W4 at *
                      have y0 := K4.int (i := u) (by rw [hd3.out.1]; assumption)
                      have y1 := K4.free v
                      have y5 := K4.int (i := v) (by rw [hd3.out.1]; assumption)
                      have y2 := E4.cell 2 rfl
                      have y3 := X4.cell 0 rfl
                      have y4 := X4.cell 1 rfl
                      rw [HX.out] at y0
                      have KS : Hid (Blk (W4.drew.setCell ⟨w.heap.size, v, none⟩ (.int .i64 (X + len))) w.heap.size (ints (d3.set v (X + len))).toArray 3) := by show Blk _ _ _ _; rw [← ints_set]; exact K4.drew.set v _
                      have ES : Hid (Blk (W4.drew.setCell ⟨w.heap.size, v, none⟩ (.int .i64 (X + len))) eb #[.int .i64 u, .int .i64 v, .int .i64 len] 178) := E4.drew.setOther ⟨w.heap.size, v, none⟩ heb _
                      have BS : Hid (Below w.heap.size w (W4.drew.setCell ⟨w.heap.size, v, none⟩ (.int .i64 (X + len)))) := Below.setCell (w := W4.drew) ⟨B4.out.os, B4.out.tape, B4.out.output, B4.out.size, B4.out.block⟩ (Nat.le_refl _) _
                      have lg := K4.lt
                      go_region
                      go_wp2_with fail
                      go_roundw
                      case rel => exact ⟨0 + 1, _, _, by go_num, rfl, HSD.out _ rfl _ HRX.out, HG, KS, ES, BS⟩
                      case measure => simp [intOf]
                ·
                  have HSD : Hid (∀ (j : Nat), j = 2 → ∀ z, relax (d3, q3) v u len = z → (j = 0 ∧ z = (d2, q2)) ∨ (j = 1 ∧ z = S1) ∨ (j = 2 ∧ z = S2)) := fun j hj z hz => Or.inr (Or.inr ⟨hj, by rw [← HS2.out, ← h]; exact hz.symm⟩)
                  have HH := Lib.hid h
                  clear h
                  have hix := fun W => idx2_1 u v v u W
                  have hgood := relax_good (q := q3) hd3.out.1 h24 hd3.out.2 hv hu hl0 hl1
                  have HG : Hid (DOk n (relax (d3, q3) v u len).1) := ⟨hgood.1, hgood.2.1⟩
                  have z0 := hbk.out.int (i := v) (by rw [hd3.out.1]; exact hv)
                  have z1 := hbk.out.int (i := u) (by rw [hd3.out.1]; exact hu)
                  have hbnd : d3.getD v 0 < 0 ∨ d3.getD v 0 ≤ 240000000 := by
                    have hm := hd3.out.2 (d3.getD v 0) (by rw [List.getD_eq_getElem?_getD, List.getElem?_eq_getElem (by rw [hd3.out.1]; exact hv)]; exact List.getElem_mem _)
                    have hf := finN_le d3
                    rw [hd3.out.1] at hf
                    omega
                  have HRD : Hid (relax (d3, q3) v u len = if hitB (d3.getD v 0) (d3.getD u 0) len = true then (d3.set u (d3.getD v 0 + len), true) else (d3, q3)) := rfl
                  clear hgood
                  obtain ⟨X, hX⟩ : ∃ X, d3.getD v 0 = X := ⟨_, rfl⟩
                  obtain ⟨Y, hY⟩ : ∃ Y, d3.getD u 0 = Y := ⟨_, rfl⟩
                  have HX := Lib.hid hX
                  rw [hX] at z0 hbnd HRD
                  rw [hY] at z1 HRD
                  clear hX hY
                  have lg := hbk.out.lt
                  have le := hek.out.lt
                  have e0 := hek.out.cell 0 rfl
                  have e1 := hek.out.cell 1 rfl
                  have e2 := hek.out.cell 2 rfl
                  cases hh : hitB X Y len
                  ·
                    have HRX : Hid (relax (d3, q3) v u len = (d3, q3)) := HRD.out.trans (if_neg (by rw [hh]; decide))
                    unfold hitB at hh
                    rw [HRX.out] at HG
                    clear HRD
                    cases hc1 : decide (0 ≤ X)
                    ·
                      clear hh
                      go_wp2_with fail
                      refine wp_region_quiet_lit (by kernel_rfl) (by kernel_rfl) ?_
                      repeat (first | go_big_quiet_step (fail) | (go_big_quiet_want; go_simp; go_big_quiet_on))
                      refine wpQuiet_nil ?_
                      intro _ hw'
                      obtain ⟨nq, hw''⟩ := hw'
                      subst hw''
                      go_wp2_with fail
                      go_roundw
                      case rel => exact ⟨1 + 1, d3, q3, by go_num, rfl, HSD.out _ rfl _ HRX.out, HG, (hbk.out.alloc _).drewN nq, (hek.out.alloc _).drewN nq, below_drewN (belowA hb3.out _) nq⟩
                      case measure => simp [intOf]
                    ·
                      rw [hc1] at hh
                      simp only [Bool.true_and, Bool.or_eq_false_iff] at hh
                      obtain ⟨hc2, hc3⟩ := hh
                      have hw := IntWalk.i64_in (X + len) (by have := of_decide_eq_true hc1; omega)
                      go_wp2_with fail
                      refine wp_region_quiet_lit (by kernel_rfl) (by kernel_rfl) ?_
                      repeat (first | go_big_quiet_step (fail) | (go_big_quiet_want; go_simp; go_big_quiet_on))
                      refine wpQuiet_nil ?_
                      intro _ hw'
                      obtain ⟨nq, hw''⟩ := hw'
                      subst hw''
                      go_wp2_with fail
                      go_roundw
                      case rel => exact ⟨1 + 1, d3, q3, by go_num, rfl, HSD.out _ rfl _ HRX.out, HG, (hbk.out.alloc _).drewN nq, (hek.out.alloc _).drewN nq, below_drewN (belowA hb3.out _) nq⟩
                      case measure => simp [intOf]
                  ·
                    have HRX : Hid (relax (d3, q3) v u len = (d3.set u (X + len), true)) := HRD.out.trans (if_pos hh)
                    unfold hitB at hh
                    rw [HRX.out] at HG
                    clear HRD
                    simp only [Bool.and_eq_true] at hh
                    obtain ⟨hc1, hh⟩ := hh
                    have hw := IntWalk.i64_in (X + len) (by have := of_decide_eq_true hc1; omega)
                    cases hc2 : decide (Y < 0)
                    ·
                      rw [hc2] at hh
                      simp only [Bool.false_or] at hh
                      go_wp2_with fail
                      refine wp_region_quiet_lit (by kernel_rfl) (by kernel_rfl) ?_
                      repeat (first | go_big_quiet_step (fail) | (go_big_quiet_want; go_simp; go_big_quiet_on))
                      refine wpQuiet_nil ?_
                      intro _ hw'
                      obtain ⟨nq, hw''⟩ := hw'
                      subst hw''
                      go_wp2_with fail
                      have K4 := (hbk.out.alloc (.cells #[.int .i64 v, .int .i64 u] 71)).drewN nq
                      have E4 := (hek.out.alloc (.cells #[.int .i64 v, .int .i64 u] 71)).drewN nq
                      have X4 := (Blk.new wr #[.int .i64 v, .int .i64 u] 71).drewN nq
                      have B4 := Lib.hid (below_drewN (belowA hb3.out (.cells #[.int .i64 v, .int .i64 u] 71)) nq)
                      generalize (wr.alloc (.cells #[.int .i64 v, .int .i64 u] 71)).drewN nq = W4 at *
                      have y0 := K4.int (i := v) (by rw [hd3.out.1]; assumption)
                      have y1 := K4.free u
                      have y5 := K4.int (i := u) (by rw [hd3.out.1]; assumption)
                      have y2 := E4.cell 2 rfl
                      have y3 := X4.cell 0 rfl
                      have y4 := X4.cell 1 rfl
                      rw [HX.out] at y0
                      have KS : Hid (Blk (W4.drew.setCell ⟨w.heap.size, u, none⟩ (.int .i64 (X + len))) w.heap.size (ints (d3.set u (X + len))).toArray 3) := by show Blk _ _ _ _; rw [← ints_set]; exact K4.drew.set u _
                      have ES : Hid (Blk (W4.drew.setCell ⟨w.heap.size, u, none⟩ (.int .i64 (X + len))) eb #[.int .i64 u, .int .i64 v, .int .i64 len] 178) := E4.drew.setOther ⟨w.heap.size, u, none⟩ heb _
                      have BS : Hid (Below w.heap.size w (W4.drew.setCell ⟨w.heap.size, u, none⟩ (.int .i64 (X + len)))) := Below.setCell (w := W4.drew) ⟨B4.out.os, B4.out.tape, B4.out.output, B4.out.size, B4.out.block⟩ (Nat.le_refl _) _
                      have lg := K4.lt
                      go_region
                      go_wp2_with fail
                      go_roundw
                      case rel => exact ⟨1 + 1, _, _, by go_num, rfl, HSD.out _ rfl _ HRX.out, HG, KS, ES, BS⟩
                      case measure => simp [intOf]
                    ·
                      clear hh
                      go_wp2_with fail
                      refine wp_region_quiet_lit (by kernel_rfl) (by kernel_rfl) ?_
                      repeat (first | go_big_quiet_step (fail) | (go_big_quiet_want; go_simp; go_big_quiet_on))
                      refine wpQuiet_nil ?_
                      intro _ hw'
                      obtain ⟨nq, hw''⟩ := hw'
                      subst hw''
                      go_wp2_with fail
                      have K4 := (hbk.out.alloc (.cells #[.int .i64 v, .int .i64 u] 71)).drewN nq
                      have E4 := (hek.out.alloc (.cells #[.int .i64 v, .int .i64 u] 71)).drewN nq
                      have X4 := (Blk.new wr #[.int .i64 v, .int .i64 u] 71).drewN nq
                      have B4 := Lib.hid (below_drewN (belowA hb3.out (.cells #[.int .i64 v, .int .i64 u] 71)) nq)
                      generalize (wr.alloc (.cells #[.int .i64 v, .int .i64 u] 71)).drewN nq = W4 at *
                      have y0 := K4.int (i := v) (by rw [hd3.out.1]; assumption)
                      have y1 := K4.free u
                      have y5 := K4.int (i := u) (by rw [hd3.out.1]; assumption)
                      have y2 := E4.cell 2 rfl
                      have y3 := X4.cell 0 rfl
                      have y4 := X4.cell 1 rfl
                      rw [HX.out] at y0
                      have KS : Hid (Blk (W4.drew.setCell ⟨w.heap.size, u, none⟩ (.int .i64 (X + len))) w.heap.size (ints (d3.set u (X + len))).toArray 3) := by show Blk _ _ _ _; rw [← ints_set]; exact K4.drew.set u _
                      have ES : Hid (Blk (W4.drew.setCell ⟨w.heap.size, u, none⟩ (.int .i64 (X + len))) eb #[.int .i64 u, .int .i64 v, .int .i64 len] 178) := E4.drew.setOther ⟨w.heap.size, u, none⟩ heb _
                      have BS : Hid (Below w.heap.size w (W4.drew.setCell ⟨w.heap.size, u, none⟩ (.int .i64 (X + len)))) := Below.setCell (w := W4.drew) ⟨B4.out.os, B4.out.tape, B4.out.output, B4.out.size, B4.out.block⟩ (Nat.le_refl _) _
                      have lg := K4.lt
                      go_region
                      go_wp2_with fail
                      go_roundw
                      case rel => exact ⟨1 + 1, _, _, by go_num, rfl, HSD.out _ rfl _ HRX.out, HG, KS, ES, BS⟩
                      case measure => simp [intOf]
                ·
                  have HFD2 := HFD.out
                  rw [← h] at HFD2
                  have HFE := Lib.hid HFD2
                  clear h HFD2
                  go_wp2_with fail
                  go_roundw
                  case rel => exact ⟨k + 1, d3, q3, hlt, by go_num, rfl, hd3, HFE, hbk, hb3⟩
                  case measure => simp [intOf]; omega
            ·
              have hkn : es.drop k = [] := List.drop_eq_nil_of_le (by rw [HM.out]; omega)
              have HF : Hid ((d2, q2) = P) := by show _ = _; rw [← hf2.out, hkn]; rfl
              clear hkn hf2
              go_wp2_with fail
              go_roundw
              case rel =>
                refine ⟨q2, d2, rfl, hd2, ?_, hkb, hbl⟩
                have h := HSTP.out
                rw [← HF.out] at h
                cases q2
                · exact h.symm
                · exact h.symm
              case measure =>
                rw [listAt_eq hkb.out]
                have h := HPGP.out
                rw [← HF.out] at h
                rw [HMU.out]
                rcases h.2 with h | ⟨h, h'⟩
                · cases h; simp [agN]
                · cases h; simp [agN]; simp at h'; omega
end Go.Proofs.Ytplebibabcdipaa
