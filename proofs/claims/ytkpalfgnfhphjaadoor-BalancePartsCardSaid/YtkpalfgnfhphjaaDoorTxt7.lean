/- nat.Text, nat.Digits. -/
import Derived.Test.YtkpalfgnfhphjaaDoorTxt6
import Derived.Test.YtkpalfgnfhphjaaDoorNat5
import Derived.Laws.MakeOwn
import Derived.Laws.IdiomStrings
namespace Go.Proofs.YtkpalfgnfhphjaaDoor
open Go.RowKit

theorem infoU8 : (Tryd.prog.info? 5).map (fun i => (i.zero, i.size, i.bytes)) = some (some (.int .u8 0), 1, 1) := by kernel_rfl
theorem add_z (g j : Nat) : (⟨g, 0, none⟩ : Addr).add j = ⟨g, j, none⟩ := by
  unfold Addr.add
  split
  · rename_i h; rw [h]
  · simp
/-- The cell of a byte. -/
abbrev bcell (c : UInt8) : Value := .int .u8 (c.toNat : Int)
/-- An own row of bytes. -/
def OB (base : Nat) (W : World) (v : Value) (l : List UInt8) : Prop := W.ownsRow base 5 1 v l.length (l.map bcell)
theorem OB.below {base : Nat} {w w' : World} {v : Value} {l : List UInt8} (h : OB base w v l) (k : Below w.heap.size w w') : OB base w' v l := by
  obtain ⟨h1, h2⟩ := h
  refine ⟨h1, h2.imp id ?_⟩
  rintro ⟨g, cap, cur, e1, e2, e3, e4⟩
  exact ⟨g, cap, cur, e1, e2, below_blk k (show Blk w g cur _ from e3) (show Blk w g cur _ from e3).lt, e4⟩
theorem OB.app {base : Nat} {W : World} {v : Value} {l m : List UInt8} (h : OB base W v l) (hb : base ≤ W.heap.size) (pb c : Nat) (hx : ∀ j u, (m.map bcell)[j]? = some u → W.cell? ⟨pb, j, none⟩ = some u) (hl : l.length + m.length ≤ 100000000000000) :
    ∃ v' W', (∀ ty, (Builtin.append_ #[118, 118] ty #[v, .slice (some ⟨pb, 0, none⟩) m.length c]).run Tryd.prog W = .ok v' W') ∧ OB base W' v' (l ++ m) ∧ Below base W W' := by
  obtain ⟨i0, hi0, hz0, hz1, hz2⟩ := info_parts infoU8
  have key := fun ty => run_append_own (P := Tryd.prog) W base 118 ty 5 i0 (.int .u8 0) 1 1 Tryd.underlying118 hi0 hz0 hz1 hz2 rfl (by decide) v l.length (l.map bcell) h ⟨pb, 0, none⟩ m.length c (m.map bcell) (by simp)
    (fun j u hj => by rw [add_z]; exact hx j u hj) (fun u hu => by obtain ⟨d, _, rfl⟩ := List.mem_map.1 hu; rfl) (by unfold maxLen; omega) (by omega) hb
  obtain ⟨v', w', h1, h2, h3, _⟩ := key 0
  refine ⟨v', w', fun ty => h1, ?_, ?_⟩
  · unfold OB
    rw [List.length_append, List.map_append]; exact h2
  · exact Below.grown ⟨rfl, rfl, rfl, Nat.le_refl _, fun _ _ => rfl⟩ h3 hb (fun k e => row_own h k e)
theorem OB.new (w : World) (cap : Nat) (hc : cap ≤ maxLen) : OB w.heap.size (w.alloc (.cells (madeCells #[.int .u8 0] cap) 5)) (.slice (some ⟨w.heap.size, 0, none⟩) 0 cap) [] :=
  ⟨rfl, Or.inr ⟨w.heap.size, cap, _, rfl, Nat.le_refl _, (Blk.new w _ _), Nat.zero_le _, hc, by simp [madeCells], by simp⟩⟩
theorem OB.addr {base : Nat} {W : World} {v : Value} {l : List UInt8} (h : OB base W v l) (hl : 0 < l.length) : ∃ g cap, v = .slice (some ⟨g, 0, none⟩) l.length cap ∧ ∀ j (hj : j < l.length), W.cell? ((⟨g, 0, none⟩ : Addr).add j) = some (.int .u8 (l[j].toNat : Int)) := by
  obtain ⟨h1, hv | ⟨g, cap, cur, rfl, e2, e3, e4, e5, e6, e7⟩⟩ := h
  · omega
  · refine ⟨g, cap, rfl, fun j hj => ?_⟩
    have hk : Blk W g cur 5 := e3
    have e : cur[j]? = some (bcell l[j]) := by
      have h8 : (cur.toList.take (l.length * 1))[j]? = some (bcell l[j]) := by rw [e7]; simp [hj]
      rw [List.getElem?_take_of_lt (by omega)] at h8
      rw [← Array.getElem?_toList]; exact h8
    rw [add_z]
    exact hk.cell j e
theorem mkB (k : Nat) (hk : k ≤ 10000000000000) (W : World) : (Instr.makeSlice 118 (.int .i64 0) (.int .i64 (9 * (k : Int)))).run Tryd.prog W = .ok (.slice (some ⟨W.heap.size, 0, none⟩) 0 (9 * k)) (W.alloc (.cells (madeCells #[.int .u8 0] (9 * k)) 5)) := by
  obtain ⟨i0, hi0, hz0, hz1, hz2⟩ := info_parts infoU8
  have h := run_make (P := Tryd.prog) W 118 5 i0 (.int .u8 0) Tryd.underlying118 hi0 hz0 .i64 .i64 0 (9 * (k : Int)) (by omega) (by omega) (by rw [hz2]; omega) (by omega)
  rw [hz1, show (9 * (k : Int)).toNat = 9 * k by omega, Nat.mul_one] at h
  exact h
theorem part_cells {m D : Nat} (hm : m < 9) : (((part9 m D).map bcell).toArray).setIfInBounds (8 - m) (.int .u8 (48 + ((D / 10 ^ m : Nat) : Int) % 10)) = ((part9 (m + 1) D).map bcell).toArray := by
  have e : bcell (UInt8.ofNat (48 + D / 10 ^ m % 10)) = .int .u8 (48 + ((D / 10 ^ m : Nat) : Int) % 10) := by
    unfold bcell
    rw [byte48 (Nat.mod_lt _ (by decide)), Int.natCast_add, Int.natCast_emod]
    rfl
  rw [List.setIfInBounds_toArray, ← part9_set hm, List.map_set, e]
set_option maxRecDepth 100000 in
set_option maxHeartbeats 2000000 in
theorem text_c (v : Value) (n : Nat) (w : World) (h : NV w v n) (hl : ln n ≤ 10000000000000) :
    Calls Tryd.prog 55 #[v] w fun e w' => e = .returned (.string (bs (dT n))) ∧ Below w.heap.size w w' := by
  obtain ⟨a, c, rfl⟩ := h.slice
  obtain ⟨k, hk⟩ : ∃ k, ln n = k := ⟨_, rfl⟩
  have HV := Lib.hid h
  have HK := Lib.hid hk
  rw [hk] at hl HV ⊢
  by_cases h0 : k = 0
  · subst h0
    have hn : n = 0 := by
      rcases Nat.eq_zero_or_pos n with h1 | h1
      · exact h1
      · have := ln_pos h1; omega
    have HT : Hid (bs (dT n) = ⟨#[48]⟩) := by show _ = _; rw [hn, dT_zero]
    clear h hk hn
    go_enter Tryd.func55, Tryd.ntmps55
    go_wp2_with fail
    go_ret
    exact ⟨by rw [HT.out]; rfl, Below.refl _ _⟩
  · have hn : 0 < n := by
      rcases Nat.eq_zero_or_pos n with h1 | h1
      · rw [h1, ln_zero] at hk; omega
      · exact h1
    have HN := Lib.hid hn
    have g0 : ((k : Int) == 0) = false := by rw [beq_eq_false_iff_ne]; omega
    have hmk := mkB k hl w
    have HB0 : Hid (OB w.heap.size (w.alloc (.cells (madeCells #[.int .u8 0] (9 * k)) 5)) (.slice (some ⟨w.heap.size, 0, none⟩) 0 (9 * k)) []) := OB.new w (9 * k) (by unfold maxLen; omega)
    have HW0 : Hid (Below w.heap.size w (w.alloc (.cells (madeCells #[.int .u8 0] (9 * k)) 5))) := belowA (Below.refl _ _) _
    have HDK : Hid (DgOk (dg n)) := dg_ok n
    clear h hk hn
    go_enter Tryd.func55, Tryd.ntmps55
    go_wp2_with (rw [hmk])
    generalize w.alloc (.cells (madeCells #[.int .u8 0] (9 * k)) 5) = w0 at *
    go_loopw [4, 3] (fun iv bv wr => ∃ (j : Nat) (z : Int), j ≤ k ∧ Hid (z = (j : Int) - 1) ∧ iv = .int .i64 z ∧ Hid (OB w.heap.size wr bv (chk ((dg n).drop j))) ∧ Hid (Below w.heap.size w wr)) (fun iv _ _ => (intOf iv + 1).toNat)
    case atStart => exact ⟨k, _, Nat.le_refl _, rfl, rfl, by rw [List.drop_eq_nil_of_le (by show ln n ≤ k; rw [HK.out]; exact Nat.le_refl _)]; exact HB0.out, HW0.out⟩
    case round =>
      have H0 := Lib.hid h0
      clear HB0 HW0 g0 h0
      obtain ⟨j, z, hj, hz, rfl, ho, hb⟩ := hrel
      rcases j with _ | j
      · obtain rfl : z = -1 := by have := hz.out; omega
        have hlen : 0 < (chk (dg n)).length := by
          rw [chk_len]
          have : (dg n).length = k := HK.out
          have := H0.out
          omega
        have ho' := ho.out
        rw [List.drop_zero] at ho'
        obtain ⟨g, cap, rfl, hc⟩ := ho'.addr hlen
        have hcv := run_convert_bytes_back (P := Tryd.prog) wr 118 9 5 ⟨g, 0, none⟩ cap (chk (dg n)) Tryd.underlying118 Tryd.underlying5 Tryd.underlying9 hc
        have HT := Lib.hid (Tryd.strings_TrimLeft_one (bs (chk (dg n))) 48 (by decide) wr)
        have HR : Hid (bs (Lib.trimLeftB (bs (chk (dg n))).data.toList 48) = bs (dT n)) := by
          show _ = _
          have hv : decV (chk (dg n)) = n := by have := chk_val HDK.out; rw [dg_val] at this; omega
          rw [bs_list, trim_dT (chk_digs _) (by rw [hv]; exact HN.out), hv]
        obtain ⟨L, hL⟩ : ∃ L, (chk (dg n)).length = L := ⟨_, rfl⟩
        rw [hL] at hcv ⊢
        clear hlen ho' hc ho hL
        generalize chk (dg n) = CH at *
        go_wp2_with (rw [hcv])
        refine HT.out.mono ?_; rintro e w2 ⟨rfl, rfl⟩
        go_wp2_with fail
        go_ret
        exact ⟨by rw [← HR.out]; rfl, hb.out⟩
      · obtain rfl : z = (j : Int) := by have := hz.out; omega
        obtain ⟨g1, o1, c1, e1, _, x1⟩ := (HV.out.below hb.out).at HK.out (j := j) (by omega)
        cases e1
        obtain ⟨D, hD⟩ : ∃ D : Nat, (dg n).getD j 0 = (D : Int) := ⟨((dg n).getD j 0).toNat, by have := (HDK.out.getD j).1; omega⟩
        have hD9 : D < 1000000000 := by have := (HDK.out.getD j).2; omega
        rw [hD] at x1
        have HCH : Hid (chk ((dg n).drop j) = chk ((dg n).drop (j + 1)) ++ digF 9 D) := by
          show _ = _
          have hlt : j < (dg n).length := by show j < ln n; rw [HK.out]; omega
          have hx : (dg n)[j] = (D : Int) := by rw [← hD, List.getD_eq_getElem?_getD, List.getElem?_eq_getElem hlt]; rfl
          rw [List.drop_eq_getElem_cons hlt, chk_cons, hx, Int.toNat_natCast]
        have HCL : Hid ((chk ((dg n).drop (j + 1))).length ≤ 9 * k) := by
          show _ ≤ _
          rw [chk_len, List.length_drop]
          have : (dg n).length = k := HK.out
          omega
        generalize chk ((dg n).drop (j + 1)) = CH at *
        have KP := Lib.hid (Blk.new wr ((part9 0 D).map bcell).toArray 119)
        have HOW := Lib.hid (ho.out.below (belowA (Below.refl _ _) (.cells ((part9 0 D).map bcell).toArray 119)))
        have HBW : Hid (Below w.heap.size w (wr.alloc (.cells ((part9 0 D).map bcell).toArray 119))) := belowA hb.out _
        have HWW : Hid (Below wr.heap.size wr (wr.alloc (.cells ((part9 0 D).map bcell).toArray 119))) := belowA (Below.refl _ _) _
        have hpa : ((part9 0 D).map bcell).toArray = #[.int .u8 0, .int .u8 0, .int .u8 0, .int .u8 0, .int .u8 0, .int .u8 0, .int .u8 0, .int .u8 0, .int .u8 0] := by rw [part9_new]; rfl
        rw [hpa] at HOW HBW HWW
        have KP2 : Hid (Blk (wr.alloc (.cells #[.int .u8 0, .int .u8 0, .int .u8 0, .int .u8 0, .int .u8 0, .int .u8 0, .int .u8 0, .int .u8 0, .int .u8 0] 119)) wr.heap.size ((part9 0 D).map bcell).toArray 119) := by
          show Blk _ _ _ _
          have := KP.out
          rw [hpa] at this ⊢
          exact this
        have hpb := KP2.out.lt
        clear hpa KP hD hz
        go_wp2_with fail
        generalize wr.alloc (.cells #[.int .u8 0, .int .u8 0, .int .u8 0, .int .u8 0, .int .u8 0, .int .u8 0, .int .u8 0, .int .u8 0, .int .u8 0] 119) = W1 at *
        obtain ⟨pb, hpbe⟩ : ∃ pb, wr.heap.size = pb := ⟨_, rfl⟩
        have HPB := Lib.hid hpbe
        rw [hpbe] at KP2 hpb ⊢
        clear hpbe
        go_loopw [7, 5] (fun kv dv wq => ∃ (m : Nat) (y : Int) (d : Nat), m ≤ 9 ∧ Hid (y = 8 - (m : Int)) ∧ kv = .int .i64 y ∧ dv = .int .u32 (d : Int) ∧ Hid (d = D / 10 ^ m) ∧ d < 1000000000 ∧ Hid (Blk wq pb ((part9 m D).map bcell).toArray 119) ∧ Hid (But pb W1 wq)) (fun kv _ _ => (intOf kv + 1).toNat)
        case atStart => exact ⟨0, _, D, Nat.zero_le _, rfl, rfl, rfl, by show _ = _; simp, hD9, KP2.out, But.refl _ _⟩
        case round =>
          clear KP2
          obtain ⟨m, y, d, hm, hy, rfl, rfl, hd, hd9, hblk, hbut⟩ := hrel
          by_cases hm9 : m < 9
          · obtain ⟨e, rfl⟩ : ∃ e : Nat, y = (e : Int) := ⟨8 - m, by have := hy.out; omega⟩
            have he : e = 8 - m := by have := hy.out; omega
            have he9 : e < 9 := by omega
            obtain ⟨u, hu⟩ : ∃ u, (part9 m D)[e]? = some u := ⟨_, List.getElem?_eq_getElem (by rw [part9_len (by omega)]; omega)⟩
            have x0 : wr.cell? ⟨pb, e, none⟩ = some (.int .u8 (u.toNat : Int)) := hblk.out.cell e (by simp [hu])
            have f0 := hblk.out.free e
            have hpw := hblk.out.lt
            have HP := part_cells (D := D) hm9
            rw [← he, ← hd.out] at HP
            have HB1 : Hid (Blk (wr.setCell ⟨pb, e, none⟩ (.int .u8 (48 + (d : Int) % 10))) pb ((part9 (m + 1) D).map bcell).toArray 119) := (hblk.out.set e _).congr HP
            have HB2 : Hid (But pb W1 (wr.setCell ⟨pb, e, none⟩ (.int .u8 (48 + (d : Int) % 10)))) := hbut.out.set e _
            have HD1 : Hid (d / 10 = D / 10 ^ (m + 1)) := by show _ = _; rw [hd.out, Nat.div_div_eq_div_mul, Nat.pow_succ]
            have HY : Hid ((e : Int) - 1 = 8 - ((m + 1 : Nat) : Int)) := by show _ = _; have := hy.out; omega
            clear HP hu hy hd hblk hbut he hb ho
            go_wp2_with fail
            go_roundw
            case rel => exact ⟨m + 1, _, d / 10, by omega, HY, by go_num, by go_num, HD1, by omega, HB1, HB2⟩
            case measure => (simp [intOf] <;> omega)
          · obtain rfl : m = 9 := by omega
            obtain rfl : y = -1 := by have := hy.out; omega
            have HW9 := But.below HWW.out hbut.out (by have := HPB.out; omega) (Nat.le_refl _)
            have O9 := ho.out.below HW9
            have B9 := hb.out.trans (HW9.mono hb.out.size)
            obtain ⟨v7, W7, h7, hr7, hb7⟩ := O9.app (m := digF 9 D) B9.size pb 9 (fun j u hj => hblk.out.cell j (by rw [List.getElem?_toArray]; exact hj)) (by rw [digF_len]; have := HCL.out; omega)
            rw [digF_len] at h7
            have HR7 : Hid (OB w.heap.size W7 v7 (chk ((dg n).drop j))) := by
              show OB _ _ _ _
              rw [HCH.out]; exact hr7
            have HB7 : Hid (Below w.heap.size w W7) := B9.trans hb7
            clear hr7 hb7 O9 B9 HW9 hbut hblk hy hd ho hb
            go_wp2_with (at_builtin; refine wpList_append_told rfl (.tmp 38) (.tmp 39) 118 rfl _ _ rfl rfl v7 W7 (h7 _) ?_)
            go_roundw
            case rel => exact ⟨j, (j : Int) - 1, by omega, rfl, by go_num, HR7, HB7⟩
            case measure => (simp [intOf] <;> omega)
theorem digits_c (v : Value) (n : Nat) (w : World) (h : NV w v n) (hl : ln n ≤ 10000000000000) :
    Calls Tryd.prog 52 #[v] w fun e w' => e = .returned (.int .i64 (dT n).length) ∧ Below w.heap.size w w' := by
  have HT := Lib.hid (text_c v n w h hl)
  have HS : Hid ((bs (dT n)).size = (dT n).length) := bs_size _
  generalize bs (dT n) = T at *
  generalize (dT n).length = L at *
  clear h
  go_enter Tryd.func52, Tryd.ntmps52
  go_wp2_with fail
  refine HT.out.mono ?_; rintro e w2 ⟨rfl, hb⟩
  have HB := Lib.hid hb
  clear hb
  go_wp2_with fail
  go_ret
  exact ⟨by rw [← HS.out]; rfl, HB.out⟩
end Go.Proofs.YtkpalfgnfhphjaaDoor
