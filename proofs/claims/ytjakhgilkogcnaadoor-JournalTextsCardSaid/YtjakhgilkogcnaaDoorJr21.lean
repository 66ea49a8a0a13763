/- journal: line. -/
import Derived.Test.YtjakhgilkogcnaaDoorJr20
import Derived.Test.YtjakhgilkogcnaaDoorJr9
import Derived.Lib.SplitLaws
import Derived.Deep.CutRange
import Derived.Deep.RegionHeld3
import Derived.Laws.ResultCell
namespace Go.Proofs.YtjakhgilkogcnaaDoor
open Go.RowKit

/-- The pieces of a text. -/
def pcs (s sep : ByteArray) : List ByteArray := Lib.splitB sep 0 (Lib.countB s sep) s
def lineE (s : ByteArray) : Ev × Int :=
  match pcs s ⟨#[32]⟩ with
  | [a, b, c, d] =>
    match numE a, numE d with
    | some t, some v => (⟨t, b, c, v⟩, evE ⟨t, b, c, v⟩)
    | _, _ => (ev0, 5)
  | _ => (ev0, 5)
/-- The variable that Index asks. -/
def MaxV (w : World) : Prop := ∃ m, w.cell? ⟨0, 0, none⟩ = some (.int .i64 m)
theorem MaxV.below {w w' : World} (h : MaxV w) (k : Below w.heap.size w w') : MaxV w' := by
  obtain ⟨m, c⟩ := h
  exact ⟨m, by rw [k.cell (World.block_lt_of_cell? w _ c)]; exact c⟩
theorem split_c (s sep : ByteArray) (w : World) (hs : s.size ≤ 70000) (hm : MaxV w) (h1 : 1 ≤ sep.size) :
    Calls Tryd.prog 25 #[.string s, .string sep] w fun e w' =>
      e = .returned (.slice (some ⟨w.heap.size, 0, none⟩) (pcs s sep).length (pcs s sep).length) ∧ Blk w' w.heap.size ((pcs s sep).map Value.string).toArray 9 ∧ Below w.heap.size w w' := by
  obtain ⟨m, c⟩ := hm
  have hl : (pcs s sep).length = Lib.countB s sep + 1 := Lib.splitB_all sep h1 0 _ s rfl
  refine (Tryd.strings_Split s sep m w (by omega) c h1).mono ?_
  rintro e w' ⟨rfl, rfl⟩
  rw [hl]
  exact ⟨rfl, Blk.new _ _ _, belowA (Below.refl _ _) _⟩
theorem pcs_size (sep : ByteArray) : ∀ (k : Nat) (s : ByteArray), ∀ p ∈ Lib.splitB sep 0 k s, p.size ≤ s.size := by
  intro k
  induction k with
  | zero => intro s p hp; rw [Lib.splitB_zero] at hp; rw [List.mem_singleton.1 hp]; exact Nat.le_refl _
  | succ k ih =>
    intro s p hp
    rcases Lib.indexB_cases s sep with h | ⟨i, h, hi⟩
    · rw [Lib.splitB_miss _ _ _ _ h] at hp; rw [List.mem_singleton.1 hp]; exact Nat.le_refl _
    · rw [Lib.splitB_hit _ _ _ _ i h] at hp
      rcases List.mem_cons.1 hp with rfl | hp
      · simp [ByteArray.size_extract]; omega
      · refine Nat.le_trans (ih _ p hp) ?_
        simp [ByteArray.size_extract]
theorem pcs_le {s sep p : ByteArray} (h : p ∈ pcs s sep) : p.size ≤ s.size := pcs_size sep _ s p h
set_option maxRecDepth 100000 in
set_option maxHeartbeats 4000000 in
theorem line_c (s : ByteArray) (w : World) (hs : s.size ≤ 70000) (hp : Pow w) (hv : ErrV w) (hm : MaxV w) :
    Calls Tryd.prog 27 #[.string s] w (EvP (lineE s).1 (lineE s).2 w) := by
  have K := Blk.new w #[.int .i64 0, .string ⟨#[]⟩, .string ⟨#[]⟩, .int .i64 0] 31
  have B := belowA (Below.refl w.heap.size w) (.cells #[.int .i64 0, .string ⟨#[]⟩, .string ⟨#[]⟩, .int .i64 0] 31)
  generalize hW1 : w.alloc (.cells #[.int .i64 0, .string ⟨#[]⟩, .string ⟨#[]⟩, .int .i64 0] 31) = W1 at *
  have hb1 : Below w.heap.size w W1 := B
  have HSP := Lib.hid (split_c s ⟨#[32]⟩ W1 hs (hm.below hb1) (by decide))
  have HN := Lib.hid (fun (a : ByteArray) (ha : a ∈ pcs s ⟨#[32]⟩) W (hW : Below w.heap.size w W) => number_c a W (Nat.le_trans (pcs_le ha) hs) (hp.below hW) (hv.below hW))
  have HE : Hid (lineE s = match pcs s ⟨#[32]⟩ with
    | [a, b, c, d] =>
      match numE a, numE d with
      | some t, some v => (⟨t, b, c, v⟩, evE ⟨t, b, c, v⟩)
      | _, _ => (ev0, 5)
    | _ => (ev0, 5)) := rfl
  have HZ : Hid (∀ a ∈ pcs s ⟨#[32]⟩, a.size ≤ 70000) := fun a ha => Nat.le_trans (pcs_le ha) hs
  generalize lineE s = E at *
  generalize pcs s ⟨#[32]⟩ = P at *
  have HK := Lib.hid K
  have HB := Lib.hid B
  clear hm hv hp K B hb1
  by_cases h4 : P.length = 4
  · obtain ⟨a, b, c, d, rfl⟩ : ∃ a b c d, P = [a, b, c, d] := by
      match P, h4 with
      | [a, b, c, d], _ => exact ⟨a, b, c, d, rfl⟩
    have HN1 := Lib.hid (HN.out a (by simp))
    have HN2 := Lib.hid (HN.out d (by simp))
    have hzb := HZ.out b (by simp)
    have hzc := HZ.out c (by simp)
    have HE1 : Hid (E = match numE a, numE d with
      | some t, some v => (⟨t, b, c, v⟩, evE ⟨t, b, c, v⟩)
      | _, _ => (ev0, 5)) := HE.out
    simp only [List.length_cons, List.length_nil, List.map_cons, List.map_nil] at HSP
    clear HE HN HZ h4
    unfold NumP at HN1 HN2
    generalize numE a = NA at *
    generalize numE d = ND at *
    by_cases hna : NA.isSome = true ∧ ND.isSome = true
    · obtain ⟨h1, h2⟩ := hna
      cases NA with
      | none => cases h1
      | some t =>
        cases ND with
        | none => cases h2
        | some v =>
          have HE2 : Hid (E = (⟨t, b, c, v⟩, evE ⟨t, b, c, v⟩)) := HE1.out
          have HCK : Hid (∀ W, Calls Tryd.prog 24 #[.agg #[.int .i64 t, .string b, .string c, .int .i64 v]] W fun e w' => e = .returned (.int .i64 (evE ⟨t, b, c, v⟩)) ∧ Below W.heap.size W w') := fun W => ev_c ⟨t, b, c, v⟩ W ⟨Nat.le_trans hzb (by decide), Nat.le_trans hzc (by decide)⟩
          generalize evE ⟨t, b, c, v⟩ = EE at *
          simp only [Option.isSome_some] at HN1 HN2
          clear HE1 h1 h2
          go_enter Tryd.func27, Tryd.ntmps27
          go_wp2_with fail
          refine HSP.out.mono ?_; rintro e w2 ⟨rfl, hk2, hb2⟩
          have K2 := Lib.hid (below_blk hb2 HK.out HK.out.lt)
          have B2 := Lib.hid (belowT HB.out hb2)
          have S2 : Hid (Blk w2 W1.heap.size #[.string a, .string b, .string c, .string d] 9) := hk2
          have s0 := S2.out.cell 0 rfl
          have HA1 := Lib.hid (HN1.out w2 B2.out)
          have hwz := S2.out.lt
          clear hb2 hW1 hk2 HN1
          go_wp2_with fail
          refine HA1.out.mono ?_; rintro e w3 ⟨n1, rfl, e1, hb3⟩
          have K3 := Lib.hid (below_blk hb3 K2.out K2.out.lt)
          have B3 := Lib.hid (belowT B2.out hb3)
          have S3 := Lib.hid (below_blk hb3 S2.out S2.out.lt)
          have t3 := S3.out.cell 3 rfl
          have HA2 := Lib.hid (HN2.out w3 B3.out)
          have hwy := S3.out.lt
          clear hb3 HA1 HN2 K2 B2 s0 hwz S2
          go_wp2_with fail
          refine HA2.out.mono ?_; rintro e w4 ⟨n2, rfl, e2, hb4⟩
          have K4 := Lib.hid (below_blk hb4 K3.out K3.out.lt)
          have B4 := Lib.hid (belowT B3.out hb4)
          have S4 := Lib.hid (below_blk hb4 S3.out S3.out.lt)
          clear hb4 HA2 K3 B3 t3 S3 hwy
          have r1 := e1 t rfl
          have r2 := e2 v rfl
          subst r1
          subst r2
          clear e1 e2
          have s1 := S4.out.cell 1 rfl
          have s2 := S4.out.cell 2 rfl
          have hwq := S4.out.lt
          go_upto_region 8 with fail
          go_cut [9] from 37 to 45 (fun s wx => ∃ dd : Nat, s = .pointer (some ⟨dd, 0, none⟩) ∧ w4.heap.size ≤ dd ∧ Hid (Blk wx dd #[.int .i64 n1, .string b, .string c, .int .i64 n2] 31) ∧ Hid (Below w4.heap.size w4 wx))
          case first =>
            go_region
            all_goals
              go_wp2_with fail
              go_meet
              first
                | exact ⟨w4.heap.size, rfl, Nat.le_refl _, (Blk.new _ _ _).drew, ⟨rfl, rfl, rfl, (belowA (Below.refl _ w4) _).size, (belowA (Below.refl _ w4) _).block⟩⟩
                | exact ⟨w4.heap.size, rfl, Nat.le_refl _, Blk.new _ _ _, ⟨rfl, rfl, rfl, (belowA (Below.refl _ w4) _).size, (belowA (Below.refl _ w4) _).block⟩⟩
          case rest =>
            obtain ⟨dd, rfl, hdd, hx, hbc⟩ := hcut
            have KC := Lib.hid (below_blk hbc.out K4.out K4.out.lt)
            have BC := Lib.hid (belowT B4.out hbc.out)
            have hne : dd ≠ w.heap.size := by have := K4.out.lt; omega
            have HSX : Hid (∀ W, Below wc.heap.size wc W → (W.cell? ⟨dd, 0, none⟩ = some (.int .i64 n1) ∧ W.cell? ⟨dd, 1, none⟩ = some (.string b) ∧ W.cell? ⟨dd, 2, none⟩ = some (.string c) ∧ W.cell? ⟨dd, 3, none⟩ = some (.int .i64 n2))) := fun W hW => by
              have k := below_blk hW hx.out hx.out.lt
              exact ⟨k.cell 0 rfl, k.cell 1 rfl, k.cell 2 rfl, k.cell 3 rfl⟩
            obtain ⟨wb, hwb⟩ : ∃ b, w.heap.size = b := ⟨_, rfl⟩
            have HWB := Lib.hid hwb
            rw [hwb] at KC hne ⊢
            clear hwb
            have D0 : Hid (Below wc.heap.size wc wc.drew) := ⟨rfl, rfl, rfl, Nat.le_refl _, fun _ _ => rfl⟩
            have KD := Lib.hid KC.out.drew
            have y0 := KD.out.cell 0 rfl
            have y1 := KD.out.cell 1 rfl
            have y2 := KD.out.cell 2 rfl
            have y3 := KD.out.cell 3 rfl
            have f0 := KD.out.free 0
            have f1 := KD.out.free 1
            have f2 := KD.out.free 2
            have f3 := KD.out.free 3
            have hwl := KD.out.lt
            have KXS := Lib.hid ((((hx.out.drew.setOther ⟨wb, 0, none⟩ hne (.int .i64 n1)).setOther ⟨wb, 1, none⟩ hne (.string b)).setOther ⟨wb, 2, none⟩ hne (.string c)).setOther ⟨wb, 3, none⟩ hne (.int .i64 n2))
            have HSS : Hid ((((wc.drew.setCell ⟨wb, 0, none⟩ (.int .i64 n1)).setCell ⟨wb, 1, none⟩ (.string b)).setCell ⟨wb, 2, none⟩ (.string c)).setCell ⟨wb, 3, none⟩ (.int .i64 n2) |> fun W => (W.cell? ⟨dd, 0, none⟩ = some (.int .i64 n1) ∧ W.cell? ⟨dd, 1, none⟩ = some (.string b) ∧ W.cell? ⟨dd, 2, none⟩ = some (.string c) ∧ W.cell? ⟨dd, 3, none⟩ = some (.int .i64 n2))) := ⟨KXS.out.cell 0 rfl, KXS.out.cell 1 rfl, KXS.out.cell 2 rfl, KXS.out.cell 3 rfl⟩
            go_upto_region 9 with fail
            go_region_held3 (fun W => (W.cell? ⟨dd, 0, none⟩ = some (.int .i64 n1) ∧ W.cell? ⟨dd, 1, none⟩ = some (.string b) ∧ W.cell? ⟨dd, 2, none⟩ = some (.string c) ∧ W.cell? ⟨dd, 3, none⟩ = some (.int .i64 n2)))
              (first
                | exact HSX.out _ D0.out
                | exact HSX.out _ D1.out
                | exact HSS.out
                | exact ⟨KX5.out.cell 0 rfl, KX5.out.cell 1 rfl, KX5.out.cell 2 rfl, KX5.out.cell 3 rfl⟩
                | exact HSX.out _ D9.out)
              (first
                | (go_at_call 24; ((with_reducible refine (HCK.out wc.drew).mono ?_); rintro e w5 ⟨rfl, hb5⟩; have D1 := Lib.hid (belowT D0.out hb5); have KX5 := Lib.hid (((((below_blk D1.out hx.out hx.out.lt).setOther ⟨wb, 0, none⟩ hne (.int .i64 n1)).setOther ⟨wb, 1, none⟩ hne (.string b)).setOther ⟨wb, 2, none⟩ hne (.string c)).setOther ⟨wb, 3, none⟩ hne (.int .i64 n2)); have K5 := Lib.hid (below_blk hb5 KD.out KD.out.lt); have z0 := K5.out.cell 0 rfl; have z1 := K5.out.cell 1 rfl; have z2 := K5.out.cell 2 rfl; have z3 := K5.out.cell 3 rfl; have e0 := K5.out.free 0; have e1 := K5.out.free 1; have e2 := K5.out.free 2; have e3 := K5.out.free 3; have hwl5 := K5.out.lt; clear hb5))
                | (go_at_call 24; ((with_reducible refine (HCK.out _).mono ?_); rintro e w5 ⟨rfl, hb5⟩; have D9 := Lib.hid hb5; clear hb5)))
            have BF := belowT BC.out D1.out
            go_simp
            go_wp2_with fail
            (try simp only [Exit.inBlock, Exit.then])
            refine bodyPost_ret (v := .tuple #[.agg #[.int .i64 n1, .string b, .string c, .int .i64 n2], .int .i64 EE]) ?_ rfl ⟨?_, ?_⟩
            · rw [results_cell_tmp rfl]
              go_simp
            · rw [HE2.out]; rfl
            · have hle : w.heap.size ≤ wb := Nat.le_of_eq HWB.out
              exact (((BF.setCell hle _).setCell hle _).setCell hle _).setCell hle _
    · have HE2 : Hid (E = (ev0, 5)) := by
        show _ = _
        rw [HE1.out]
        cases NA with
        | none => rfl
        | some x =>
          cases ND with
          | none => rfl
          | some y => exact absurd ⟨rfl, rfl⟩ hna
      clear HE1
      go_enter Tryd.func27, Tryd.ntmps27
      go_wp2_with fail
      refine HSP.out.mono ?_; rintro e w2 ⟨rfl, hk2, hb2⟩
      have K2 := Lib.hid (below_blk hb2 HK.out HK.out.lt)
      have B2 := Lib.hid (belowT HB.out hb2)
      have S2 : Hid (Blk w2 W1.heap.size #[.string a, .string b, .string c, .string d] 9) := hk2
      have s0 := S2.out.cell 0 rfl
      have HA1 := Lib.hid (HN1.out w2 B2.out)
      have hwz := S2.out.lt
      clear hb2 hW1 hk2 HN1
      go_wp2_with fail
      refine HA1.out.mono ?_; rintro e w3 ⟨n1, rfl, e1, hb3⟩
      have K3 := Lib.hid (below_blk hb3 K2.out K2.out.lt)
      have B3 := Lib.hid (belowT B2.out hb3)
      have S3 := Lib.hid (below_blk hb3 S2.out S2.out.lt)
      have t3 := S3.out.cell 3 rfl
      have HA2 := Lib.hid (HN2.out w3 B3.out)
      have hwy := S3.out.lt
      clear hb3 HA1 HN2 K2 B2 s0 hwz S2
      go_wp2_with fail
      refine HA2.out.mono ?_; rintro e w4 ⟨n2, rfl, e2, hb4⟩
      have K4 := Lib.hid (below_blk hb4 K3.out K3.out.lt)
      have B4 := Lib.hid (belowT B3.out hb4)
      have S4 := Lib.hid (below_blk hb4 S3.out S3.out.lt)
      clear hb4 HA2 K3 B3 t3 S3 hwy
      have y0 := K4.out.cell 0 rfl
      have y1 := K4.out.cell 1 rfl
      have y2 := K4.out.cell 2 rfl
      have y3 := K4.out.cell 3 rfl
      have f0 := K4.out.free 0
      have f1 := K4.out.free 1
      have f2 := K4.out.free 2
      have f3 := K4.out.free 3
      have hzr := K4.out.lt
      clear e1 e2
      cases NA with
      | none =>
        simp only [Option.isSome_none]
        go_wp2_with fail
        (try simp only [Exit.inBlock, Exit.then])
        refine bodyPost_ret (v := .tuple #[.agg #[.int .i64 0, .string ⟨#[]⟩, .string ⟨#[]⟩, .int .i64 0], .int .i64 5]) ?_ rfl ⟨?_, ?_⟩
        · rw [results_cell_tmp rfl]
          go_simp
        · rw [HE2.out]; rfl
        · exact (((B4.out.setCell (Nat.le_refl _) _).setCell (Nat.le_refl _) _).setCell (Nat.le_refl _) _).setCell (Nat.le_refl _) _
      | some x =>
        cases ND with
        | none =>
          simp only [Option.isSome_none, Option.isSome_some]
          go_wp2_with fail
          (try simp only [Exit.inBlock, Exit.then])
          refine bodyPost_ret (v := .tuple #[.agg #[.int .i64 0, .string ⟨#[]⟩, .string ⟨#[]⟩, .int .i64 0], .int .i64 5]) ?_ rfl ⟨?_, ?_⟩
          · rw [results_cell_tmp rfl]
            go_simp
          · rw [HE2.out]; rfl
          · exact (((B4.out.setCell (Nat.le_refl _) _).setCell (Nat.le_refl _) _).setCell (Nat.le_refl _) _).setCell (Nat.le_refl _) _
        | some y => exact absurd ⟨rfl, rfl⟩ hna
  · have HE2 : Hid (E = (ev0, 5)) := by
      show _ = _
      rw [HE.out]
      match P, h4 with
      | [], _ => rfl
      | [_], _ => rfl
      | [_, _], _ => rfl
      | [_, _, _], _ => rfl
      | [_, _, _, _], h => exact absurd rfl h
      | _ :: _ :: _ :: _ :: _ :: _, _ => rfl
    obtain ⟨n, hn⟩ : ∃ n, P.length = n := ⟨_, rfl⟩
    rw [hn] at HSP h4
    have g1 : ((n : Int) != 4) = true := by
      rw [bne_iff_ne]; omega
    clear HE hn h4 HN HZ
    go_enter Tryd.func27, Tryd.ntmps27
    go_wp2_with fail
    refine HSP.out.mono ?_; rintro e w2 ⟨rfl, _, hb2⟩
    have K2 := Lib.hid (below_blk hb2 HK.out HK.out.lt)
    have B2 := Lib.hid (belowT HB.out hb2)
    clear hb2 hW1
    have y0 := K2.out.cell 0 rfl
    have y1 := K2.out.cell 1 rfl
    have y2 := K2.out.cell 2 rfl
    have y3 := K2.out.cell 3 rfl
    have f0 := K2.out.free 0
    have f1 := K2.out.free 1
    have f2 := K2.out.free 2
    have f3 := K2.out.free 3
    have hzr := K2.out.lt
    go_wp2_with fail
    (try simp only [Exit.inBlock, Exit.then])
    refine bodyPost_ret (v := .tuple #[.agg #[.int .i64 0, .string ⟨#[]⟩, .string ⟨#[]⟩, .int .i64 0], .int .i64 5]) ?_ rfl ⟨?_, ?_⟩
    · rw [results_cell_tmp rfl]
      go_simp
    · rw [HE2.out]; rfl
    · exact (((B2.out.setCell (Nat.le_refl _) _).setCell (Nat.le_refl _) _).setCell (Nat.le_refl _) _).setCell (Nat.le_refl _) _
end Go.Proofs.YtjakhgilkogcnaaDoor
