/- slices.Concat at rows of numbers. -/
import Derived.Test.YthcddboeejbncaaPzObs5
import Derived.Test.YthcddboeejbncaaGrw
import Derived.Laws.AppendOwnNone
namespace Go.Proofs.Ythcddboeejbncaa
open Go.RowKit

/-- An append of a list that may be read to an own list. -/
theorem own_any {base n m sz by' : Nat} {ST ET : TypeId} {W : World} {v h' z : Value} {xs cs : List Value} {i0 : TypeInfo} (hu : Try.prog.underlying ST = some (.slice ET)) (hi0 : Try.prog.info? ET = some i0) (hz0 : i0.zero = some z) (hz1 : i0.size = sz) (hz2 : i0.bytes = by') (hzs : z.cells.size = sz) (hsz : 0 < sz)
    (h : W.ownsRow base ET sz v n xs) (hb : base ≤ W.heap.size) (hx : Reads W h' m cs) (hnil : ∀ k c, h' = .slice none k c → c = 0) (hn : cs.length = m * sz) (h1 : ∀ u, u ∈ cs → u.oneCell' = true) (hl : n + m ≤ 100000) (hby : by' ≤ 1000) :
    ∃ v' W', (∀ ty, (Builtin.append_ #[ST, ST] ty #[v, h']).run Try.prog W = .ok v' W') ∧ W'.ownsRow base ET sz v' (n + m) (xs ++ cs) ∧ Below base W W' ∧ W.grownBy W' v.ownBlock := by
  have hm : (n + m) * by' ≤ 100000 * 1000 := Nat.mul_le_mul hl hby
  have key : ∀ ad c, (∀ j u, cs[j]? = some u → W.cell? ((ad : Addr).add j) = some u) → ∃ v' W', (∀ ty, (Builtin.append_ #[ST, ST] ty #[v, .slice (some ad) m c]).run Try.prog W = .ok v' W') ∧ W'.ownsRow base ET sz v' (n + m) (xs ++ cs) ∧ Below base W W' ∧ W.grownBy W' v.ownBlock := by
    intro ad c hc
    obtain ⟨v', w', a1, a2, a3, _⟩ := run_append_own (P := Try.prog) W base ST 0 ET i0 z sz by' hu hi0 hz0 hz1 hz2 hzs hsz v n xs h ad m c cs hn hc h1 (by unfold maxLen; omega) (by omega) hb
    exact ⟨v', w', fun ty => a1, a2, Below.grown ⟨rfl, rfl, rfl, Nat.le_refl _, fun _ _ => rfl⟩ a3 hb (fun k e => row_own h k e), a3⟩
  rcases hx with ⟨rfl, hc, a', cap, rfl⟩ | ⟨b, off, cap, rfl, _, _, _, hcc⟩
  · cases a' with
    | some ad => exact key ad cap (fun j u hj => by rw [hc] at hj; simp at hj)
    | none =>
      have := hnil _ _ rfl
      subst this
      refine ⟨v, W, fun ty => run_append_owned_none (P := Try.prog) (w := W) base ST ty ET i0 sz hu hi0 v n xs h, ?_, ⟨rfl, rfl, rfl, Nat.le_refl _, fun _ _ => rfl⟩, ⟨rfl, rfl, rfl, Nat.le_refl _, fun _ _ _ => rfl⟩⟩
      rw [hc, List.append_nil, Nat.add_zero]; exact h
  · exact key ⟨b, off, none⟩ cap (cells_add hcc)
theorem RL.app {W : World} {m : Nat} {rs rs' : List (Nat × Nat)} {g g' : List (Nat → Rat)} (h : RL W m rs g) (k : RL W m rs' g') : RL W m (rs ++ rs') (g ++ g') := by
  refine ⟨by simp [h.1, k.1], fun j r f h1 h2 => ?_⟩
  by_cases hj : j < rs.length
  · rw [List.getElem?_append_left hj] at h1
    rw [List.getElem?_append_left (by rw [← h.1]; exact hj)] at h2
    exact h.2 j r f h1 h2
  · rw [List.getElem?_append_right (by omega)] at h1
    rw [List.getElem?_append_right (by rw [← h.1]; omega), ← h.1] at h2
    exact k.2 _ r f h1 h2
theorem GO.any {base : Nat} {W : World} {v h' : Value} {m : Nat} {g g' : List (Nat → Rat)} (h : GO base W v m g) (hb : base ≤ W.heap.size) (hx : GV W h' m g') (hnil : ∀ k c, h' = .slice none k c → c = 0) (hl : g.length + g'.length ≤ 100000) :
    ∃ v' W', (∀ ty, (Builtin.append_ #[73, 73] ty #[v, h']).run Try.prog W = .ok v' W') ∧ GO base W' v' m (g ++ g') ∧ Below base W W' := by
  obtain ⟨i0, hi0, hz0, hz1, hz2⟩ := info_parts infoG
  obtain ⟨rs, h1, h2⟩ := h
  obtain ⟨rs', k1, k2⟩ := hx
  obtain ⟨v', W', a1, a2, a3, a4⟩ := own_any Try.underlying73 hi0 hz0 hz1 hz2 rfl (by decide) h1 hb k1 hnil (by rw [List.length_map, k2.1, Nat.mul_one]) (fun u hu => by obtain ⟨r, _, rfl⟩ := List.mem_map.1 hu; rfl) hl (by decide)
  refine ⟨v', W', a1, ⟨rs ++ rs', ?_, (h2.app k2).grown h1 a4⟩, a3⟩
  rw [List.length_append, List.map_append]; exact a2
/-- slices.Grow of nothing. -/
theorem grow_c (n : Nat) (w : World) (hn : n ≤ 100000) :
    Calls Try.prog 49 #[.slice none 0 0, .int .i64 (n : Int)] w fun e w' => (∃ v, e = .returned v ∧ w'.ownsRow w.heap.size 76 1 v 0 []) ∧ Below w.heap.size w w' := by
  obtain ⟨i0, hi0, hz0, hz1, hz2⟩ := info_parts infoG
  by_cases h0 : n = 0
  · subst h0
    refine (Any8.slices_Grow_room Try.laysGrow none 0 0 0 w (Nat.le_refl _) (by decide) (by decide) (Nat.le_refl _)).mono ?_
    rintro e w' ⟨rfl, rfl⟩
    exact ⟨⟨_, rfl, rfl, Or.inl ⟨rfl, rfl⟩⟩, Below.refl _ _⟩
  · refine (Any8.slices_Grow_grow Try.laysGrow i0 _ hi0 hz0 (by rw [hz1]; decide) none 0 0 n [] w (Nat.le_refl _) (by omega) (by rw [hz2]; omega) (by omega) (by simp) (fun _ => rfl) (fun a h => by cases h)).mono ?_
    rintro e w' ⟨rfl, rfl⟩
    refine ⟨⟨_, rfl, rfl, Or.inr ⟨_, _, _, rfl, Nat.le_refl _, Blk.new w.drew _ _, Nat.zero_le _, grownCap_le_maxLen _ _ _ _ (by unfold maxLen; omega), ?_, rfl⟩⟩, belowA (below_drew0 _ _) _⟩
    have hg := grownCap_ge w (0 + n) 0 76
    simp only [Array.size_append, size_zeroCells, List.size_toArray, List.length_nil]
    show 0 + (0 + n - 0) * 1 + (grownCap w (0 + n) 0 76 - (0 + n)) * 1 = grownCap w (0 + n) 0 76 * 1
    omega
set_option maxRecDepth 100000 in
set_option maxHeartbeats 4000000 in
theorem concat_c (b m : Nat) (v1 v2 : Value) (g1 g2 : List (Nat → Rat)) (w : World) (hb : Blk w b #[v1, v2] 73) (h1 : GV w v1 m g1) (h2 : GV w v2 m g2) (hn1 : ∀ k c, v1 = .slice none k c → c = 0) (hn2 : ∀ k c, v2 = .slice none k c → c = 0) (hl1 : g1.length ≤ 10000) (hl2 : g2.length ≤ 10000) :
    Calls Try.prog 32 #[.slice (some ⟨b, 0, none⟩) 2 2] w fun e w' => (∃ v, e = .returned v ∧ GO w.heap.size w' v m (g1 ++ g2)) ∧ Below w.heap.size w w' := by
  obtain ⟨a1, c1, rfl⟩ : ∃ a c, v1 = .slice a g1.length c := by obtain ⟨rs, h, _⟩ := h1; exact h.slice
  obtain ⟨a2, c2, rfl⟩ : ∃ a c, v2 = .slice a g2.length c := by obtain ⟨rs, h, _⟩ := h2; exact h.slice
  have HG := Lib.hid (fun (k : Nat) W (h : k ≤ 20000) => grow_c k W (by omega))
  have H1 := Lib.hid h1
  have H2 := Lib.hid h2
  have HN1 := Lib.hid hn1
  have HN2 := Lib.hid hn2
  obtain ⟨n1, hn1'⟩ : ∃ n, g1.length = n := ⟨_, rfl⟩
  obtain ⟨n2, hn2'⟩ : ∃ n, g2.length = n := ⟨_, rfl⟩
  have L1 := Lib.hid hn1'
  have L2 := Lib.hid hn2'
  rw [hn1'] at hl1 hb H1 HN1
  rw [hn2'] at hl2 hb H2 HN2
  have KB := Lib.hid hb
  have x0 := hb.cell 0 rfl
  have x1 := hb.cell 1 rfl
  have hbl := hb.lt
  clear h1 h2 hn1 hn2 hb hn1' hn2'
  go_enter Try.func32, Try.ntmps32
  go_wp2_with fail
  go_loop [11, 3] (fun i s => ∃ k t : Nat, k ≤ 2 ∧ i = .int .i64 k ∧ s = .int .i64 t ∧ t = (if k = 0 then 0 else if k = 1 then n1 else n1 + n2)) (fun i _ => 2 - (intOf i).toNat)
  case atStart => exact ⟨0, 0, by omega, rfl, rfl, rfl⟩
  case round =>
    obtain ⟨k, t, hk, rfl, rfl, ht⟩ := hrel
    have hk3 : k = 0 ∨ k = 1 ∨ k = 2 := by omega
    rcases hk3 with rfl | rfl | rfl
    · obtain rfl : t = 0 := ht
      have q1 : decide ((n1 : Int) < 0) = false := decide_eq_false (by omega)
      go_wp2_with fail
      go_round
      case rel => exact ⟨1, n1, by omega, rfl, by go_num, rfl⟩
      case measure => simp [intOf]
    · obtain rfl : t = n1 := ht
      have q1 : decide ((t : Int) + (n2 : Int) < 0) = false := decide_eq_false (by omega)
      go_wp2_with fail
      go_round
      case rel => exact ⟨2, t + n2, by omega, rfl, by go_num, rfl⟩
      case measure => simp [intOf]
    · obtain rfl : t = n1 + n2 := ht
      have HGX := Lib.hid (HG.out (n1 + n2) w (by omega))
      clear HG
      go_wp2_with fail
      refine HGX.out.mono ?_; rintro e w2 ⟨⟨v2, rfl, ho⟩, hb2⟩
      obtain ⟨ga, gc, rfl⟩ := row_slice ho
      have HO : Hid (GO w.heap.size w2 (.slice ga 0 gc) m []) := ⟨[], ho, RL.nil w2 m⟩
      have B2 := Lib.hid hb2
      clear ho hb2 HGX x0 x1 hbl
      go_wp2_with fail
      go_loopw [27, 6] (fun i ov wr => ∃ k : Nat, k ≤ 2 ∧ i = .int .i64 k ∧ Hid (GO w.heap.size wr ov m (if k = 0 then [] else if k = 1 then g1 else g1 ++ g2)) ∧ Hid (Below w.heap.size w wr)) (fun i _ _ => 2 - (intOf i).toNat)
      case atStart => exact ⟨0, by omega, rfl, HO.out, B2.out⟩
      case round =>
        clear HO B2
        obtain ⟨k, hk, rfl, ho, hb⟩ := hrel
        obtain ⟨oa, oc, rfl⟩ := ho.out.slice
        have hk3 : k = 0 ∨ k = 1 ∨ k = 2 := by omega
        have kb := below_blk hb.out KB.out KB.out.lt
        rcases hk3 with rfl | rfl | rfl
        · have ho1 : Hid (GO w.heap.size wr (.slice oa 0 oc) m []) := ho.out
          have x0 := kb.cell 0 rfl
          have x1 := kb.cell 1 rfl
          have hbl := kb.lt
          obtain ⟨v7, W7, hr7, ho7, hb7⟩ := ho1.out.any hb.out.size (H1.out.below hb.out) HN1.out (by rw [L1.out]; simp; omega)
          have H7 := Lib.hid hr7
          have O7 : Hid (GO w.heap.size W7 v7 m g1) := ho7
          have C7 := Lib.hid (hb.out.trans hb7)
          clear hr7 ho7 hb7 ho1 ho hb kb
          go_wp2_with (at_builtin; refine wpList_append_told rfl (.tmp 31) (.tmp 32) 73 rfl _ _ rfl rfl _ W7 (H7.out _) ?_)
          go_roundw
          case rel => exact ⟨1, by omega, rfl, O7.out, C7.out⟩
          case measure => simp [intOf]
        · have ho1 : Hid (GO w.heap.size wr (.slice oa n1 oc) m g1) := by
            have h : GO w.heap.size wr (.slice oa g1.length oc) m g1 := ho.out
            rw [L1.out] at h; exact h
          have x0 := kb.cell 0 rfl
          have x1 := kb.cell 1 rfl
          have hbl := kb.lt
          have hlx : (if (1 : Nat) = 0 then ([] : List (Nat → Rat)) else if (1 : Nat) = 1 then g1 else g1 ++ g2).length = n1 := L1.out
          rw [hlx]
          obtain ⟨v7, W7, hr7, ho7, hb7⟩ := ho1.out.any hb.out.size (H2.out.below hb.out) HN2.out (by rw [L1.out, L2.out]; omega)
          have H7 := Lib.hid hr7
          have O7 : Hid (GO w.heap.size W7 v7 m (g1 ++ g2)) := ho7
          have C7 := Lib.hid (hb.out.trans hb7)
          clear hr7 ho7 hb7 ho1 ho hb kb hlx
          go_wp2_with (at_builtin; refine wpList_append_told rfl (.tmp 31) (.tmp 32) 73 rfl _ _ rfl rfl _ W7 (H7.out _) ?_)
          go_roundw
          case rel => exact ⟨2, by omega, rfl, O7.out, C7.out⟩
          case measure => simp [intOf]
        · have ho1 : Hid (GO w.heap.size wr (.slice oa (g1 ++ g2).length oc) m (g1 ++ g2)) := ho.out
          have hlx : (if (2 : Nat) = 0 then ([] : List (Nat → Rat)) else if (2 : Nat) = 1 then g1 else g1 ++ g2).length = (g1 ++ g2).length := rfl
          rw [hlx]
          clear ho kb hlx
          go_wp2_with fail
          go_ret
          exact ⟨⟨_, rfl, ho1.out⟩, hb.out⟩
end Go.Proofs.Ythcddboeejbncaa
