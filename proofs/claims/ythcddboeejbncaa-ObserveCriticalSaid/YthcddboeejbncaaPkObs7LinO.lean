/- observe.Critical. Plain: areas, and how many. -/
import Derived.Test.YthcddboeejbncaaPzObs6
import Derived.Test.YthcddboeejbncaaPkLinELinL
import Derived.Deep.RegionHeld3
import Derived.Deep.CutRange
namespace Go.Proofs.Ythcddboeejbncaa
open Go.RowKit

theorem GV.take {W : World} {b off N c m : Nat} {g : List (Nat → Rat)} (h : GV W (.slice (some ⟨b, off, none⟩) N c) m g) {k : Nat} (hk : k ≤ g.length) : GV W (.slice (some ⟨b, off, none⟩) k c) m (g.take k) := by
  obtain ⟨rs, h1, h2⟩ := h
  have hl : (g.take k).length = k := by rw [List.length_take]; omega
  refine ⟨rs.take k, ?_, by rw [hl, List.length_take, h2.1]; omega, fun j r f hj hf => ?_⟩
  · rw [hl]
    rcases h1 with ⟨e1, _, a, cap, e⟩ | ⟨b', off', cap, e, e2, e3, e4, e5⟩
    · exact Or.inl ⟨by omega, by rw [show k = 0 by omega]; rfl, _, _, by rw [show k = 0 by omega]⟩
    · simp only [Value.slice.injEq, Option.some.injEq, Addr.mk.injEq, and_true] at e
      obtain ⟨⟨rfl, rfl⟩, rfl, rfl⟩ := e
      refine Or.inr ⟨b, off, c, rfl, by omega, by omega, e4, fun j u hj => e5 j u ?_⟩
      rw [List.map_take] at hj
      obtain ⟨hjl, _⟩ := List.getElem?_eq_some_iff.1 hj
      rw [List.length_take] at hjl
      rwa [List.getElem?_take_of_lt (by omega)] at hj
  · obtain ⟨hjl, _⟩ := List.getElem?_eq_some_iff.1 hj
    rw [List.length_take] at hjl
    rw [List.getElem?_take_of_lt (by omega)] at hj hf
    exact h2.2 j r f hj hf
theorem GV.drop {W : World} {b off N c m : Nat} {g : List (Nat → Rat)} (h : GV W (.slice (some ⟨b, off, none⟩) N c) m g) {k : Nat} (hk : k ≤ g.length) : GV W (.slice (some ⟨b, off + k, none⟩) (N - k) (c - k)) m (g.drop k) := by
  obtain ⟨rs, h1, h2⟩ := h
  have hl : (g.drop k).length = g.length - k := by rw [List.length_drop]
  have hN : N = g.length := by
    rcases h1 with ⟨e1, _, a, cap, e⟩ | ⟨b', off', cap, e, _⟩
    · simp only [Value.slice.injEq] at e; omega
    · simp only [Value.slice.injEq] at e; exact e.2.1
  refine ⟨rs.drop k, ?_, by rw [hl, List.length_drop, h2.1], fun j r f hj hf => ?_⟩
  · rw [hl]
    rcases h1 with ⟨e1, e2, a, cap, e⟩ | ⟨b', off', cap, e, e2, e3, e4, e5⟩
    · exact Or.inl ⟨by omega, by rw [List.map_drop, e2]; simp, _, _, by rw [show N - k = 0 by omega]⟩
    · simp only [Value.slice.injEq, Option.some.injEq, Addr.mk.injEq, and_true] at e
      obtain ⟨⟨rfl, rfl⟩, _, rfl⟩ := e
      refine Or.inr ⟨b, off + k, c - k, by rw [hN], by omega, by omega, e4, fun j u hj => ?_⟩
      rw [List.map_drop, List.getElem?_drop] at hj
      rw [show off + k + j = off + (k + j) by omega]
      exact e5 (k + j) u hj
  · rw [List.getElem?_drop] at hj hf
    exact h2.2 _ r f hj hf
theorem GV.none' (W : World) (a : Option Addr) (c m : Nat) : GV W (.slice a 0 c) m [] := ⟨[], Or.inl ⟨rfl, rfl, a, c, rfl⟩, rfl, fun k r f h => by simp at h⟩
/-- The rows without row k. -/
def dropRow (g : List (Nat → Rat)) (k : Nat) : List (Nat → Rat) := g.take k ++ g.drop (k + 1)
/-- The critical ones of the first k meters. -/
def critL (n : Net) (l : List MIt) : Nat → List Int
  | 0 => []
  | k + 1 => if Lin.rankL (freeE n).length (dropRow (rowsE n l) k) < rankE n l then critL n l k ++ [(k : Int)] else critL n l k
def critE (n : Net) (l : List MIt) : List Int := critL n l l.length
theorem critL_len (n : Net) (l : List MIt) : ∀ k, (critL n l k).length ≤ k
  | 0 => Nat.le_refl _
  | k + 1 => by
    have := critL_len n l k
    unfold critL
    split
    · simp; omega
    · omega
/-- The rank of some of the rows, as its callers meet it. -/
theorem rankSub_c (n : Net) (l : List MIt) (g : List (Nat → Rat)) (v : Value) (w : World) (hok : netE n = 0) (hmi : ∀ m ∈ l, itemE n m = 0) (hn : n.nodes.length ≤ 8) (hl : g.length ≤ 1000) (hg : ∀ f ∈ g, f ∈ rowsE n l ∨ ∀ c, c < (freeE n).length → sz (f c) ≤ 2000) (hv : GV w v (freeE n).length g) :
    Calls Try.prog 30 #[v, .int .i64 ((freeE n).length : Int)] w fun e w' => e = .returned (.int .i64 (Lin.rankL (freeE n).length g)) ∧ Below w.heap.size w w' := by
  have hf := freeE_le (netE_ok hok)
  refine rank_c v (freeE n).length 2000 g w hv (by omega) hl (fun f h => (hg f h).elim (rowsE_sz hok hmi f) id) ?_
  have : 5 ^ (min g.length (freeE n).length) ≤ 5 ^ 8 := Nat.pow_le_pow_right (by decide) (by omega)
  have h58 : (5 : Nat) ^ 8 = 390625 := by decide
  omega
/-- What observe.Critical answers. -/
def CritP (n : Net) (l : List MIt) (w : World) (e : Ending) (w' : World) : Prop := ∃ v, e = .returned (.tuple #[v, .int .i64 (metE n l)]) ∧ (if metE n l = 0 then IVal w' v (critE n l) else v = .slice none 0 0) ∧ Below w.heap.size w w'
set_option maxRecDepth 100000 in
set_option maxHeartbeats 8000000 in
theorem critical_c (x0 : NAddr) (n : Net) (lv : Value) (l : List MIt) (w : World) (hin : MetIn w x0 n lv l) (hn : n.nodes.length ≤ 8) :
    Calls Try.prog 13 #[x0.val n, lv] w (CritP n l w) := by
  have HOK := Lib.hid (fun (h : metE n l = 0) W (hW : Below w.heap.size w W) => obsRank_ok x0 n lv l W (hin.below hW) hn h)
  have HER := Lib.hid (fun (h : metE n l ≠ 0) W (hW : Below w.heap.size w W) => obsRank_err x0 n lv l W (hin.below hW) hn h)
  have HFV := Lib.hid (fun (h : metE n l = 0) W (hW : Below w.heap.size w W) => freshV_c x0 n W (hin.net.below hW) (netE_ok (metE_zero.1 h).1))
  have HRW := Lib.hid (fun (h : metE n l = 0) tv W (hW : Below w.heap.size w W) (ht : TopV W tv n) => rows_c x0 n tv lv l W (hin.net.below hW) (metE_zero.1 h).1 ht (hin.rd.below hW) (metE_zero.1 h).2.2 hin.len)
  have HRK := Lib.hid (fun (h : metE n l = 0) g v W (hl : g.length ≤ 1000) (hg : ∀ f ∈ g, f ∈ rowsE n l) (hv : GV W v (freeE n).length g) => rankSub_c n l g v W (metE_zero.1 h).1 (metE_zero.1 h).2.2 hn hl (fun f hf => Or.inl (hg f hf)) hv)
  have HP1 : Hid (∀ w' (ne : Int), metE n l ≠ 0 → ne = metE n l → Below w.heap.size w w' → CritP n l w (.returned (.tuple #[.slice none 0 0, .int .i64 ne])) w') := fun w' ne h e hb => ⟨.slice none 0 0, by rw [e], by rw [if_neg h], hb⟩
  have HP0 : Hid (∀ w' v, metE n l = 0 → Hid (IVal w' v (critE n l)) → Below w.heap.size w w' → CritP n l w (.returned (.tuple #[v, .int .i64 0])) w') := fun w' v h hv hb => ⟨v, by rw [h], by rw [if_pos h]; exact hv.out, hb⟩
  have HLEN := Lib.hid (rowsE_len n l)
  have HL64 : Hid (metE n l = 0 → l.length ≤ 64) := fun h => (metE_zero.1 h).2.1
  generalize CritP n l w = CP at *
  obtain ⟨ME, hME⟩ : ∃ x, metE n l = x := ⟨_, rfl⟩
  rw [hME] at HOK HER HFV HRW HRK HP1 HP0 HL64
  obtain ⟨la2, lcap, rfl⟩ := hin.rd.slice
  obtain ⟨na, nc, sa, sc, ba, bc, ga, gc, la, lc, ta, tc⟩ := x0
  simp only [NAddr.val] at HOK HER HFV HRW ⊢
  have B1 := Lib.hid (belowA (Below.refl w.heap.size w) (.cells #[.slice na n.nodes.length nc, .slice sa n.sws.length sc, .slice ba n.brs.length bc, .slice ga n.gens.length gc, .slice la n.loads.length lc, .slice ta n.stores.length tc] 29))
  have K1 := Lib.hid (Blk.new w #[.slice na n.nodes.length nc, .slice sa n.sws.length sc, .slice ba n.brs.length bc, .slice ga n.gens.length gc, .slice la n.loads.length lc, .slice ta n.stores.length tc] 29)
  generalize n.sws.length = sn at *
  generalize n.brs.length = bn at *
  generalize n.gens.length = gn at *
  generalize n.loads.length = lon at *
  generalize n.stores.length = tn at *
  clear hin hME hn
  by_cases h0 : ME = 0
  · have HC := Lib.hid (HOK.out h0 _ B1.out)
    have HFV2 := Lib.hid (HFV.out h0)
    have HRW2 := Lib.hid (HRW.out h0)
    have HRK2 := Lib.hid (HRK.out h0)
    have HP2 := Lib.hid (fun w' v => HP0.out w' v h0)
    have hl64 := HL64.out h0
    subst h0
    have HCL : Hid (∀ k, critL n l (k + 1) = if Lin.rankL (freeE n).length (dropRow (rowsE n l) k) < rankE n l then critL n l k ++ [(k : Int)] else critL n l k) := fun _ => rfl
    have HLE := Lib.hid (critL_len n l)
    have HCE : Hid (critE n l = critL n l l.length) := rfl
    have HRL : Hid (∀ g, Lin.rankL (freeE n).length g ≤ 1000 ∨ True) := fun _ => Or.inr trivial
    generalize hrk : rankE n l = RK at *
    generalize rowsE n l = G at *
    generalize (freeE n).length = FL at *
    generalize critE n l = CE at *
    obtain ⟨N, hN⟩ : ∃ n, l.length = n := ⟨_, rfl⟩
    rw [hN] at HCE HLEN hl64 HC HRW2 ⊢
    have HN := Lib.hid hN
    clear HOK HER HFV HRW HRK HP0 HP1 HL64 HRL hN hrk
    go_enter Try.func13, Try.ntmps13
    go_wp2_with fail
    refine HC.out.mono ?_; rintro e w2 ⟨rfl, hb2⟩
    have B2 := Lib.hid (belowT B1.out hb2)
    have K2 := Lib.hid (below_blk hb2 K1.out K1.out.lt)
    clear hb2 B1 K1 HC
    go_upto_region 4 with fail
    obtain ⟨p, hp⟩ : ∃ p, w.heap.size = p := ⟨_, rfl⟩
    rw [hp] at K2 ⊢
    have HP := Lib.hid hp
    have HSC : Hid (∀ W, Below w2.heap.size w2 W → (W.cell? ⟨p, 0, none⟩ = some (.slice na n.nodes.length nc) ∧ W.cell? ⟨p, 1, none⟩ = some (.slice sa sn sc) ∧ W.cell? ⟨p, 2, none⟩ = some (.slice ba bn bc) ∧ W.cell? ⟨p, 3, none⟩ = some (.slice ga gn gc) ∧ W.cell? ⟨p, 4, none⟩ = some (.slice la lon lc) ∧ W.cell? ⟨p, 5, none⟩ = some (.slice ta tn tc))) := fun W hW => by
      have k := below_blk hW K2.out K2.out.lt
      exact ⟨k.cell 0 rfl, k.cell 1 rfl, k.cell 2 rfl, k.cell 3 rfl, k.cell 4 rfl, k.cell 5 rfl⟩
    have E0 := Lib.hid (below_drew0 w2.heap.size w2)
    clear hp
    go_region_held3 (fun W => (W.cell? ⟨p, 0, none⟩ = some (.slice na n.nodes.length nc) ∧ W.cell? ⟨p, 1, none⟩ = some (.slice sa sn sc) ∧ W.cell? ⟨p, 2, none⟩ = some (.slice ba bn bc) ∧ W.cell? ⟨p, 3, none⟩ = some (.slice ga gn gc) ∧ W.cell? ⟨p, 4, none⟩ = some (.slice la lon lc) ∧ W.cell? ⟨p, 5, none⟩ = some (.slice ta tn tc)))
      (first
        | with_reducible exact HSC.out _ E0.out
        | with_reducible exact HSC.out _ E1.out
        | with_reducible exact HSC.out _ E2.out)
      (first
        | (go_simp; go_at_call 28; ((with_reducible refine (HFV2.out _ (belowT B2.out E0.out)).mono ?_); rintro e w3 ⟨⟨tv, rfl, ht⟩, hb3⟩; have HT := Lib.hid ht; have E1 := Lib.hid (belowT E0.out hb3); clear ht hb3))
        | (go_simp; go_at_call 31; ((with_reducible refine (HRW2.out tv _ (belowT B2.out E1.out) HT.out).mono ?_); rintro e w4 ⟨⟨gv, rfl, ho⟩, hb4⟩; have HG := Lib.hid ho; have E2 := Lib.hid (belowT E1.out hb4); clear ho hb4)))
    focus
      have G4 := Lib.hid (HG.out.reads (by rw [HLEN.out]; omega))
      obtain ⟨ga', gc', rfl⟩ := HG.out.slice
      rw [HLEN.out] at G4 ⊢
      have B4 := Lib.hid (belowT B2.out E2.out)
      clear HG HT HSC E0 E1 E2 HFV2 HRW2 K2 B2
      go_simp
      go_wp2_with fail
      go_loopw [29, 10] (fun i ov wr => ∃ k : Nat, k ≤ N ∧ i = .int .i64 k ∧ Hid (IO w4.heap.size wr ov (critL n l k)) ∧ Hid (Below w4.heap.size w4 wr)) (fun i _ _ => N - (intOf i).toNat)
      case atStart => exact ⟨0, Nat.zero_le _, rfl, ⟨rfl, Or.inl ⟨rfl, rfl⟩⟩, Below.refl _ _⟩
      case round =>
        obtain ⟨k, hk, rfl, ho, hb⟩ := hrel
        obtain ⟨oa, oc, rfl⟩ := row_slice (show wr.ownsRow w4.heap.size 3 1 _ (critL n l k).length (ints (critL n l k)) from ho.out)
        by_cases hlt : k < N
        · have hgk : k < G.length := by rw [HLEN.out]; exact hlt
          have G5 := G4.out.below hb.out
          obtain ⟨gb, go, rfl, hcg⟩ : ∃ gb go, ga' = some ⟨gb, go, none⟩ ∧ N ≤ gc' := by
            obtain ⟨b, off, cap, _, _, hv, _⟩ := G5.at (List.getElem?_eq_getElem hgk)
            obtain ⟨rs, h, _⟩ := G5
            simp only [Value.slice.injEq] at hv
            obtain ⟨b', off', cap', hv', hcap', _⟩ := h.addr (by omega)
            simp only [Value.slice.injEq] at hv'
            exact ⟨b, off, hv.1, by rw [HLEN.out] at hcap'; omega⟩
          have GT := Lib.hid (G5.take (k := k) (by omega))
          have GDR := Lib.hid (G5.drop (k := k + 1) (by omega))
          have hkl := HLE.out k
          have HSTEP := Lib.hid (HCL.out k)
          have i1 : IntKind.i64.wrap ((k : Int) + 1) = (k : Int) + 1 := IntWalk.i64_in _ (by omega)
          have i2 : (0 : Int) ≤ (k : Int) + 1 := by omega
          have i3 : ((k : Int) + 1).toNat = k + 1 := by omega
          have i4 : k + 1 ≤ gc' := by omega
          have i5 : k ≤ gc' := by omega
          have i6 : k + 1 ≤ N := by omega
          have i7 : (k : Int) + 1 ≤ (N : Int) := by omega
          have i8 : (k : Int) ≤ (N : Int) := by omega
          have hdl : (dropRow G k).length ≤ 1000 := by unfold dropRow; rw [List.length_append, List.length_take, List.length_drop, HLEN.out]; omega
          have hgl : (G.take k).length ≤ 10000 ∧ (G.drop (k + 1)).length ≤ 10000 := by rw [List.length_take, List.length_drop, HLEN.out]; omega
          have HRX := Lib.hid (fun v W (h : GV W v FL (dropRow G k)) => HRK2.out (dropRow G k) v W hdl (fun f hf => by
            unfold dropRow at hf
            rcases List.mem_append.1 hf with h | h
            · exact List.mem_of_mem_take h
            · exact List.mem_of_mem_drop h) h)
          have HGX := Lib.hid (fun W v (h : GO W.heap.size W v FL (G.take k ++ G.drop (k + 1))) => h)
          have HGY : Hid (∀ b W v, GO b W v FL (G.take k ++ G.drop (k + 1)) → GV W v FL (dropRow G k)) := fun b W v h => (show GO b W v FL (dropRow G k) from h).reads (by omega)
          generalize Lin.rankL FL (dropRow G k) = R1 at *
          clear G5 hdl HGX
          by_cases hcap : gc' = k + 1
          · subst hcap
            have i9 : (k : Int) ≤ (k : Int) + 1 := by omega
            have i10 : k ≤ k + 1 := by omega
            have h0 : N - (k + 1) = 0 := by omega
            have hd : G.drop (k + 1) = [] := List.drop_eq_nil_of_le (by rw [HLEN.out]; omega)
            have HCO := Lib.hid (concat_c wr.heap.size FL _ _ (G.take k) (G.drop (k + 1)) _ (Blk.new wr #[.slice (some ⟨gb, go, none⟩) k (k + 1), .slice (some ⟨gb, go, none⟩) 0 0] 73).drew (GT.out.below (below_drew (belowA (Below.refl _ _) _))) (by rw [hd]; exact GV.none' _ _ _ _) (fun _ _ h => by simp at h) (fun _ _ h => by simp at h) hgl.1 hgl.2)
            have EA := Lib.hid (below_drew (belowA (Below.refl wr.heap.size wr) (.cells #[.slice (some ⟨gb, go, none⟩) k (k + 1), .slice (some ⟨gb, go, none⟩) 0 0] 73)))
            clear GT GDR hgl hd
            go_upto_region 9 with fail
            go_region_held3 (fun _ => True) (trivial) (first
              | (go_simp; go_at_call 32; ((with_reducible refine HCO.out.mono ?_); rintro e w5 ⟨⟨v5, rfl, ho5⟩, hb5⟩; have O5 := Lib.hid (HGY.out _ _ _ ho5); have E1 := Lib.hid (belowT EA.out hb5); clear ho5 hb5))
              | (go_simp; go_at_call 30; ((with_reducible refine (HRX.out v5 _ O5.out).mono ?_); rintro e w6 ⟨rfl, hb6⟩; have E2 := Lib.hid (belowT E1.out hb6); clear hb6)))
            all_goals
              have O6 : Hid (IO w4.heap.size w6 (.slice oa (critL n l k).length oc) (critL n l k)) := ownsRow_below ho.out E2.out
              have E3 := Lib.hid (hb.out.trans (E2.out.mono hb.out.size))
              clear HCO EA HRX HGY O5 E1 ho hb E2
              go_simp
              by_cases hr : R1 < RK
              · have HS2 : Hid (critL n l (k + 1) = critL n l k ++ [(k : Int)]) := HSTEP.out.trans (if_pos hr)
                obtain ⟨v9, W9, hr9, ho9, hb9⟩ := (show IO w4.heap.size (w6.alloc (.cells #[.int .i64 (k : Int)] 3)) (.slice oa (critL n l k).length oc) (critL n l k) from ownsRow_below O6.out (belowA (Below.refl _ _) _)).app (E3.out.alloc E3.out.size (.cells #[.int .i64 (k : Int)] 3)).size (Blk.new w6 #[.int .i64 (k : Int)] 3) (by omega)
                have H9 : Hid (∀ ty, (Builtin.append_ #[39, 39] ty #[.slice oa (critL n l k).length oc, .slice (some ⟨w6.heap.size, 0, none⟩) 1 1]).run Try.prog (w6.alloc (.cells #[.int .i64 (k : Int)] 3)) = .ok v9 W9) := hr9
                have O9 := Lib.hid ho9
                have B9 := Lib.hid ((E3.out.alloc E3.out.size (.cells #[.int .i64 (k : Int)] 3)).trans hb9)
                clear hr9 ho9 hb9 O6 E3 HSTEP
                go_wp2_with (at_builtin; refine wpList_append_told rfl (.tmp 45) (.tmp 47) 39 rfl _ _ rfl rfl _ W9 (H9.out _) ?_)
                go_roundw
                case rel => exact ⟨k + 1, hlt, by go_num, by rw [HS2.out]; exact O9.out, B9.out⟩
                case measure => simp [intOf]; omega
              · have HS2 : Hid (critL n l (k + 1) = critL n l k) := HSTEP.out.trans (if_neg hr)
                clear HSTEP
                go_wp2_with fail
                go_roundw
                case rel => exact ⟨k + 1, hlt, by go_num, by rw [HS2.out]; exact O6.out, E3.out⟩
                case measure => simp [intOf]; omega
          · have HCO := Lib.hid (concat_c wr.heap.size FL _ _ (G.take k) (G.drop (k + 1)) _ (Blk.new wr #[.slice (some ⟨gb, go, none⟩) k gc', .slice (some ⟨gb, go + (k + 1), none⟩) (N - (k + 1)) (gc' - (k + 1))] 73).drew (GT.out.below (below_drew (belowA (Below.refl _ _) _))) (GDR.out.below (below_drew (belowA (Below.refl _ _) _))) (fun _ _ h => by simp at h) (fun _ _ h => by simp at h) hgl.1 hgl.2)
            have EA := Lib.hid (below_drew (belowA (Below.refl wr.heap.size wr) (.cells #[.slice (some ⟨gb, go, none⟩) k gc', .slice (some ⟨gb, go + (k + 1), none⟩) (N - (k + 1)) (gc' - (k + 1))] 73)))
            clear GT GDR hgl
            go_upto_region 9 with fail
            go_region_held3 (fun _ => True) (trivial) (first
              | (go_simp; go_at_call 32; ((with_reducible refine HCO.out.mono ?_); rintro e w5 ⟨⟨v5, rfl, ho5⟩, hb5⟩; have O5 := Lib.hid (HGY.out _ _ _ ho5); have E1 := Lib.hid (belowT EA.out hb5); clear ho5 hb5))
              | (go_simp; go_at_call 30; ((with_reducible refine (HRX.out v5 _ O5.out).mono ?_); rintro e w6 ⟨rfl, hb6⟩; have E2 := Lib.hid (belowT E1.out hb6); clear hb6)))
            all_goals
              have O6 : Hid (IO w4.heap.size w6 (.slice oa (critL n l k).length oc) (critL n l k)) := ownsRow_below ho.out E2.out
              have E3 := Lib.hid (hb.out.trans (E2.out.mono hb.out.size))
              clear HCO EA HRX HGY O5 E1 ho hb E2
              go_simp
              by_cases hr : R1 < RK
              · have HS2 : Hid (critL n l (k + 1) = critL n l k ++ [(k : Int)]) := HSTEP.out.trans (if_pos hr)
                obtain ⟨v9, W9, hr9, ho9, hb9⟩ := (show IO w4.heap.size (w6.alloc (.cells #[.int .i64 (k : Int)] 3)) (.slice oa (critL n l k).length oc) (critL n l k) from ownsRow_below O6.out (belowA (Below.refl _ _) _)).app (E3.out.alloc E3.out.size (.cells #[.int .i64 (k : Int)] 3)).size (Blk.new w6 #[.int .i64 (k : Int)] 3) (by omega)
                have H9 : Hid (∀ ty, (Builtin.append_ #[39, 39] ty #[.slice oa (critL n l k).length oc, .slice (some ⟨w6.heap.size, 0, none⟩) 1 1]).run Try.prog (w6.alloc (.cells #[.int .i64 (k : Int)] 3)) = .ok v9 W9) := hr9
                have O9 := Lib.hid ho9
                have B9 := Lib.hid ((E3.out.alloc E3.out.size (.cells #[.int .i64 (k : Int)] 3)).trans hb9)
                clear hr9 ho9 hb9 O6 E3 HSTEP
                go_wp2_with (at_builtin; refine wpList_append_told rfl (.tmp 45) (.tmp 47) 39 rfl _ _ rfl rfl _ W9 (H9.out _) ?_)
                go_roundw
                case rel => exact ⟨k + 1, hlt, by go_num, by rw [HS2.out]; exact O9.out, B9.out⟩
                case measure => simp [intOf]; omega
              · have HS2 : Hid (critL n l (k + 1) = critL n l k) := HSTEP.out.trans (if_neg hr)
                clear HSTEP
                go_wp2_with fail
                go_roundw
                case rel => exact ⟨k + 1, hlt, by go_num, by rw [HS2.out]; exact O6.out, E3.out⟩
                case measure => simp [intOf]; omega
        · obtain rfl : k = N := by omega
          have HR : Hid (IVal wr (.slice oa (critL n l k).length oc) CE) := by
            have := HLE.out k
            have h : IVal wr (.slice oa (critL n l k).length oc) (critL n l k) := Reads.of_owns ho.out (by omega)
            show Reads wr _ CE.length (ints CE)
            rw [HCE.out]; exact h
          have HB := Lib.hid (belowT B4.out hb.out)
          clear ho hb HN HCE
          go_wp2_with fail
          exact HP2.out _ _ HR HB.out
  · have q1 : (ME != 0) = true := by simp [h0]
    have HC := Lib.hid (HER.out h0 _ B1.out)
    have HP1 := Lib.hid (fun w' => HP1.out w' ME h0 rfl)
    clear h0 HOK HER HFV HRW HRK HP0 HL64 HLEN
    go_enter Try.func13, Try.ntmps13
    go_wp2_with fail
    refine HC.out.mono ?_; rintro e w2 ⟨rfl, hb2⟩
    have B2 := Lib.hid (belowT B1.out hb2)
    clear hb2 B1 K1 HC
    go_wp2_with fail
    exact HP1.out _ B2.out
end Go.Proofs.Ythcddboeejbncaa
namespace Go.Proofs.Ythcddboeejbncaa.Lin
/-- The first k from k0 on with same k i, or i. -/
def firstS (s : Nat → Nat → Bool) (i : Nat) : Nat → Nat → Nat
  | 0, k => k
  | f + 1, k => if s k i = true then k else firstS s i f (k + 1)
theorem firstS_spec (s : Nat → Nat → Bool) (i : Nat) : ∀ f k, k ≤ firstS s i f k ∧ firstS s i f k ≤ k + f ∧ (firstS s i f k < k + f → s (firstS s i f k) i = true) ∧ ∀ j, k ≤ j → j < firstS s i f k → s j i = false
  | 0, k => ⟨Nat.le_refl _, Nat.le_refl _, fun h => absurd h (by show ¬ k < k + 0; omega), fun j h1 h2 => absurd h2 (by show ¬ j < k; omega)⟩
  | f + 1, k => by
    unfold firstS
    by_cases h : s k i = true
    · rw [if_pos h]; exact ⟨Nat.le_refl _, by omega, fun _ => h, fun j h1 h2 => absurd h2 (by omega)⟩
    · rw [if_neg h]
      obtain ⟨a, b, c, d⟩ := firstS_spec s i f (k + 1)
      refine ⟨by omega, by omega, fun h => c (by omega), fun j h1 h2 => ?_⟩
      by_cases e : j = k
      · rw [e]; simpa using h
      · exact d j (by omega) h2
/-- The areas of the first i buses, and how many. -/
def areaF (s : Nat → Nat → Bool) : Nat → List Int × Int
  | 0 => ([], 0)
  | i + 1 => if firstS s i i 0 < i then ((areaF s i).1 ++ [(areaF s i).1.getD (firstS s i i 0) 0], (areaF s i).2) else ((areaF s i).1 ++ [(areaF s i).2], (areaF s i).2 + 1)
/-- How many of the first i buses are the first ones of their classes. -/
def leadC (s : Nat → Nat → Bool) : Nat → Nat
  | 0 => 0
  | i + 1 => leadC s i + if firstS s i i 0 = i then 1 else 0
theorem lead_iff (s : Nat → Nat → Bool) (i : Nat) : firstS s i i 0 = i ↔ ∀ k, k < i → s k i = false := by
  obtain ⟨_, b, c, d⟩ := firstS_spec s i i 0
  constructor
  · intro h k hk; exact d k (Nat.zero_le _) (by omega)
  · intro h
    apply Classical.byContradiction; intro hn
    have h1 := c (by omega)
    rw [h _ (by omega)] at h1; cases h1
structure ArOk (R : Nat → Nat → Prop) (c : Nat) (i : Nat) (st : List Int × Int) : Prop where
  len : st.1.length = i
  iff : ∀ a b, a < i → b < i → (st.1.getD a 0 = st.1.getD b 0 ↔ R a b)
  bd : ∀ a, a < i → 0 ≤ st.1.getD a 0 ∧ st.1.getD a 0 < st.2
  all : ∀ v : Int, 0 ≤ v → v < st.2 → ∃ a, a < i ∧ st.1.getD a 0 = v
  cnt : st.2 = c
theorem areaF_ok {s : Nat → Nat → Bool} {R : Nat → Nat → Prop} {N : Nat} (hr : ∀ a, R a a) (hs : ∀ a b, R a b → R b a) (ht : ∀ a b c, R a b → R b c → R a c) (h : ∀ k i, k < i → i < N → (s k i = true ↔ R k i)) :
    ∀ i, i ≤ N → ArOk R (leadC s i) i (areaF s i)
  | 0, _ => ⟨rfl, fun a _ ha => absurd ha (Nat.not_lt_zero _), fun a ha => absurd ha (Nat.not_lt_zero _), fun v h0 h1 => absurd h1 (by show ¬ v < 0; omega), rfl⟩
  | i + 1, hi => by
    have ih := areaF_ok hr hs ht h i (by omega)
    obtain ⟨_, hf2, hf3, hf4⟩ := firstS_spec s i i 0
    have g1 : ∀ (l : List Int) (x : Int) (a : Nat), a < l.length → (l ++ [x]).getD a 0 = l.getD a 0 := fun l x a ha => by
      rw [List.getD_eq_getElem?_getD, List.getElem?_append_left ha, ← List.getD_eq_getElem?_getD]
    have g2 : ∀ (l : List Int) (x : Int), (l ++ [x]).getD l.length 0 = x := fun l x => by simp
    have hl := ih.len
    by_cases hf : firstS s i i 0 < i
    · have hR := (h _ i hf (by omega)).1 (hf3 (by omega))
      unfold areaF leadC
      rw [if_pos hf, if_neg (by omega)]
      generalize firstS s i i 0 = k at *
      have e1 : ∀ a, a < i → ((areaF s i).1 ++ [(areaF s i).1.getD k 0]).getD a 0 = (areaF s i).1.getD a 0 := fun a ha => g1 _ _ a (by omega)
      have e2 : ((areaF s i).1 ++ [(areaF s i).1.getD k 0]).getD i 0 = (areaF s i).1.getD k 0 := by
        have := g2 (areaF s i).1 ((areaF s i).1.getD k 0)
        rw [hl] at this; exact this
      have hk := fun a ha => ih.iff k a hf ha
      refine ⟨by simp [hl], fun a b ha hb => ?_, fun a ha => ?_, fun v h0 h1 => ?_, ih.cnt⟩
      · show (_ ++ [_]).getD a 0 = (_ ++ [_]).getD b 0 ↔ _
        by_cases ea : a = i
        · by_cases eb : b = i
          · rw [ea, eb]; exact ⟨fun _ => hr i, fun _ => rfl⟩
          · rw [ea, e2, e1 b (by omega), ih.iff k b hf (by omega)]
            exact ⟨fun h => ht _ _ _ (hs _ _ hR) h, fun h => ht _ _ _ hR h⟩
        · by_cases eb : b = i
          · rw [eb, e2, e1 a (by omega), ih.iff a k (by omega) hf]
            exact ⟨fun h => ht _ _ _ h hR, fun h => ht _ _ _ h (hs _ _ hR)⟩
          · rw [e1 a (by omega), e1 b (by omega)]; exact ih.iff a b (by omega) (by omega)
      · show 0 ≤ (_ ++ [_]).getD a 0 ∧ _
        by_cases ea : a = i
        · rw [ea, e2]; exact ih.bd k hf
        · rw [e1 a (by omega)]; exact ih.bd a (by omega)
      · obtain ⟨a, ha, e⟩ := ih.all v h0 h1
        exact ⟨a, by omega, (e1 a ha).trans e⟩
    · have hfi : firstS s i i 0 = i := by omega
      have hn : ∀ k, k < i → ¬ R k i := fun k hk hR => by
        have := (h k i hk (by omega)).2 hR
        rw [(lead_iff s i).1 hfi k hk] at this; cases this
      unfold areaF leadC
      rw [if_neg hf, if_pos hfi]
      have e1 : ∀ a, a < i → ((areaF s i).1 ++ [(areaF s i).2]).getD a 0 = (areaF s i).1.getD a 0 := fun a ha => g1 _ _ a (by omega)
      have e2 : ((areaF s i).1 ++ [(areaF s i).2]).getD i 0 = (areaF s i).2 := by
        have := g2 (areaF s i).1 (areaF s i).2
        rw [hl] at this; exact this
      refine ⟨by simp [hl], fun a b ha hb => ?_, fun a ha => ?_, fun v h0 h1 => ?_, by show (areaF s i).2 + 1 = ((leadC s i + 1 : Nat) : Int); rw [ih.cnt]; omega⟩
      · show (_ ++ [_]).getD a 0 = (_ ++ [_]).getD b 0 ↔ _
        by_cases ea : a = i
        · by_cases eb : b = i
          · rw [ea, eb]; exact ⟨fun _ => hr i, fun _ => rfl⟩
          · rw [ea, e2, e1 b (by omega)]
            have := (ih.bd b (by omega)).2
            exact ⟨fun h => by omega, fun h => absurd (hs _ _ h) (hn b (by omega))⟩
        · by_cases eb : b = i
          · rw [eb, e2, e1 a (by omega)]
            have := (ih.bd a (by omega)).2
            exact ⟨fun h => by omega, fun h => absurd h (hn a (by omega))⟩
          · rw [e1 a (by omega), e1 b (by omega)]; exact ih.iff a b (by omega) (by omega)
      · show 0 ≤ (_ ++ [_]).getD a 0 ∧ (_ ++ [_]).getD a 0 < (areaF s i).2 + 1
        by_cases ea : a = i
        · rw [ea, e2]; exact ⟨by have := ih.cnt; omega, by omega⟩
        · rw [e1 a (by omega)]; have := ih.bd a (by omega); omega
      · have h1' : v < (areaF s i).2 + 1 := h1
        by_cases ev : v = (areaF s i).2
        · exact ⟨i, by omega, e2.trans ev.symm⟩
        · obtain ⟨a, ha, e⟩ := ih.all v h0 (by omega)
          exact ⟨a, by omega, (e1 a ha).trans e⟩
theorem leadC_mono {s t : Nat → Nat → Bool} {N : Nat} (h : ∀ k i, k < i → i < N → s k i = true → t k i = true) :
    ∀ i, i ≤ N → leadC t i ≤ leadC s i ∧ (leadC t i = leadC s i → ∀ a, a < i → firstS s a a 0 = a → firstS t a a 0 = a)
  | 0, _ => ⟨Nat.le_refl _, fun _ a ha => absurd ha (Nat.not_lt_zero _)⟩
  | i + 1, hi => by
    obtain ⟨h1, h2⟩ := leadC_mono h i (by omega)
    have h3 : firstS t i i 0 = i → firstS s i i 0 = i := fun e => (lead_iff s i).2 fun k hk => by
      have := (lead_iff t i).1 e k hk
      have h4 := h k i hk (by omega)
      revert h4; cases s k i <;> simp_all
    unfold leadC
    refine ⟨by split <;> split <;> simp_all <;> omega, fun e a ha hl => ?_⟩
    by_cases ea : a = i
    · subst ea
      rw [if_pos hl] at e
      apply Classical.byContradiction; intro hn
      rw [if_neg hn] at e
      omega
    · refine h2 ?_ a (by omega) hl
      revert e; split <;> split <;> intro e <;> simp_all <;> omega
/-- Numbers in the order of their first places: how many there are. -/
theorem numbered {I : Nat → Int} {N : Nat} (h0 : ∀ i, i < N → 0 ≤ I i) (hg : ∀ i, i < N → 1 ≤ I i → ∃ k, k < i ∧ I k = I i - 1) :
    ∀ i, i ≤ N → (∀ a, a < i → I a < leadC (fun k i => I k == I i) i) ∧ ∀ v : Int, 0 ≤ v → v < leadC (fun k i => I k == I i) i → ∃ a, a < i ∧ I a = v
  | 0, _ => ⟨fun a ha => absurd ha (Nat.not_lt_zero _), fun v h0 h1 => absurd h1 (by show ¬ v < ((0 : Nat) : Int); omega)⟩
  | i + 1, hi => by
    obtain ⟨h1, h2⟩ := numbered h0 hg i (by omega)
    unfold leadC
    have hl := lead_iff (fun k i => I k == I i) i
    by_cases e : firstS (fun k i => I k == I i) i i 0 = i
    · rw [if_pos e]
      have h3 : ∀ k, k < i → I k ≠ I i := fun k hk => by have := hl.1 e k hk; simpa using this
      have h4 : I i = leadC (fun k i => I k == I i) i := by
        have h5 : ¬ I i < leadC (fun k i => I k == I i) i := fun hh => by
          obtain ⟨a, ha, hv⟩ := h2 (I i) (h0 i (by omega)) hh
          exact h3 a ha hv
        by_cases e0 : 1 ≤ I i
        · obtain ⟨k, hk, hv⟩ := hg i (by omega) e0
          have := h1 k hk
          omega
        · have := h0 i (by omega); omega
      refine ⟨fun a ha => ?_, fun v a b => ?_⟩
      · by_cases ea : a = i
        · rw [ea]; omega
        · have := h1 a (by omega); omega
      · by_cases ev : v = I i
        · exact ⟨i, by omega, ev.symm⟩
        · obtain ⟨x, hx, hv⟩ := h2 v a (by omega)
          exact ⟨x, by omega, hv⟩
    · rw [if_neg e]
      obtain ⟨k, hk, hv⟩ : ∃ k, k < i ∧ I k = I i := by
        apply Classical.byContradiction; intro hn
        exact e (hl.2 fun k hk => by simp; exact fun hh => hn ⟨k, hk, hh⟩)
      refine ⟨fun a ha => ?_, fun v a b => ?_⟩
      · by_cases ea : a = i
        · rw [ea, ← hv]; exact h1 k hk
        · exact h1 a (by omega)
      · obtain ⟨x, hx, hv⟩ := h2 v a b
        exact ⟨x, by omega, hv⟩
end Go.Proofs.Ythcddboeejbncaa.Lin
