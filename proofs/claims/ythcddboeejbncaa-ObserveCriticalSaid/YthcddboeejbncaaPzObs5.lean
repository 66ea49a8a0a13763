/- observe.Rank, observe.Observable, meter.Free, restore.Missing. -/
import Derived.Test.YthcddboeejbncaaPzObs4
namespace Go.Proofs.Ythcddboeejbncaa
open Go.RowKit

theorem itemsE_zero {n : Net} : ∀ {l : List MIt}, itemsE n l = 0 ↔ ∀ m ∈ l, itemE n m = 0
  | [] => ⟨fun _ m h => by simp at h, fun _ => rfl⟩
  | m :: l => by
    unfold itemsE
    constructor
    · intro h
      by_cases e : itemE n m ≠ 0
      · rw [if_pos e] at h; exact absurd h e
      · rw [if_neg e] at h
        intro x hx
        rcases List.mem_cons.1 hx with rfl | hx
        · exact Classical.not_not.1 e
        · exact itemsE_zero.1 h x hx
    · intro h
      rw [if_neg (fun e => e (h m (List.mem_cons_self ..)))]
      exact itemsE_zero.2 fun x hx => h x (List.mem_cons_of_mem _ hx)
theorem metE_zero {n : Net} {l : List MIt} : metE n l = 0 ↔ netE n = 0 ∧ l.length ≤ 64 ∧ ∀ m ∈ l, itemE n m = 0 := by
  unfold metE
  by_cases h1 : netE n = 0
  · rw [if_neg (fun e => e h1)]
    by_cases h2 : 64 < l.length
    · rw [if_pos h2]
      exact ⟨fun h => absurd h (by decide), fun h => absurd h.2.1 (by omega)⟩
    · rw [if_neg h2, itemsE_zero]
      exact ⟨fun h => ⟨h1, by omega, h⟩, fun h => h.2.2⟩
  · rw [if_pos h1]
    exact ⟨fun h => absurd h h1, fun h => h.1⟩
/-- A network and meters in memory. -/
structure MetIn (w : World) (x0 : NAddr) (n : Net) (lv : Value) (l : List MIt) : Prop where
  net : NetR w x0 n
  wf : n.Wf
  rd : Reads w lv l.length (flat MIt.cells l)
  mwf : ∀ m ∈ l, m.Wf
  len : l.length ≤ 10000
theorem MetIn.below {w w' : World} {x0 : NAddr} {n : Net} {lv : Value} {l : List MIt} (h : MetIn w x0 n lv l) (k : Below w.heap.size w w') : MetIn w' x0 n lv l := ⟨h.net.below k, h.wf, h.rd.below k, h.mwf, h.len⟩
theorem il_le {n : Net} (h : Net.Ok n) : (islandsE n).length ≤ n.nodes.length := by
  obtain ⟨m, hm, _, _⟩ := cnt_buses h
  rw [islands_len hm]
  have := cntE_le (b := (n.nodes.length : Int)) (l := busesE n) (by omega) (fun x hx => by have := (busesE_ok n).2 x hx; omega)
  omega
theorem freeE_le {n : Net} (h : Net.Ok n) : (freeE n).length ≤ n.nodes.length := Nat.le_trans (freeL_len _) (il_le h)
theorem rowsE_len (n : Net) (l : List MIt) : (rowsE n l).length = l.length := by unfold rowsE; rw [List.length_map]
theorem rowsE_sz {n : Net} {l : List MIt} (hok : netE n = 0) (hmi : ∀ m ∈ l, itemE n m = 0) : ∀ f ∈ rowsE n l, ∀ c, c < (freeE n).length → sz (f c) ≤ 2000 := by
  intro f hf c hc
  unfold rowsE at hf
  obtain ⟨m, hm, rfl⟩ := List.mem_map.1 hf
  unfold rowE selR
  have hx : (freeE n).getD c 0 ∈ freeE n := by rw [show (freeE n).getD c 0 = (freeE n)[c] by simp [hc]]; exact List.getElem_mem _
  have := freeL_ok (islandsE n) _ hx
  exact (sz_form hok (hmi m hm)).1 _ (by omega)
/-- The rank of the rows of meters. -/
def rankE (n : Net) (l : List MIt) : Nat := Lin.rankL (freeE n).length (rowsE n l)
def RankP (n : Net) (l : List MIt) (w : World) (e : Ending) (w' : World) : Prop :=
  (if metE n l = 0 then e = .returned (.tuple #[.int .i64 (rankE n l), .int .i64 ((freeE n).length : Int), .int .i64 0]) else e = .returned (.tuple #[.int .i64 0, .int .i64 0, .int .i64 (metE n l)])) ∧ Below w.heap.size w w'
/-- Rank of rows by contract, as its callers meet it. -/
theorem rankRows_c (n : Net) (l : List MIt) (v : Value) (w : World) (hok : netE n = 0) (hmi : ∀ m ∈ l, itemE n m = 0) (hn : n.nodes.length ≤ 8) (hl : l.length ≤ 1000) (hv : GV w v (freeE n).length (rowsE n l)) :
    Calls Try.prog 30 #[v, .int .i64 ((freeE n).length : Int)] w fun e w' => e = .returned (.int .i64 (rankE n l)) ∧ Below w.heap.size w w' := by
  have hf := freeE_le (netE_ok hok)
  refine rank_c v (freeE n).length 2000 (rowsE n l) w hv (by omega) (by rw [rowsE_len]; exact hl) (rowsE_sz hok hmi) ?_
  have : 5 ^ (min (rowsE n l).length (freeE n).length) ≤ 5 ^ 8 := Nat.pow_le_pow_right (by decide) (by omega)
  have h58 : (5 : Nat) ^ 8 = 390625 := by decide
  omega
set_option maxRecDepth 100000 in
set_option maxHeartbeats 4000000 in
theorem obsRank_c (x0 : NAddr) (n : Net) (lv : Value) (l : List MIt) (w : World) (hin : MetIn w x0 n lv l) (hn : n.nodes.length ≤ 8) :
    Calls Try.prog 11 #[x0.val n, lv] w (RankP n l w) := by
  have HCK := Lib.hid (fun W (hW : Below w.heap.size w W) => metCheck_c x0 n l lv W (hin.net.below hW) hin.wf (hin.rd.below hW) hin.mwf)
  have HFV := Lib.hid (fun (h : metE n l = 0) W (hW : Below w.heap.size w W) => freshV_c x0 n W (hin.net.below hW) (netE_ok (metE_zero.1 h).1))
  have HFO := Lib.hid (fun (h : metE n l = 0) W (ba ia : Option Addr) (bc ic : Nat) (hW : IVal W (.slice ia (islandsE n).length ic) (islandsE n)) => freeOf_c ba ia n.nodes.length bc ic (islandsE n) W hW (by have := il_le (netE_ok (metE_zero.1 h).1); omega))
  have HRW := Lib.hid (fun (h : metE n l = 0) tv W (hW : Below w.heap.size w W) (ht : TopV W tv n) => rows_c x0 n tv lv l W (hin.net.below hW) (metE_zero.1 h).1 ht (hin.rd.below hW) (metE_zero.1 h).2.2 hin.len)
  have HRK := Lib.hid (fun (h : metE n l = 0) v W (hv : GV W v (freeE n).length (rowsE n l)) => rankRows_c n l v W (metE_zero.1 h).1 (metE_zero.1 h).2.2 hn (by have := (metE_zero.1 h).2.1; omega) hv)
  have HP1 : Hid (∀ w' e', metE n l ≠ 0 → e' = metE n l → Below w.heap.size w w' → RankP n l w (.returned (.tuple #[.int .i64 0, .int .i64 0, .int .i64 e'])) w') := fun w' e' h he hb => ⟨by rw [if_neg h, he], hb⟩
  have HP0 : Hid (∀ w' (a b : Int), metE n l = 0 → a = rankE n l → b = ((freeE n).length : Int) → Below w.heap.size w w' → RankP n l w (.returned (.tuple #[.int .i64 a, .int .i64 b, .int .i64 0])) w') := fun w' a b h ha hb' hb => ⟨by rw [if_pos h, ha, hb'], hb⟩
  have HGO : Hid (∀ b W v, GO b W v (freeE n).length (rowsE n l) → GV W v (freeE n).length (rowsE n l)) := fun b W v h => h.reads (by rw [rowsE_len]; have := hin.len; omega)
  generalize RankP n l w = RP at *
  generalize rankE n l = RK at *
  obtain ⟨ME, hME⟩ : ∃ x, metE n l = x := ⟨_, rfl⟩
  have HFE : Hid (freeL (islandsE n) = freeE n) := rfl
  rw [HFE.out] at HFO
  obtain ⟨na, nc, sa, sc, ba, bc, ga, gc, la, lc, ta, tc⟩ := x0
  simp only [NAddr.val] at HCK HFV HRW ⊢
  rw [hME] at HCK HFV HFO HRW HRK HP1 HP0
  have HME := Lib.hid hME
  obtain ⟨la2, lcap, rfl⟩ := hin.rd.slice
  have B1 := Lib.hid (belowA (Below.refl w.heap.size w) (.cells #[.slice na n.nodes.length nc, .slice sa n.sws.length sc, .slice ba n.brs.length bc, .slice ga n.gens.length gc, .slice la n.loads.length lc, .slice ta n.stores.length tc] 29))
  have K1 := Lib.hid (Blk.new w #[.slice na n.nodes.length nc, .slice sa n.sws.length sc, .slice ba n.brs.length bc, .slice ga n.gens.length gc, .slice la n.loads.length lc, .slice ta n.stores.length tc] 29)
  generalize n.sws.length = sn at *
  generalize n.brs.length = bn at *
  generalize n.gens.length = gn at *
  generalize n.loads.length = lon at *
  generalize n.stores.length = tn at *
  have HC1 := Lib.hid (HCK.out _ B1.out)
  clear hin hME HCK
  go_enter Try.func11, Try.ntmps11
  go_wp2_with fail
  refine HC1.out.mono ?_; rintro e w2 ⟨rfl, hb2⟩
  have B2 := Lib.hid (belowT B1.out hb2)
  have K2 := Lib.hid (below_blk hb2 K1.out K1.out.lt)
  clear B1 K1 hb2 HC1
  by_cases h0 : ME = 0
  · have q1 : (ME != 0) = false := by simp [h0]
    have HF1 := Lib.hid (HFV.out h0 w2 B2.out)
    have HRW := Lib.hid (HRW.out h0)
    have HFO := Lib.hid (HFO.out h0)
    have HRK := Lib.hid (HRK.out h0)
    have HP0 := Lib.hid (fun w' a b => HP0.out w' a b h0)
    have z0 := K2.out.cell 0 rfl
    have z1 := K2.out.cell 1 rfl
    have z2 := K2.out.cell 2 rfl
    have z3 := K2.out.cell 3 rfl
    have z4 := K2.out.cell 4 rfl
    have z5 := K2.out.cell 5 rfl
    have zl := K2.out.lt
    clear HP1 HFV h0
    go_wp2_with fail
    refine HF1.out.mono ?_; rintro e w3 ⟨⟨tv, rfl, ht⟩, hb3⟩
    have HT := Lib.hid ht
    obtain ⟨bua, bub, ia, ic, rfl, h1, h2⟩ := ht
    have hbu := Lib.hid h1
    have hil := Lib.hid h2
    have B3 := Lib.hid (belowT B2.out hb3)
    have K3 := Lib.hid (below_blk hb3 K2.out K2.out.lt)
    have K4 := Lib.hid (K3.out.alloc (.cells #[.slice bua n.nodes.length bub, .slice ia (islandsE n).length ic] 47))
    have T4 := Lib.hid (Blk.new w3 #[.slice bua n.nodes.length bub, .slice ia (islandsE n).length ic] 47)
    have A4 := Lib.hid (belowA (Below.refl w3.heap.size w3) (.cells #[.slice bua n.nodes.length bub, .slice ia (islandsE n).length ic] 47))
    have B4 := Lib.hid (belowT B3.out A4.out)
    have TV4 := Lib.hid (HT.out.below A4.out)
    have HX := Lib.hid (HFO.out _ bua ia bub ic (h2.below A4.out))
    generalize islandsE n = IL at *
    generalize IL.length = il at *
    clear z0 z1 z2 z3 z4 z5 zl hb3 h1 h2 HFO HF1 K3 K2 B2 B3
    go_upto_region 5 with fail
    generalize hw4 : w3.alloc (.cells #[.slice bua n.nodes.length bub, .slice ia il ic] 47) = w4 at *
    clear hw4
    generalize w3.heap.size = p at *
    have t0 := T4.out.cell 0 rfl
    have t1 := T4.out.cell 1 rfl
    have tl := T4.out.lt
    clear A4
    go_wp2_with fail
    refine HX.out.mono ?_; rintro e w5 ⟨⟨v5, rfl, hv5⟩, hb5⟩
    obtain ⟨a5, c5, rfl⟩ := hv5.slice
    have B5 := Lib.hid (belowT B4.out hb5)
    have K5 := below_blk hb5 K4.out K4.out.lt
    have T5 := below_blk hb5 T4.out T4.out.lt
    have HR := Lib.hid (HRW.out _ w5 B5.out (TV4.out.below hb5))
    clear t0 t1 tl hv5 hb5 HX HRW TV4 B4 K4 T4 hbu hil HT
    generalize (freeE n).length = fl at *
    have z0 := K5.cell 0 rfl
    have z1 := K5.cell 1 rfl
    have z2 := K5.cell 2 rfl
    have z3 := K5.cell 3 rfl
    have z4 := K5.cell 4 rfl
    have z5 := K5.cell 5 rfl
    have zl := K5.lt
    have t0 := T5.cell 0 rfl
    have t1 := T5.cell 1 rfl
    have tl := T5.lt
    clear K5 T5
    go_wp2_with fail
    refine HR.out.mono ?_; rintro e w6 ⟨⟨v6, rfl, ho⟩, hb6⟩
    have HK := Lib.hid (HRK.out v6 w6 (HGO.out _ _ _ ho))
    have B6 := Lib.hid (belowT B5.out hb6)
    obtain ⟨a6, c6, rfl⟩ := ho.slice
    clear z0 z1 z2 z3 z4 z5 zl t0 t1 tl ho hb6 HRK HGO HR B5
    go_wp2_with fail
    refine HK.out.mono ?_; rintro e w7 ⟨rfl, hb7⟩
    have B7 := Lib.hid (belowT B6.out hb7)
    clear hb7 HK B6
    go_wp2_with fail
    go_ret3
    exact HP0.out _ _ _ rfl rfl B7.out
  · have q1 : (ME != 0) = true := by simp [h0]
    go_wp2_with fail
    go_ret3
    exact HP1.out _ _ h0 rfl B2.out
theorem obsRank_ok (x0 : NAddr) (n : Net) (lv : Value) (l : List MIt) (w : World) (hin : MetIn w x0 n lv l) (hn : n.nodes.length ≤ 8) (h : metE n l = 0) :
    Calls Try.prog 11 #[x0.val n, lv] w fun e w' => e = .returned (.tuple #[.int .i64 (rankE n l), .int .i64 ((freeE n).length : Int), .int .i64 0]) ∧ Below w.heap.size w w' :=
  (obsRank_c x0 n lv l w hin hn).mono fun e w' ⟨he, hb⟩ => by rw [if_pos h] at he; exact ⟨he, hb⟩
theorem obsRank_err (x0 : NAddr) (n : Net) (lv : Value) (l : List MIt) (w : World) (hin : MetIn w x0 n lv l) (hn : n.nodes.length ≤ 8) (h : metE n l ≠ 0) :
    Calls Try.prog 11 #[x0.val n, lv] w fun e w' => e = .returned (.tuple #[.int .i64 0, .int .i64 0, .int .i64 (metE n l)]) ∧ Below w.heap.size w w' :=
  (obsRank_c x0 n lv l w hin hn).mono fun e w' ⟨he, hb⟩ => by rw [if_neg h] at he; exact ⟨he, hb⟩
/-- Is the network observable? -/
def obsB (n : Net) (l : List MIt) : Bool := decide (metE n l = 0) && ((rankE n l : Int) == ((freeE n).length : Int))
set_option maxRecDepth 100000 in
set_option maxHeartbeats 2000000 in
theorem observable_c (x0 : NAddr) (n : Net) (lv : Value) (l : List MIt) (w : World) (hin : MetIn w x0 n lv l) (hn : n.nodes.length ≤ 8) :
    Calls Try.prog 17 #[x0.val n, lv] w fun e w' => e = .returned (.tuple #[.bool (obsB n l), .int .i64 (metE n l)]) ∧ Below w.heap.size w w' := by
  have HOK := Lib.hid (fun (h : metE n l = 0) W (hW : Below w.heap.size w W) => obsRank_ok x0 n lv l W (hin.below hW) hn h)
  have HER := Lib.hid (fun (h : metE n l ≠ 0) W (hW : Below w.heap.size w W) => obsRank_err x0 n lv l W (hin.below hW) hn h)
  have HV : Hid (obsB n l = (decide (metE n l = 0) && ((rankE n l : Int) == ((freeE n).length : Int)))) := rfl
  generalize obsB n l = OB at *
  generalize rankE n l = RK at *
  generalize (freeE n).length = FL at *
  obtain ⟨ME, hME⟩ : ∃ x, metE n l = x := ⟨_, rfl⟩
  rw [hME] at HOK HER HV ⊢
  obtain ⟨la2, lcap, rfl⟩ := hin.rd.slice
  obtain ⟨na, nc, sa, sc, ba, bc, ga, gc, la, lc, ta, tc⟩ := x0
  simp only [NAddr.val] at HOK HER ⊢
  have B1 := Lib.hid (belowA (Below.refl w.heap.size w) (.cells #[.slice na n.nodes.length nc, .slice sa n.sws.length sc, .slice ba n.brs.length bc, .slice ga n.gens.length gc, .slice la n.loads.length lc, .slice ta n.stores.length tc] 29))
  have K1 := Lib.hid (Blk.new w #[.slice na n.nodes.length nc, .slice sa n.sws.length sc, .slice ba n.brs.length bc, .slice ga n.gens.length gc, .slice la n.loads.length lc, .slice ta n.stores.length tc] 29)
  generalize n.sws.length = sn at *
  generalize n.brs.length = bn at *
  generalize n.gens.length = gn at *
  generalize n.loads.length = lon at *
  generalize n.stores.length = tn at *
  clear hin hME hn
  by_cases h0 : ME = 0
  · have HC := Lib.hid (HOK.out h0 _ B1.out)
    subst h0
    have HVX : Hid (OB = ((RK : Int) == (FL : Int))) := by show _ = _; rw [HV.out]; rfl
    clear HOK HER HV
    go_enter Try.func17, Try.ntmps17
    go_wp2_with fail
    refine HC.out.mono ?_; rintro e w2 ⟨rfl, hb2⟩
    have B2 := Lib.hid (belowT B1.out hb2)
    clear hb2 B1 K1
    go_wp2_with fail
    go_ret2
    exact ⟨by rw [HVX.out]; rfl, B2.out⟩
  · have HC := Lib.hid (HER.out h0 _ B1.out)
    have HVX : Hid (OB = false) := by show _ = _; rw [HV.out, decide_eq_false h0]; rfl
    have q1 : (ME == 0) = false := by rw [beq_eq_false_iff_ne]; exact h0
    clear HOK HER HV h0
    go_enter Try.func17, Try.ntmps17
    go_wp2_with fail
    refine HC.out.mono ?_; rintro e w2 ⟨rfl, hb2⟩
    have B2 := Lib.hid (belowT B1.out hb2)
    clear hb2 B1 K1
    go_wp2_with fail
    go_ret2
    exact ⟨by rw [HVX.out]; rfl, B2.out⟩
/-- What meter.Free answers. -/
def FreeP (n : Net) (w : World) (e : Ending) (w' : World) : Prop := ∃ v, e = .returned (.tuple #[v, .int .i64 (netE n)]) ∧ (if netE n = 0 then IVal w' v (freeE n) else v = .slice none 0 0) ∧ Below w.heap.size w w'
set_option maxRecDepth 100000 in
set_option maxHeartbeats 2000000 in
theorem free_c (x0 : NAddr) (n : Net) (w : World) (hr : NetR w x0 n) (hwf : n.Wf) :
    Calls Try.prog 12 #[x0.val n] w (FreeP n w) := by
  have HOF := Lib.hid (fun W (hW : Below w.heap.size w W) => topOf_c x0 n W (hr.below hW) hwf)
  have HFO := Lib.hid (fun (h : netE n = 0) W (ba ia : Option Addr) (bn bc ic : Nat) (hW : IVal W (.slice ia (islandsE n).length ic) (islandsE n)) => freeOf_c ba ia bn bc ic (islandsE n) W hW (by have := il_le (netE_ok h); have := (netE_ok h).nn; omega))
  have HFE : Hid (freeL (islandsE n) = freeE n) := rfl
  rw [HFE.out] at HFO
  have HP1 : Hid (∀ w' (ne : Int), netE n ≠ 0 → ne = netE n → Below w.heap.size w w' → FreeP n w (.returned (.tuple #[.slice none 0 0, .int .i64 ne])) w') := fun w' ne h e hb => ⟨.slice none 0 0, by rw [e], by rw [if_neg h], hb⟩
  have HP0 : Hid (∀ w' v, netE n = 0 → Hid (IVal w' v (freeE n)) → Below w.heap.size w w' → FreeP n w (.returned (.tuple #[v, .int .i64 0])) w') := fun w' v h hv hb => ⟨v, by rw [h], by rw [if_pos h]; exact hv.out, hb⟩
  have HTP : Hid (∀ W e w', TopP n W e w' → ∃ ba bn bc ia m ic, e = .returned (.tuple #[.agg #[.slice ba bn bc, .slice ia m ic], .int .i64 (netE n)]) ∧ (netE n = 0 → m = (islandsE n).length ∧ IVal w' (.slice ia m ic) (islandsE n)) ∧ Below W.heap.size W w') := fun W e w' ⟨ba, bn, bc, ia, m, ic, h1, h2, h3⟩ => by
    refine ⟨ba, bn, bc, ia, m, ic, h1, fun h => ?_, h3⟩
    obtain ⟨_, _, _, _, e, _, k⟩ := h2 h
    simp only [Value.agg.injEq, Array.mk.injEq, List.cons.injEq, Value.slice.injEq, and_true] at e
    obtain ⟨_, rfl, rfl, rfl⟩ := e
    exact ⟨rfl, k⟩
  generalize FreeP n w = FP at *
  generalize TopP n = TP at *
  generalize freeE n = FE at *
  generalize islandsE n = IL at *
  generalize hil : IL.length = il at *
  obtain ⟨NE, hNE⟩ : ∃ x, netE n = x := ⟨_, rfl⟩
  rw [hNE] at HFO HP1 HP0 HTP
  obtain ⟨na, nc, sa, sc, ba, bc, ga, gc, la, lc, ta, tc⟩ := x0
  simp only [NAddr.val] at HOF ⊢
  have B1 := Lib.hid (belowA (Below.refl w.heap.size w) (.cells #[.slice na n.nodes.length nc, .slice sa n.sws.length sc, .slice ba n.brs.length bc, .slice ga n.gens.length gc, .slice la n.loads.length lc, .slice ta n.stores.length tc] 29))
  have K1 := Lib.hid (Blk.new w #[.slice na n.nodes.length nc, .slice sa n.sws.length sc, .slice ba n.brs.length bc, .slice ga n.gens.length gc, .slice la n.loads.length lc, .slice ta n.stores.length tc] 29)
  generalize n.sws.length = sn at *
  generalize n.brs.length = bn at *
  generalize n.gens.length = gn at *
  generalize n.loads.length = lon at *
  generalize n.stores.length = tn at *
  have HC := Lib.hid (HOF.out _ B1.out)
  clear hr hwf hNE HOF hil
  go_enter Try.func12, Try.ntmps12
  go_wp2_with fail
  refine HC.out.mono ?_; intro e w2 htp
  obtain ⟨bua, bun, bub, ia, m, ic, rfl, h1, hb2⟩ := HTP.out _ _ _ htp
  have H1 := Lib.hid h1
  have B2 := Lib.hid ((belowT B1.out hb2).alloc (belowT B1.out hb2).size (.cells #[.slice bua bun bub, .slice ia m ic] 47))
  have T2 := Lib.hid (Blk.new w2 #[.slice bua bun bub, .slice ia m ic] 47)
  have A2 := Lib.hid (belowA (Below.refl w2.heap.size w2) (.cells #[.slice bua bun bub, .slice ia m ic] 47))
  clear h1 hb2 htp HTP HC B1 K1
  by_cases h0 : NE = 0
  · subst h0
    obtain ⟨rfl, hv⟩ := H1.out rfl
    have HX := Lib.hid (HFO.out rfl _ bua ia bun bub ic (hv.below A2.out))
    have HP9 := Lib.hid (fun w' v => HP0.out w' v rfl)
    clear hv H1 HP1 HFO A2 HP0
    go_upto_region 4 with fail
    generalize hw4 : w2.alloc (.cells #[.slice bua bun bub, .slice ia m ic] 47) = w4 at *
    clear hw4
    have t0 := T2.out.cell 0 rfl
    have t1 := T2.out.cell 1 rfl
    have tl := T2.out.lt
    clear T2
    go_wp2_with fail
    refine HX.out.mono ?_; rintro e w5 ⟨⟨v5, rfl, hv5⟩, hb5⟩
    have B5 := Lib.hid (belowT B2.out hb5)
    have HV5 := Lib.hid hv5
    clear hb5 B2 t0 t1 tl HX hv5
    go_wp2_with fail
    exact HP9.out _ _ HV5 B5.out
  · have q1 : (NE != 0) = true := by simp [h0]
    have HP1 := Lib.hid (fun w' => HP1.out w' NE h0 rfl)
    clear h0 H1 HP0 HFO A2 T2
    go_wp2_with fail
    exact HP1.out _ B2.out
/-- How many meters are missing. -/
def missE (n : Net) (l : List MIt) : Int := if metE n l = 0 then ((freeE n).length : Int) - (rankE n l : Int) else 0
set_option maxRecDepth 100000 in
set_option maxHeartbeats 2000000 in
theorem missing_c (x0 : NAddr) (n : Net) (lv : Value) (l : List MIt) (w : World) (hin : MetIn w x0 n lv l) (hn : n.nodes.length ≤ 8) :
    Calls Try.prog 21 #[x0.val n, lv] w fun e w' => e = .returned (.tuple #[.int .i64 (missE n l), .int .i64 (metE n l)]) ∧ Below w.heap.size w w' := by
  have HOK := Lib.hid (fun (h : metE n l = 0) W (hW : Below w.heap.size w W) => obsRank_ok x0 n lv l W (hin.below hW) hn h)
  have HER := Lib.hid (fun (h : metE n l ≠ 0) W (hW : Below w.heap.size w W) => obsRank_err x0 n lv l W (hin.below hW) hn h)
  have HV : Hid (missE n l = if metE n l = 0 then ((freeE n).length : Int) - (rankE n l : Int) else 0) := rfl
  have hle := (Lin.rankL_le (freeE n).length (rowsE n l)).1
  have hl2 : (freeE n).length ≤ 1000000 ∨ metE n l ≠ 0 := by
    by_cases h : metE n l = 0
    · exact Or.inl (by have := freeE_le (netE_ok (metE_zero.1 h).1); omega)
    · exact Or.inr h
  change rankE n l ≤ _ at hle
  generalize missE n l = OB at *
  generalize rankE n l = RK at *
  generalize (freeE n).length = FL at *
  obtain ⟨ME, hME⟩ : ∃ x, metE n l = x := ⟨_, rfl⟩
  rw [hME] at HOK HER HV hl2 ⊢
  obtain ⟨la2, lcap, rfl⟩ := hin.rd.slice
  obtain ⟨na, nc, sa, sc, ba, bc, ga, gc, la, lc, ta, tc⟩ := x0
  simp only [NAddr.val] at HOK HER ⊢
  have B1 := Lib.hid (belowA (Below.refl w.heap.size w) (.cells #[.slice na n.nodes.length nc, .slice sa n.sws.length sc, .slice ba n.brs.length bc, .slice ga n.gens.length gc, .slice la n.loads.length lc, .slice ta n.stores.length tc] 29))
  have K1 := Lib.hid (Blk.new w #[.slice na n.nodes.length nc, .slice sa n.sws.length sc, .slice ba n.brs.length bc, .slice ga n.gens.length gc, .slice la n.loads.length lc, .slice ta n.stores.length tc] 29)
  generalize n.sws.length = sn at *
  generalize n.brs.length = bn at *
  generalize n.gens.length = gn at *
  generalize n.loads.length = lon at *
  generalize n.stores.length = tn at *
  clear hin hME hn
  by_cases h0 : ME = 0
  · have HC := Lib.hid (HOK.out h0 _ B1.out)
    have hFL : FL ≤ 1000000 := hl2.elim id (fun h => absurd h0 h)
    subst h0
    have HVX : Hid (OB = (FL : Int) - (RK : Int)) := by show _ = _; rw [HV.out]; rfl
    clear HOK HER HV hl2
    go_enter Try.func21, Try.ntmps21
    go_wp2_with fail
    refine HC.out.mono ?_; rintro e w2 ⟨rfl, hb2⟩
    have B2 := Lib.hid (belowT B1.out hb2)
    clear hb2 B1 K1
    go_wp2_with fail
    go_ret2
    exact ⟨by rw [HVX.out]; rfl, B2.out⟩
  · have HC := Lib.hid (HER.out h0 _ B1.out)
    have HVX : Hid (OB = 0) := by show _ = _; rw [HV.out, if_neg h0]
    clear HOK HER HV h0 hl2 hle
    go_enter Try.func21, Try.ntmps21
    go_wp2_with fail
    refine HC.out.mono ?_; rintro e w2 ⟨rfl, hb2⟩
    have B2 := Lib.hid (belowT B1.out hb2)
    clear hb2 B1 K1
    go_wp2_with fail
    go_ret2
    exact ⟨by rw [HVX.out]; rfl, B2.out⟩
end Go.Proofs.Ythcddboeejbncaa
