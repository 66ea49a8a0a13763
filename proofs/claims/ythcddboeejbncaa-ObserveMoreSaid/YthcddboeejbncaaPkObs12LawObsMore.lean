/- append(append([]api.MeterItem{}, l...), m), append(append([]api.MeterItem{}, l...), ps...): told ahead, in every order. What the laws on observability share. The law ObserveMore. -/
import Derived.Test.YthcddboeejbncaaPkObs11Res1
import Derived.Deep.AppendSrc
import Derived.Deep.CutRange
import Derived.Deep.RegionHeldLaw
namespace Go.Proofs.Ythcddboeejbncaa
open Go.RowKit

abbrev XE : Obj := .cells #[] 33
abbrev XM (m : MIt) : Obj := .cells #[.int .i64 m.kind, .string m.name, .string m.value, .int .i64 m.weight] 33
abbrev AppT (v x : Value) (W : World) (v' : Value) (W' : World) : Prop := ∀ ty, (Builtin.append_ #[30, 30] ty #[v, x]).run Try.prog W = .ok v' W'
/-- An append of any list that may be read to an own list that is not nil. -/
theorem own_at {base g n m c0 : Nat} {W : World} {h' : Value} {xs cs : List Value} (h : W.ownsRow base 33 4 (.slice (some ⟨g, 0, none⟩) n c0) n xs) (hb : base ≤ W.heap.size) (hx : Reads W h' m cs) (hn : cs.length = m * 4) (h1 : ∀ u, u ∈ cs → u.oneCell' = true) (hl : n + m ≤ 100000) :
    ∃ g' c' W', AppT (.slice (some ⟨g, 0, none⟩) n c0) h' W (.slice (some ⟨g', 0, none⟩) (n + m) c') W' ∧ W'.ownsRow base 33 4 (.slice (some ⟨g', 0, none⟩) (n + m) c') (n + m) (xs ++ cs) ∧ Below base W W' ∧ W.grownBy W' (some g) := by
  obtain ⟨i0, hi0, hz0, hz1, hz2⟩ := info_parts infoM
  have key : ∀ ad c, (∀ j u, cs[j]? = some u → W.cell? ((ad : Addr).add j) = some u) → ∃ g' c' W', AppT (.slice (some ⟨g, 0, none⟩) n c0) (.slice (some ad) m c) W (.slice (some ⟨g', 0, none⟩) (n + m) c') W' ∧ W'.ownsRow base 33 4 (.slice (some ⟨g', 0, none⟩) (n + m) c') (n + m) (xs ++ cs) ∧ Below base W W' ∧ W.grownBy W' (some g) := by
    intro ad c hc
    obtain ⟨v', w', a1, a2, a3, a4⟩ := run_append_own (P := Try.prog) W base 30 0 33 i0 _ 4 48 Try.underlying30 hi0 hz0 hz1 hz2 rfl (by decide) _ n xs h ad m c cs hn hc h1 (by unfold maxLen; omega) (by omega) hb
    rcases a2.2 with ⟨e, _⟩ | ⟨g', c', cur, e, _⟩
    · have := (a4.1 e).1; simp at this
    · subst e
      exact ⟨g', c', w', fun ty => a1, a2, Below.grown ⟨rfl, rfl, rfl, Nat.le_refl _, fun _ _ => rfl⟩ a3 hb (fun k e => row_own h k e), a3⟩
  rcases hx with ⟨rfl, hc, a', cap, rfl⟩ | ⟨b, off, cap, rfl, _, _, _, hcc⟩
  · cases a' with
    | some ad => exact key ad cap (fun j u hj => by rw [hc] at hj; simp at hj)
    | none =>
      have hnc : n ≤ c0 := by
        rcases h.2 with ⟨e, _⟩ | ⟨_, _, _, e, _, _, e4, _⟩
        · simp at e
        · simp only [Value.slice.injEq] at e; omega
      have hr := fun ty => run_append_room_src (P := Try.prog) W 30 30 ty 33 i0 Try.underlying30 hi0 g 0 n c0 (.slice none 0 cap) 0 [] (Src.ofNil W (e' := 33) Try.underlying30 cap) (by omega) (fun j hj => absurd hj (Nat.not_lt_zero _)) (fun j hj => absurd hj (Nat.not_lt_zero _))
      exact ⟨g, c0, W, hr, by rw [hc, List.append_nil]; exact h, ⟨rfl, rfl, rfl, Nat.le_refl _, fun _ _ => rfl⟩, ⟨rfl, rfl, rfl, Nat.le_refl _, fun _ _ _ => rfl⟩⟩
  · exact key ⟨b, off, none⟩ cap (cells_add hcc)
theorem Blk.grow2 {w w' : World} {g b : Nat} {c : Array Value} {t : TypeId} (h : Blk w b c t) (k : w.grownBy w' (some g)) (hne : b ≠ g) : Blk w' b c t := by
  unfold Blk at *
  rw [k.block b (Array.getElem?_eq_some_iff.1 h).1 (fun e => hne (Option.some.inj e))]; exact h
/-- What the first append and the second one do, in one order: the first at W1 with the empty row b, the second at W2 (u or u with one block more) with the source at s. -/
def App2T (w : World) (oa : Option Addr) (N oc : Nat) (W1 : World) (b : Nat) (src : World → Value) (Wx : World → World) (L : List MIt) : Prop :=
  ∃ g c u g2 c2 u2, Hid (AppT (.slice (some ⟨b, 0, none⟩) 0 0) (.slice oa N oc) W1 (.slice (some ⟨g, 0, none⟩) N c) u) ∧ Hid (AppT (.slice (some ⟨g, 0, none⟩) N c) (src u) (Wx u) (.slice (some ⟨g2, 0, none⟩) L.length c2) u2) ∧ Hid (Below w.heap.size w u) ∧ Hid (Below w.heap.size w u2) ∧ Hid (OwnS u2 (.slice (some ⟨g2, 0, none⟩) L.length c2) L)
theorem app_first {w : World} {oa : Option Addr} {N oc b : Nat} {l : List MIt} {W1 : World} (hr : Reads w (.slice oa N oc) N (flat MIt.cells l)) (hN : l.length = N) (hl : N ≤ 1000) (hb1 : Below w.heap.size w W1) (hB : Blk W1 b #[] 33) (hge : w.heap.size ≤ b) :
    ∃ g c u, AppT (.slice (some ⟨b, 0, none⟩) 0 0) (.slice oa N oc) W1 (.slice (some ⟨g, 0, none⟩) N c) u ∧ u.ownsRow w.heap.size 33 4 (.slice (some ⟨g, 0, none⟩) N c) N (flat MIt.cells l) ∧ Below w.heap.size w u ∧ Below w.heap.size W1 u ∧ W1.grownBy u (some b) := by
  obtain ⟨g, c, u, h1, h2, h3, h4⟩ := own_at (n := 0) (xs := []) (owns_lit hB hge 4 0 rfl (by decide)) hb1.size (hr.below hb1) (by rw [mit_flat_len, hN]) (mit_one l) (by omega)
  rw [Nat.zero_add, List.nil_append] at h2
  rw [Nat.zero_add] at h1
  exact ⟨g, c, u, h1, h2, hb1.trans h3, h3, h4⟩
theorem app3 (w : World) (oa : Option Addr) (N oc : Nat) (l : List MIt) (m : MIt) (hr : Reads w (.slice oa N oc) N (flat MIt.cells l)) (hN : l.length = N) (hl : N ≤ 1000) :
    App2T w oa N oc (w.alloc XE).drew w.heap.size (fun u => .slice (some ⟨u.heap.size, 0, none⟩) 1 1) (fun u => u.alloc (XM m)) (l ++ [m]) ∧
    App2T w oa N oc ((w.alloc XE).alloc (XM m)).drew w.heap.size (fun _ => .slice (some ⟨w.heap.size + 1, 0, none⟩) 1 1) (fun u => u) (l ++ [m]) ∧
    App2T w oa N oc ((w.alloc (XM m)).alloc XE).drew (w.heap.size + 1) (fun _ => .slice (some ⟨w.heap.size, 0, none⟩) 1 1) (fun u => u) (l ++ [m]) := by
  have fin : ∀ {W : World} {g c xb : Nat}, W.ownsRow w.heap.size 33 4 (.slice (some ⟨g, 0, none⟩) N c) N (flat MIt.cells l) → Below w.heap.size w W → Blk W xb #[.int .i64 m.kind, .string m.name, .string m.value, .int .i64 m.weight] 33 →
      ∃ g2 c2 u2, AppT (.slice (some ⟨g, 0, none⟩) N c) (.slice (some ⟨xb, 0, none⟩) 1 1) W (.slice (some ⟨g2, 0, none⟩) (l ++ [m]).length c2) u2 ∧ Below w.heap.size w u2 ∧ OwnS u2 (.slice (some ⟨g2, 0, none⟩) (l ++ [m]).length c2) (l ++ [m]) := by
    intro W g c xb h1 h2 h3
    have hx : Reads W (.slice (some ⟨xb, 0, none⟩) 1 1) 1 m.cells := Or.inr ⟨xb, 0, 1, rfl, Nat.le_refl _, by decide, h3.lt, fun j u hj => by rw [Nat.zero_add]; exact h3.cell j (by rw [← Array.getElem?_toList]; exact hj)⟩
    obtain ⟨g2, c2, u2, k1, k2, k3, _⟩ := own_at h1 h2.size hx rfl (fun u hu => mit_one [m] u (by unfold flat; simpa using hu)) (by omega)
    have e : (l ++ [m]).length = N + 1 := by simp [hN]
    refine ⟨g2, c2, u2, by rw [e]; exact k1, h2.trans k3, w.heap.size, ?_⟩
    unfold OwnM
    rw [e, show flat MIt.cells (l ++ [m]) = flat MIt.cells l ++ m.cells by simp [flat]]
    exact k2
  have B0 := Below.refl w.heap.size w
  have hs : ∀ o : Obj, (w.alloc o).heap.size = w.heap.size + 1 := fun o => World.size_alloc _ _
  refine ⟨?_, ?_, ?_⟩
  · obtain ⟨g, c, u, h1, h2, h3, _, _⟩ := app_first (W1 := (w.alloc XE).drew) hr hN hl (below_drew (belowA B0 XE)) (Blk.new w _ _).drew (Nat.le_refl _)
    obtain ⟨g2, c2, u2, k1, k2, k3⟩ := fin (ownsRow_below h2 (belowA (Below.refl _ _) (XM m))) (h3.alloc h3.size (XM m)) (Blk.new u _ _)
    exact ⟨g, c, u, g2, c2, u2, h1, k1, h3, k2, k3⟩
  · have hx : Blk ((w.alloc XE).alloc (XM m)).drew (w.heap.size + 1) #[.int .i64 m.kind, .string m.name, .string m.value, .int .i64 m.weight] 33 := (Blk.new2 w XE _ _).drew
    obtain ⟨g, c, u, h1, h2, h3, _, h5⟩ := app_first (W1 := ((w.alloc XE).alloc (XM m)).drew) hr hN hl (below_drew (belowA (belowA B0 XE) (XM m))) ((Blk.new w _ _).alloc _).drew (Nat.le_refl _)
    obtain ⟨g2, c2, u2, k1, k2, k3⟩ := fin h2 h3 (hx.grow2 h5 (by omega))
    exact ⟨g, c, u, g2, c2, u2, h1, k1, h3, k2, k3⟩
  · have hx : Blk ((w.alloc (XM m)).alloc XE).drew w.heap.size #[.int .i64 m.kind, .string m.name, .string m.value, .int .i64 m.weight] 33 := ((Blk.new w _ _).alloc XE).drew
    obtain ⟨g, c, u, h1, h2, h3, _, h5⟩ := app_first (W1 := ((w.alloc (XM m)).alloc XE).drew) hr hN hl (below_drew (belowA (belowA B0 (XM m)) XE)) (Blk.new2 w (XM m) _ _).drew (Nat.le_succ _)
    obtain ⟨g2, c2, u2, k1, k2, k3⟩ := fin h2 h3 (hx.grow2 h5 (by omega))
    exact ⟨g, c, u, g2, c2, u2, h1, k1, h3, k2, k3⟩
/-- With a list as the second source. -/
theorem app2 (w : World) (oa pa : Option Addr) (N oc M pc : Nat) (l ps : List MIt) (hr : Reads w (.slice oa N oc) N (flat MIt.cells l)) (hN : l.length = N) (hl : N ≤ 1000) (hp : Reads w (.slice pa M pc) M (flat MIt.cells ps)) (hM : ps.length = M) (hm : M ≤ 1000) :
    App2T w oa N oc (w.alloc XE).drew w.heap.size (fun _ => .slice pa M pc) (fun u => u) (l ++ ps) := by
  obtain ⟨g, c, u, h1, h2, h3, _, _⟩ := app_first (W1 := (w.alloc XE).drew) hr hN hl (below_drew (belowA (Below.refl _ _) XE)) (Blk.new w _ _).drew (Nat.le_refl _)
  obtain ⟨g2, c2, u2, k1, k2, k3, _⟩ := own_at h2 h3.size (hp.below h3) (by rw [mit_flat_len, hM]) (mit_one ps) (by omega)
  have e : (l ++ ps).length = N + M := by simp [hN, hM]
  refine ⟨g, c, u, g2, c2, u2, h1, by rw [e]; exact k1, h3, h3.trans k3, w.heap.size, ?_⟩
  unfold OwnM
  rw [e, show flat MIt.cells (l ++ ps) = flat MIt.cells l ++ flat MIt.cells ps by simp [flat]]
  exact k2
end Go.Proofs.Ythcddboeejbncaa
namespace Go.Proofs.Ythcddboeejbncaa
open Go.RowKit

theorem Reads.takeM {w : World} {a : Option Addr} {n cap k : Nat} {l : List MIt} (h : Reads w (.slice a n cap) n (flat MIt.cells l)) (hn : l.length = n) (hk : k ≤ n) : Reads w (.slice a k cap) k (flat MIt.cells (l.take k)) := by
  rcases h with ⟨e1, e2, a', c', e⟩ | ⟨b, off, c', e, e2, e3, e4, e5⟩
  · have hl : l = [] := List.eq_nil_of_length_eq_zero (by omega)
    subst hl
    exact Or.inl ⟨by omega, by simp [flat], a, cap, by rw [show k = 0 by omega]⟩
  · simp only [Value.slice.injEq] at e
    obtain ⟨rfl, _, rfl⟩ := e
    refine Or.inr ⟨b, off, cap, rfl, by omega, by omega, e4, fun j u hj => e5 j u ?_⟩
    have e : flat MIt.cells l = flat MIt.cells (l.take k) ++ flat MIt.cells (l.drop k) := by
      unfold flat
      rw [← List.flatMap_append, List.take_append_drop]
    rw [e, List.getElem?_append_left (List.getElem?_eq_some_iff.1 hj).1]; exact hj
theorem rowsE_snoc2 (n : Net) (own : List MIt) (m : MIt) : rowsE n (own ++ [m]) = rowsE n own ++ [rowE n m] := by unfold rowsE; simp
/-- What observe.Rank answers, in one form. -/
def rkA (n : Net) (l : List MIt) : Int := if metE n l = 0 then (rankE n l : Int) else 0
def rkB (n : Net) (l : List MIt) : Int := if metE n l = 0 then ((freeE n).length : Int) else 0
theorem obsRank_u (x0 : NAddr) (n : Net) (lv : Value) (l : List MIt) (w : World) (hin : MetIn w x0 n lv l) (hn : n.nodes.length ≤ 8) :
    Calls Try.prog 11 #[x0.val n, lv] w fun e w' => e = .returned (.tuple #[.int .i64 (rkA n l), .int .i64 (rkB n l), .int .i64 (metE n l)]) ∧ Below w.heap.size w w' :=
  (obsRank_c x0 n lv l w hin hn).mono fun e w' ⟨he, hb⟩ => by
    by_cases h : metE n l = 0
    · rw [if_pos h] at he
      exact ⟨by rw [he]; unfold rkA rkB; rw [if_pos h, if_pos h, h], hb⟩
    · rw [if_neg h] at he
      exact ⟨by rw [he]; unfold rkA rkB; rw [if_neg h, if_neg h], hb⟩
theorem rkA_bd (n : Net) (l : List MIt) : 0 ≤ rkA n l ∧ rkA n l ≤ 1000000 := by
  unfold rkA
  split
  · rename_i h
    have h1 := (Lin.rankL_le (freeE n).length (rowsE n l)).1
    have h2 := freeE_le (netE_ok (metE_zero.1 h).1)
    have h3 := (netE_ok (metE_zero.1 h).1).nn
    unfold rankE
    omega
  · omega
theorem smallR_nodes {n : Net} {l : List MIt} {vs : List (List ByteArray)} (h : smallR n l vs = true) : n.nodes.length ≤ 8 := by
  unfold smallR at h
  rw [Bool.and_eq_true, decide_eq_true_iff] at h
  exact h.1.1
theorem rank_more (n : Net) (l : List MIt) (m : MIt) (h : metE n l = 0) (h2 : metE n (l ++ [m]) = 0) : rkA n (l ++ [m]) = rkA n l ∨ rkA n (l ++ [m]) = rkA n l + 1 := by
  unfold rkA rankE
  rw [if_pos h, if_pos h2, rowsE_snoc2]
  have := Lin.rankL_snoc (freeE n).length (rowsE n l) (rowE n m)
  omega
theorem rank_bounds (n : Net) (l : List MIt) : rankE n l ≤ (freeE n).length ∧ rankE n l ≤ l.length := by
  have h := Lin.rankL_le (freeE n).length (rowsE n l)
  rw [rowsE_len] at h
  exact h
end Go.Proofs.Ythcddboeejbncaa
namespace Go.Proofs.Ythcddboeejbncaa
open Go.RowKit

set_option maxRecDepth 100000 in
set_option maxHeartbeats 16000000 in
theorem lawObsMore_c (x0 : NAddr) (n : Net) (lv : Value) (l0 : List MIt) (m : MIt) (w : World) (hr : NetR w x0 n) (hwf : n.Wf) (hlv : Reads w lv l0.length (flat MIt.cells l0)) (hmw : ∀ x ∈ l0, x.Wf) (hm : m.Wf) :
    Calls Try.prog 3 #[x0.val n, lv, .agg #[.int .i64 m.kind, .string m.name, .string m.value, .int .i64 m.weight]] w fun e w' => e = .returned (.bool true) ∧ Below w.heap.size w w' := by
  obtain ⟨la2, lcap, rfl⟩ := hlv.slice
  obtain ⟨N0, hN0⟩ : ∃ k, l0.length = k := ⟨_, rfl⟩
  have HN0 := Lib.hid hN0
  have hcap : 0 < N0 → N0 ≤ lcap := fun h => by
    obtain ⟨_, _, _, hv, h1, _⟩ := hlv.addr (by omega)
    simp only [Value.slice.injEq] at hv
    obtain ⟨_, _, rfl⟩ := hv
    omega
  have hmx : N0 ≤ 9223372036854775807 := by
    rcases hlv with ⟨h, _⟩ | ⟨_, _, _, _, _, h, _⟩ <;> omega
  have HIN := Lib.hid (fun (l : List MIt) v W (hW : Below w.heap.size w W) (h : Reads W v l.length (flat MIt.cells l)) (hs : ∀ x ∈ l, x ∈ l0 ∨ x = m) (hk : l.length ≤ 10000) => (show MetIn W x0 n v l from ⟨hr.below hW, hwf, h, fun x hx => (hs x hx).elim (hmw x) (fun e => e ▸ hm), hk⟩))
  have HSM := Lib.hid (fun (l : List MIt) v W (h : Reads W v l.length (flat MIt.cells l)) => smallG_c x0 n v (.slice none 0 0) l [] W h (VVal.nil W))
  have HFR := Lib.hid (fun W (hW : Below w.heap.size w W) => free_c x0 n W (hr.below hW) hwf)
  have HRK := Lib.hid (fun (l : List MIt) v W (hn : n.nodes.length ≤ 8) (h : MetIn W x0 n v l) => obsRank_u x0 n v l W h hn)
  rw [hN0] at hlv ⊢
  have HL0 := Lib.hid hlv
  clear hr hwf hmw hm hN0 hlv
  obtain ⟨na, nc, sa, sc, ba, bc, ga, gc, la, lc, ta, tc⟩ := x0
  simp only [NAddr.val] at HSM HFR HRK ⊢
  have HNN : Hid (∀ l, smallR n l [] = true → n.nodes.length ≤ 8) := fun l h => smallR_nodes h
  have B1 := Lib.hid (belowA (belowA (Below.refl w.heap.size w) (.cells #[.slice na n.nodes.length nc, .slice sa n.sws.length sc, .slice ba n.brs.length bc, .slice ga n.gens.length gc, .slice la n.loads.length lc, .slice ta n.stores.length tc] 29)) (XM m))
  have K1 := Lib.hid ((Blk.new w #[.slice na n.nodes.length nc, .slice sa n.sws.length sc, .slice ba n.brs.length bc, .slice ga n.gens.length gc, .slice la n.loads.length lc, .slice ta n.stores.length tc] 29).alloc (XM m))
  have M1 := Lib.hid (Blk.new2 w (.cells #[.slice na n.nodes.length nc, .slice sa n.sws.length sc, .slice ba n.brs.length bc, .slice ga n.gens.length gc, .slice la n.loads.length lc, .slice ta n.stores.length tc] 29) #[.int .i64 m.kind, .string m.name, .string m.value, .int .i64 m.weight] 33)
  generalize n.nodes.length = nn at *
  generalize n.sws.length = sn at *
  generalize n.brs.length = bn at *
  generalize n.gens.length = gn at *
  generalize n.loads.length = lon at *
  generalize n.stores.length = tn at *
  have HLV := Lib.hid (HL0.out.below B1.out)
  go_enter Try.func3, Try.ntmps3
  go_upto_region 1 with fail
  generalize hw1 : (w.alloc (.cells #[.slice na nn nc, .slice sa sn sc, .slice ba bn bc, .slice ga gn gc, .slice la lon lc, .slice ta tn tc] 29)).alloc (.cells #[.int .i64 m.kind, .string m.name, .string m.value, .int .i64 m.weight] 33) = w1 at *
  clear hw1
  obtain ⟨p, hp⟩ : ∃ p, w.heap.size = p := ⟨_, rfl⟩
  have HPP := Lib.hid hp
  rw [hp] at K1 M1 ⊢
  clear hp
  go_cut [1] from 15 to 19 (fun s wx => ∃ (l' : List MIt) (N : Nat), l'.length = N ∧ N ≤ 6 ∧ (∀ x ∈ l', x ∈ l0) ∧ s = .slice la2 N lcap ∧ Hid (Reads w1 (.slice la2 N lcap) N (flat MIt.cells l')) ∧ w1 = wx)
  case first =>
    by_cases h6 : 6 < N0
    · have hc6 : 6 ≤ lcap := by have := hcap (by omega); omega
      have hm8 : (min (N0 : Int) 6).toNat = 6 := by omega
      have hlen : (l0.take 6).length = 6 := by rw [List.length_take, HN0.out]; omega
      have HT : Hid (Reads w1 (.slice la2 6 lcap) 6 (flat MIt.cells (l0.take 6))) := Reads.takeM HLV.out HN0.out (Nat.le_of_lt h6)
      have HMT : Hid (∀ x ∈ l0.take 6, x ∈ l0) := fun x hx => List.mem_of_mem_take hx
      go_wp2_with fail
      go_meet
      exact ⟨l0.take 6, 6, hlen, by omega, HMT.out, rfl, HT, rfl⟩
    · have hcc : N0 ≤ lcap := by
        rcases Nat.eq_zero_or_pos N0 with h | h
        · omega
        · exact hcap h
      have hm8 : (min (N0 : Int) 6).toNat = N0 := by omega
      have HMT : Hid (∀ x ∈ l0, x ∈ l0) := fun x hx => hx
      go_wp2_with fail
      go_meet
      exact ⟨l0, N0, HN0.out, by omega, HMT.out, rfl, HLV, rfl⟩
  case rest =>
    obtain ⟨l, N, hN, hN6, hsub, rfl, HLR, rfl⟩ := hcut
    have HN := Lib.hid hN
    have HLL : Hid (Reads w1 (.slice la2 N lcap) l.length (flat MIt.cells l)) := by show Reads _ _ _ _; rw [hN]; exact HLR.out
    have HS0 := Lib.hid (fun W (hW : Below w1.heap.size w1 W) => HSM.out l _ W (HLL.out.below hW))
    have HIL := Lib.hid (fun W (hW : Below w1.heap.size w1 W) => HIN.out l _ W (belowT B1.out hW) (HLL.out.below hW) (fun x hx => Or.inl (hsub x hx)) (by omega))
    have HI2 := Lib.hid (fun v W (hW : Below w1.heap.size w1 W) (h : Reads W v (l ++ [m]).length (flat MIt.cells (l ++ [m]))) => HIN.out (l ++ [m]) v W (belowT B1.out hW) h (fun x hx => by
      rcases List.mem_append.1 hx with h | h
      · exact Or.inl (hsub x h)
      · exact Or.inr (List.mem_singleton.1 h)) (by simp; omega))
    clear hN hsub HL0 HLV hcap hmx HN0 HSM HIN
    go_wp2_with fail
    refine (observeWorks_c w1).mono ?_; rintro e w2 ⟨rfl, hb2⟩
    have E2 := Lib.hid hb2
    have K2 := Lib.hid (below_blk hb2 K1.out K1.out.lt)
    have HX := Lib.hid (HS0.out w2 hb2)
    clear hb2 HS0
    have z0 := K2.out.cell 0 rfl
    have z1 := K2.out.cell 1 rfl
    have z2 := K2.out.cell 2 rfl
    have z3 := K2.out.cell 3 rfl
    have z4 := K2.out.cell 4 rfl
    have z5 := K2.out.cell 5 rfl
    have zl := K2.out.lt
    go_wp2_with fail
    refine HX.out.mono ?_; rintro e w3 ⟨rfl, hb3⟩
    have E3 := Lib.hid (belowT E2.out hb3)
    have K3 := Lib.hid (below_blk hb3 K2.out K2.out.lt)
    clear z0 z1 z2 z3 z4 z5 zl hb3 HX K2 E2
    cases hsm : smallR n l [] with
    | false =>
      have B3 := Lib.hid (belowT B1.out E3.out)
      clear hsm
      go_wp2_with fail
      go_ret
      exact ⟨rfl, B3.out⟩
    | true =>
      have hn8 := HNN.out l hsm
      have HX := Lib.hid (HRK.out l _ w3 hn8 (HIL.out w3 E3.out))
      have HRK2 := Lib.hid (fun v W h => HRK.out (l ++ [m]) v W hn8 h)
      clear hsm hn8 HRK HIL HNN
      have z0 := K3.out.cell 0 rfl
      have z1 := K3.out.cell 1 rfl
      have z2 := K3.out.cell 2 rfl
      have z3 := K3.out.cell 3 rfl
      have z4 := K3.out.cell 4 rfl
      have z5 := K3.out.cell 5 rfl
      have zl := K3.out.lt
      go_wp2_with fail
      refine HX.out.mono ?_; rintro e w4 ⟨rfl, hb4⟩
      have E4 := Lib.hid (belowT E3.out hb4)
      have K4 := Lib.hid (below_blk hb4 K3.out K3.out.lt)
      clear z0 z1 z2 z3 z4 z5 zl hb4 HX K3 E3
      by_cases h0 : metE n l = 0
      · have hA : rkA n l = (rankE n l : Int) := by unfold rkA; rw [if_pos h0]
        have hB : rkB n l = ((freeE n).length : Int) := by unfold rkB; rw [if_pos h0]
        obtain ⟨hr1, hr2⟩ := rank_bounds n l
        have hr3 := (rkA_bd n l).2
        have hr4 := (rkA_bd n (l ++ [m]))
        have hfn := freeE_le (netE_ok (metE_zero.1 h0).1)
        have hfn2 := (netE_ok (metE_zero.1 h0).1).nn
        have HFIN : Hid (metE n (l ++ [m]) ≠ 0 ∨ metE n (l ++ [m]) = 0 ∧ (rkA n (l ++ [m]) = rkA n l ∨ rkA n (l ++ [m]) = rkA n l + 1)) := by
          by_cases h2 : metE n (l ++ [m]) = 0
          · exact Or.inr ⟨h2, rank_more n l m h0 h2⟩
          · exact Or.inl h2
        have hne : netE n = 0 := (metE_zero.1 h0).1
        have HFX : Hid (∀ W (hW : Below w.heap.size w W), Calls Try.prog 12 #[.agg #[.slice na nn nc, .slice sa sn sc, .slice ba bn bc, .slice ga gn gc, .slice la lon lc, .slice ta tn tc]] W fun e w' => (∃ a c, e = .returned (.tuple #[.slice a (freeE n).length c, .int .i64 0])) ∧ Below W.heap.size W w') := fun W hW => (HFR.out W hW).mono fun e w' ⟨v, h1, h2, h3⟩ => by
          rw [hne] at h1; rw [if_pos hne] at h2
          obtain ⟨a, c, rfl⟩ := h2.slice
          exact ⟨⟨a, c, h1⟩, h3⟩
        rw [HN.out] at hr2
        rw [hA] at HFIN hr3 ⊢
        rw [hB, h0]
        generalize rankE n l = R1 at *
        generalize (freeE n).length = FL at *
        generalize rkA n (l ++ [m]) = A2 at *
        generalize rkB n (l ++ [m]) = B2 at *
        generalize metE n (l ++ [m]) = C2 at *
        obtain ⟨RA, hRA⟩ : ∃ x : Int, (R1 : Int) = x := ⟨_, rfl⟩
        rw [hRA] at HFIN hr3 ⊢
        have hrn : 0 ≤ RA := by omega
        have hr5 : RA ≤ (FL : Int) ∧ RA ≤ (N : Int) := by omega
        have q3 : ((FL : Int) != (FL : Int)) = false := by simp
        have q4 : decide (min (FL : Int) (N : Int) < RA) = false := decide_eq_false (by omega)
        have q5 : decide (RA < 0) = false := decide_eq_false (by omega)
        have HX := Lib.hid (HFX.out w4 (belowT B1.out E4.out))
        clear h0 hA hB hfn hfn2 HFX HFR hne hRA hr1 hr2
        have z0 := K4.out.cell 0 rfl
        have z1 := K4.out.cell 1 rfl
        have z2 := K4.out.cell 2 rfl
        have z3 := K4.out.cell 3 rfl
        have z4 := K4.out.cell 4 rfl
        have z5 := K4.out.cell 5 rfl
        have zl := K4.out.lt
        go_wp2_with fail
        refine HX.out.mono ?_; rintro e w5 ⟨⟨fa, fc, rfl⟩, hb5⟩
        have E5 := Lib.hid (belowT E4.out hb5)
        have K5 := Lib.hid (below_blk hb5 K4.out K4.out.lt)
        clear z0 z1 z2 z3 z4 z5 zl hb5 HX K4 E4
        go_upto_region 12 with fail
        have R5 := Lib.hid (HLR.out.below E5.out)
        obtain ⟨⟨gA, cA, uA, gA2, cA2, uA2, PA, PA2, DA1, DA2, OA⟩, ⟨gB, cB, uB, gB2, cB2, uB2, PB, PB2, DB1, DB2, OB⟩, ⟨gC, cC, uC, gC2, cC2, uC2, PC, PC2, DC1, DC2, OC⟩⟩ := app3 w5 la2 N lcap l m R5.out HN.out (by omega)
        have D0 := Lib.hid (below_drew0 w5.heap.size w5)
        have DE := Lib.hid (below_drew (belowA (Below.refl w5.heap.size w5) XE))
        have DX := Lib.hid (below_drew (belowA (Below.refl w5.heap.size w5) (XM m)))
        have DB := Lib.hid (below_drew (belowA (belowA (Below.refl w5.heap.size w5) XE) (XM m)))
        have DC := Lib.hid (below_drew (belowA (belowA (Below.refl w5.heap.size w5) (XM m)) XE))
        have DAX := Lib.hid (belowA DA1.out (XM m))
        have CA := Lib.hid (HRK2.out _ uA2 (HI2.out _ uA2 (belowT E5.out DA2.out) (OA.out.reads (by simp [HN.out]; omega))))
        have CB := Lib.hid (HRK2.out _ uB2 (HI2.out _ uB2 (belowT E5.out DB2.out) (OB.out.reads (by simp [HN.out]; omega))))
        have CC := Lib.hid (HRK2.out _ uC2 (HI2.out _ uC2 (belowT E5.out DC2.out) (OC.out.reads (by simp [HN.out]; omega))))
        have HSC : Hid (∀ W, Below w5.heap.size w5 W → ((W.cell? ⟨p, 0, none⟩ = some (.slice na nn nc) ∧ W.cell? ⟨p, 1, none⟩ = some (.slice sa sn sc) ∧ W.cell? ⟨p, 2, none⟩ = some (.slice ba bn bc) ∧ W.cell? ⟨p, 3, none⟩ = some (.slice ga gn gc) ∧ W.cell? ⟨p, 4, none⟩ = some (.slice la lon lc) ∧ W.cell? ⟨p, 5, none⟩ = some (.slice ta tn tc)) ∧ (W.cell? ⟨p + 1, 0, none⟩ = some (.int .i64 m.kind) ∧ W.cell? ⟨p + 1, 1, none⟩ = some (.string m.name) ∧ W.cell? ⟨p + 1, 2, none⟩ = some (.string m.value) ∧ W.cell? ⟨p + 1, 3, none⟩ = some (.int .i64 m.weight)))) := fun W hW => by
          have k := below_blk hW K5.out K5.out.lt
          have k2 := below_blk (belowT E5.out hW) M1.out M1.out.lt
          exact ⟨⟨k.cell 0 rfl, k.cell 1 rfl, k.cell 2 rfl, k.cell 3 rfl, k.cell 4 rfl, k.cell 5 rfl⟩, k2.cell 0 rfl, k2.cell 1 rfl, k2.cell 2 rfl, k2.cell 3 rfl⟩
        obtain ⟨LN, hLN⟩ : ∃ x, (l ++ [m]).length = x := ⟨_, rfl⟩
        rw [hLN] at PA2 PB2 PC2 CA CB CC
        have B7 := Lib.hid (belowT B1.out E5.out)
        clear hLN OA OB OC HI2 HRK2 K5 E5 M1 K1 R5 HLL
        go_region_held_law (fun W => ((W.cell? ⟨p, 0, none⟩ = some (.slice na nn nc) ∧ W.cell? ⟨p, 1, none⟩ = some (.slice sa sn sc) ∧ W.cell? ⟨p, 2, none⟩ = some (.slice ba bn bc) ∧ W.cell? ⟨p, 3, none⟩ = some (.slice ga gn gc) ∧ W.cell? ⟨p, 4, none⟩ = some (.slice la lon lc) ∧ W.cell? ⟨p, 5, none⟩ = some (.slice ta tn tc)) ∧ (W.cell? ⟨p + 1, 0, none⟩ = some (.int .i64 m.kind) ∧ W.cell? ⟨p + 1, 1, none⟩ = some (.string m.name) ∧ W.cell? ⟨p + 1, 2, none⟩ = some (.string m.value) ∧ W.cell? ⟨p + 1, 3, none⟩ = some (.int .i64 m.weight))))
          ((refine HSC.out _ ?_; first
            | with_reducible exact D0.out
            | with_reducible exact DE.out
            | with_reducible exact DX.out
            | with_reducible exact DB.out
            | with_reducible exact DC.out
            | with_reducible exact DA1.out
            | with_reducible exact DAX.out
            | with_reducible exact DA2.out
            | with_reducible exact DB1.out
            | with_reducible exact DB2.out
            | with_reducible exact DC1.out
            | with_reducible exact DC2.out
            | with_reducible exact E8.out))
          (first
            | (refine step_append_told rfl (.tmp 68) (.tmp 69) 30 rfl (.slice (some ⟨w5.heap.size, 0, none⟩) 0 0) (.slice la2 N lcap) rfl rfl (.slice (some ⟨gA, 0, none⟩) N cA) uA PA.out (by with_reducible rfl) ?_)
            | (refine step_append_told rfl (.tmp 68) (.tmp 69) 30 rfl (.slice (some ⟨w5.heap.size, 0, none⟩) 0 0) (.slice la2 N lcap) rfl rfl (.slice (some ⟨gB, 0, none⟩) N cB) uB PB.out (by with_reducible rfl) ?_)
            | (refine step_append_told rfl (.tmp 68) (.tmp 69) 30 rfl (.slice (some ⟨w5.heap.size + 1, 0, none⟩) 0 0) (.slice la2 N lcap) rfl rfl (.slice (some ⟨gC, 0, none⟩) N cC) uC PC.out (by with_reducible rfl) ?_)
            | (refine step_append_told rfl (.tmp 70) (.tmp 72) 30 rfl (.slice (some ⟨gA, 0, none⟩) N cA) (.slice (some ⟨uA.heap.size, 0, none⟩) 1 1) rfl rfl (.slice (some ⟨gA2, 0, none⟩) LN cA2) uA2 PA2.out (by with_reducible rfl) ?_)
            | (refine step_append_told rfl (.tmp 70) (.tmp 72) 30 rfl (.slice (some ⟨gB, 0, none⟩) N cB) (.slice (some ⟨w5.heap.size + 1, 0, none⟩) 1 1) rfl rfl (.slice (some ⟨gB2, 0, none⟩) LN cB2) uB2 PB2.out (by with_reducible rfl) ?_)
            | (refine step_append_told rfl (.tmp 70) (.tmp 72) 30 rfl (.slice (some ⟨gC, 0, none⟩) N cC) (.slice (some ⟨w5.heap.size, 0, none⟩) 1 1) rfl rfl (.slice (some ⟨gC2, 0, none⟩) LN cC2) uC2 PC2.out (by with_reducible rfl) ?_)
            | (go_simp; go_at_call 11; (with_reducible refine CA.out.mono ?_); rintro e w8 ⟨rfl, hb8⟩; have E8 := Lib.hid (belowT DA2.out hb8); clear hb8)
            | (go_simp; go_at_call 11; (with_reducible refine CB.out.mono ?_); rintro e w8 ⟨rfl, hb8⟩; have E8 := Lib.hid (belowT DB2.out hb8); clear hb8)
            | (go_simp; go_at_call 11; (with_reducible refine CC.out.mono ?_); rintro e w8 ⟨rfl, hb8⟩; have E8 := Lib.hid (belowT DC2.out hb8); clear hb8))
        all_goals
          go_simp
          obtain ⟨w9, hw9⟩ : ∃ W, W = w8 := ⟨_, rfl⟩
          clear hw9 w9
          have B8 := Lib.hid (belowT B7.out E8.out)
          clear HSC E8
          rcases HFIN.out with hc | ⟨hc, hd⟩
          · have q1 : (C2 != 0) = true := by simp [hc]
            clear HFIN hc
            go_wp2_with fail
            go_ret
            exact ⟨rfl, B8.out⟩
          · subst hc
            have q2 : ((A2 : Int) == RA) = true ∨ ((A2 : Int) == RA) = false := by cases (A2 == RA) <;> simp
            rcases q2 with q2 | q2
            · clear HFIN hd
              go_wp2_with fail
              go_ret
              exact ⟨rfl, B8.out⟩
            · have hd2 : A2 = RA + 1 := by
                rcases hd with h | h
                · rw [h] at q2; simp at q2
                · exact h
              have q3 : ((A2 : Int) == RA + 1) = true := by rw [beq_iff_eq]; exact hd2
              clear HFIN hd hd2
              go_wp2_with fail
              go_ret
              exact ⟨rfl, B8.out⟩
      · have hA : rkA n l = 0 := by unfold rkA; rw [if_neg h0]
        have hB : rkB n l = 0 := by unfold rkB; rw [if_neg h0]
        have q1 : (metE n l != 0) = true := by simp [h0]
        have B4 := Lib.hid (belowT B1.out E4.out)
        rw [hA, hB]
        generalize metE n l = ME at *
        clear hA hB h0
        go_wp2_with fail
        go_ret
        exact ⟨rfl, B4.out⟩
end Go.Proofs.Ythcddboeejbncaa
