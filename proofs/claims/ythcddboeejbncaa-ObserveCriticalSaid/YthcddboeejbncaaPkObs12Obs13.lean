/- append(append([]api.MeterItem{}, l...), m), append(append([]api.MeterItem{}, l...), ps...): told ahead, in every order. What the laws on observability share. -/
import Derived.Test.YthcddboeejbncaaPkObs11Res1
import Derived.Deep.AppendSrc
namespace Go.Proofs.Ythcddboeejbncaa
open Go.RowKit

abbrev XE : Obj := .cells #[] 33
abbrev XM (m : MIt) : Obj := .cells #[.int .i64 m.kind, .string m.name, .string m.value, .int .i64 m.weight] 33
abbrev AppT (v x : Value) (W : World) (v' : Value) (W' : World) : Prop := ∀ ty, (Builtin.append_ #[30, 30] ty #[v, x]).run Try.prog W = .ok v' W'
/-- An append of any list that may be read to an own list that is not nil. -/
theorem own_at {base g n m c0 : Nat} {W : World} {h' : Value} {xs cs : List Value} (h : W.ownsRow base 33 4 (.slice (some ⟨g, 0, none⟩) n c0) n xs) (hb : base ≤ W.heap.size) (hx : Reads W h' m cs) (hn : cs.length = m * 4) (h1 : ∀ u, u ∈ cs → u.oneCell' = true) (hl : n + m ≤ 100000) :
    ∃ g' c' W', AppT (.slice (some ⟨g, 0, none⟩) n c0) h' W (.slice (some ⟨g', 0, none⟩) (n + m) c') W' ∧ W'.ownsRow base 33 4 (.slice (some ⟨g', 0, none⟩) (n + m) c') (n + m) (xs ++ cs) ∧ Below base W W' ∧ W.grownBy W' (some g) := by
  obtain ⟨i0, hi0, hz0, hz1, hz2⟩ := info_parts infoM
  have key : ∀ ad c, (∀ j u, cs[j]? = some u → W.cell? ((ad : Addr).add j) = some u) → ∃ g' c' W', AppT (.slice (some ⟨g, 0, none⟩) n c0) (.slice (some ad) m c) W (.slice (some ⟨g', 0, none⟩) (n + m) c') W' ∧ W'.ownsRow base 33 4 (.slice (some ⟨g', 0, none⟩) (n + m) c') (n + m) (xs ++ cs) ∧ Below base W W' ∧ W.grownBy W' (some g) := by
    intro ad c hc
    obtain ⟨v', w', a1, a2, a3, a4⟩ := run_append_own (P := Try.prog) W base 30 0 33 i0 _ 4 48 Try.underlying30 hi0 hz0 hz1 hz2 rfl (by decide) _ n xs h ad m c cs hn hc h1 (by unfold maxLen; omega) (by omega) hb
    rcases a2.2 with ⟨e, _⟩ | ⟨g', c', cur, e, _⟩
    · have := (a4.1 e).1; simp at this
    · subst e
      exact ⟨g', c', w', fun ty => a1, a2, Below.grown ⟨rfl, rfl, rfl, Nat.le_refl _, fun _ _ => rfl⟩ a3 hb (fun k e => row_own h k e), a3⟩
  rcases hx with ⟨rfl, hc, a', cap, rfl⟩ | ⟨b, off, cap, rfl, _, _, _, hcc⟩
  · cases a' with
    | some ad => exact key ad cap (fun j u hj => by rw [hc] at hj; simp at hj)
    | none =>
      have hnc : n ≤ c0 := by
        rcases h.2 with ⟨e, _⟩ | ⟨_, _, _, e, _, _, e4, _⟩
        · simp at e
        · simp only [Value.slice.injEq] at e; omega
      have hr := fun ty => run_append_room_src (P := Try.prog) W 30 30 ty 33 i0 Try.underlying30 hi0 g 0 n c0 (.slice none 0 cap) 0 [] (Src.ofNil W (e' := 33) Try.underlying30 cap) (by omega) (fun j hj => absurd hj (Nat.not_lt_zero _)) (fun j hj => absurd hj (Nat.not_lt_zero _))
      exact ⟨g, c0, W, hr, by rw [hc, List.append_nil]; exact h, ⟨rfl, rfl, rfl, Nat.le_refl _, fun _ _ => rfl⟩, ⟨rfl, rfl, rfl, Nat.le_refl _, fun _ _ _ => rfl⟩⟩
  · exact key ⟨b, off, none⟩ cap (cells_add hcc)
theorem Blk.grow2 {w w' : World} {g b : Nat} {c : Array Value} {t : TypeId} (h : Blk w b c t) (k : w.grownBy w' (some g)) (hne : b ≠ g) : Blk w' b c t := by
  unfold Blk at *
  rw [k.block b (Array.getElem?_eq_some_iff.1 h).1 (fun e => hne (Option.some.inj e))]; exact h
/-- What the first append and the second one do, in one order: the first at W1 with the empty row b, the second at W2 (u or u with one block more) with the source at s. -/
def App2T (w : World) (oa : Option Addr) (N oc : Nat) (W1 : World) (b : Nat) (src : World → Value) (Wx : World → World) (L : List MIt) : Prop :=
  ∃ g c u g2 c2 u2, Hid (AppT (.slice (some ⟨b, 0, none⟩) 0 0) (.slice oa N oc) W1 (.slice (some ⟨g, 0, none⟩) N c) u) ∧ Hid (AppT (.slice (some ⟨g, 0, none⟩) N c) (src u) (Wx u) (.slice (some ⟨g2, 0, none⟩) L.length c2) u2) ∧ Hid (Below w.heap.size w u) ∧ Hid (Below w.heap.size w u2) ∧ Hid (OwnS u2 (.slice (some ⟨g2, 0, none⟩) L.length c2) L)
theorem app_first {w : World} {oa : Option Addr} {N oc b : Nat} {l : List MIt} {W1 : World} (hr : Reads w (.slice oa N oc) N (flat MIt.cells l)) (hN : l.length = N) (hl : N ≤ 1000) (hb1 : Below w.heap.size w W1) (hB : Blk W1 b #[] 33) (hge : w.heap.size ≤ b) :
    ∃ g c u, AppT (.slice (some ⟨b, 0, none⟩) 0 0) (.slice oa N oc) W1 (.slice (some ⟨g, 0, none⟩) N c) u ∧ u.ownsRow w.heap.size 33 4 (.slice (some ⟨g, 0, none⟩) N c) N (flat MIt.cells l) ∧ Below w.heap.size w u ∧ Below w.heap.size W1 u ∧ W1.grownBy u (some b) := by
  obtain ⟨g, c, u, h1, h2, h3, h4⟩ := own_at (n := 0) (xs := []) (owns_lit hB hge 4 0 rfl (by decide)) hb1.size (hr.below hb1) (by rw [mit_flat_len, hN]) (mit_one l) (by omega)
  rw [Nat.zero_add, List.nil_append] at h2
  rw [Nat.zero_add] at h1
  exact ⟨g, c, u, h1, h2, hb1.trans h3, h3, h4⟩
theorem app3 (w : World) (oa : Option Addr) (N oc : Nat) (l : List MIt) (m : MIt) (hr : Reads w (.slice oa N oc) N (flat MIt.cells l)) (hN : l.length = N) (hl : N ≤ 1000) :
    App2T w oa N oc (w.alloc XE).drew w.heap.size (fun u => .slice (some ⟨u.heap.size, 0, none⟩) 1 1) (fun u => u.alloc (XM m)) (l ++ [m]) ∧
    App2T w oa N oc ((w.alloc XE).alloc (XM m)).drew w.heap.size (fun _ => .slice (some ⟨w.heap.size + 1, 0, none⟩) 1 1) (fun u => u) (l ++ [m]) ∧
    App2T w oa N oc ((w.alloc (XM m)).alloc XE).drew (w.heap.size + 1) (fun _ => .slice (some ⟨w.heap.size, 0, none⟩) 1 1) (fun u => u) (l ++ [m]) := by
  have fin : ∀ {W : World} {g c xb : Nat}, W.ownsRow w.heap.size 33 4 (.slice (some ⟨g, 0, none⟩) N c) N (flat MIt.cells l) → Below w.heap.size w W → Blk W xb #[.int .i64 m.kind, .string m.name, .string m.value, .int .i64 m.weight] 33 →
      ∃ g2 c2 u2, AppT (.slice (some ⟨g, 0, none⟩) N c) (.slice (some ⟨xb, 0, none⟩) 1 1) W (.slice (some ⟨g2, 0, none⟩) (l ++ [m]).length c2) u2 ∧ Below w.heap.size w u2 ∧ OwnS u2 (.slice (some ⟨g2, 0, none⟩) (l ++ [m]).length c2) (l ++ [m]) := by
    intro W g c xb h1 h2 h3
    have hx : Reads W (.slice (some ⟨xb, 0, none⟩) 1 1) 1 m.cells := Or.inr ⟨xb, 0, 1, rfl, Nat.le_refl _, by decide, h3.lt, fun j u hj => by rw [Nat.zero_add]; exact h3.cell j (by rw [← Array.getElem?_toList]; exact hj)⟩
    obtain ⟨g2, c2, u2, k1, k2, k3, _⟩ := own_at h1 h2.size hx rfl (fun u hu => mit_one [m] u (by unfold flat; simpa using hu)) (by omega)
    have e : (l ++ [m]).length = N + 1 := by simp [hN]
    refine ⟨g2, c2, u2, by rw [e]; exact k1, h2.trans k3, w.heap.size, ?_⟩
    unfold OwnM
    rw [e, show flat MIt.cells (l ++ [m]) = flat MIt.cells l ++ m.cells by simp [flat]]
    exact k2
  have B0 := Below.refl w.heap.size w
  have hs : ∀ o : Obj, (w.alloc o).heap.size = w.heap.size + 1 := fun o => World.size_alloc _ _
  refine ⟨?_, ?_, ?_⟩
  · obtain ⟨g, c, u, h1, h2, h3, _, _⟩ := app_first (W1 := (w.alloc XE).drew) hr hN hl (below_drew (belowA B0 XE)) (Blk.new w _ _).drew (Nat.le_refl _)
    obtain ⟨g2, c2, u2, k1, k2, k3⟩ := fin (ownsRow_below h2 (belowA (Below.refl _ _) (XM m))) (h3.alloc h3.size (XM m)) (Blk.new u _ _)
    exact ⟨g, c, u, g2, c2, u2, h1, k1, h3, k2, k3⟩
  · have hx : Blk ((w.alloc XE).alloc (XM m)).drew (w.heap.size + 1) #[.int .i64 m.kind, .string m.name, .string m.value, .int .i64 m.weight] 33 := (Blk.new2 w XE _ _).drew
    obtain ⟨g, c, u, h1, h2, h3, _, h5⟩ := app_first (W1 := ((w.alloc XE).alloc (XM m)).drew) hr hN hl (below_drew (belowA (belowA B0 XE) (XM m))) ((Blk.new w _ _).alloc _).drew (Nat.le_refl _)
    obtain ⟨g2, c2, u2, k1, k2, k3⟩ := fin h2 h3 (hx.grow2 h5 (by omega))
    exact ⟨g, c, u, g2, c2, u2, h1, k1, h3, k2, k3⟩
  · have hx : Blk ((w.alloc (XM m)).alloc XE).drew w.heap.size #[.int .i64 m.kind, .string m.name, .string m.value, .int .i64 m.weight] 33 := ((Blk.new w _ _).alloc XE).drew
    obtain ⟨g, c, u, h1, h2, h3, _, h5⟩ := app_first (W1 := ((w.alloc (XM m)).alloc XE).drew) hr hN hl (below_drew (belowA (belowA B0 (XM m)) XE)) (Blk.new2 w (XM m) _ _).drew (Nat.le_succ _)
    obtain ⟨g2, c2, u2, k1, k2, k3⟩ := fin h2 h3 (hx.grow2 h5 (by omega))
    exact ⟨g, c, u, g2, c2, u2, h1, k1, h3, k2, k3⟩
/-- With a list as the second source. -/
theorem app2 (w : World) (oa pa : Option Addr) (N oc M pc : Nat) (l ps : List MIt) (hr : Reads w (.slice oa N oc) N (flat MIt.cells l)) (hN : l.length = N) (hl : N ≤ 1000) (hp : Reads w (.slice pa M pc) M (flat MIt.cells ps)) (hM : ps.length = M) (hm : M ≤ 1000) :
    App2T w oa N oc (w.alloc XE).drew w.heap.size (fun _ => .slice pa M pc) (fun u => u) (l ++ ps) := by
  obtain ⟨g, c, u, h1, h2, h3, _, _⟩ := app_first (W1 := (w.alloc XE).drew) hr hN hl (below_drew (belowA (Below.refl _ _) XE)) (Blk.new w _ _).drew (Nat.le_refl _)
  obtain ⟨g2, c2, u2, k1, k2, k3, _⟩ := own_at h2 h3.size (hp.below h3) (by rw [mit_flat_len, hM]) (mit_one ps) (by omega)
  have e : (l ++ ps).length = N + M := by simp [hN, hM]
  refine ⟨g, c, u, g2, c2, u2, h1, by rw [e]; exact k1, h3, h3.trans k3, w.heap.size, ?_⟩
  unfold OwnM
  rw [e, show flat MIt.cells (l ++ ps) = flat MIt.cells l ++ flat MIt.cells ps by simp [flat]]
  exact k2
end Go.Proofs.Ythcddboeejbncaa
namespace Go.Proofs.Ythcddboeejbncaa
open Go.RowKit

theorem Reads.takeM {w : World} {a : Option Addr} {n cap k : Nat} {l : List MIt} (h : Reads w (.slice a n cap) n (flat MIt.cells l)) (hn : l.length = n) (hk : k ≤ n) : Reads w (.slice a k cap) k (flat MIt.cells (l.take k)) := by
  rcases h with ⟨e1, e2, a', c', e⟩ | ⟨b, off, c', e, e2, e3, e4, e5⟩
  · have hl : l = [] := List.eq_nil_of_length_eq_zero (by omega)
    subst hl
    exact Or.inl ⟨by omega, by simp [flat], a, cap, by rw [show k = 0 by omega]⟩
  · simp only [Value.slice.injEq] at e
    obtain ⟨rfl, _, rfl⟩ := e
    refine Or.inr ⟨b, off, cap, rfl, by omega, by omega, e4, fun j u hj => e5 j u ?_⟩
    have e : flat MIt.cells l = flat MIt.cells (l.take k) ++ flat MIt.cells (l.drop k) := by
      unfold flat
      rw [← List.flatMap_append, List.take_append_drop]
    rw [e, List.getElem?_append_left (List.getElem?_eq_some_iff.1 hj).1]; exact hj
theorem rowsE_snoc2 (n : Net) (own : List MIt) (m : MIt) : rowsE n (own ++ [m]) = rowsE n own ++ [rowE n m] := by unfold rowsE; simp
/-- What observe.Rank answers, in one form. -/
def rkA (n : Net) (l : List MIt) : Int := if metE n l = 0 then (rankE n l : Int) else 0
def rkB (n : Net) (l : List MIt) : Int := if metE n l = 0 then ((freeE n).length : Int) else 0
theorem obsRank_u (x0 : NAddr) (n : Net) (lv : Value) (l : List MIt) (w : World) (hin : MetIn w x0 n lv l) (hn : n.nodes.length ≤ 8) :
    Calls Try.prog 11 #[x0.val n, lv] w fun e w' => e = .returned (.tuple #[.int .i64 (rkA n l), .int .i64 (rkB n l), .int .i64 (metE n l)]) ∧ Below w.heap.size w w' :=
  (obsRank_c x0 n lv l w hin hn).mono fun e w' ⟨he, hb⟩ => by
    by_cases h : metE n l = 0
    · rw [if_pos h] at he
      exact ⟨by rw [he]; unfold rkA rkB; rw [if_pos h, if_pos h, h], hb⟩
    · rw [if_neg h] at he
      exact ⟨by rw [he]; unfold rkA rkB; rw [if_neg h, if_neg h], hb⟩
theorem rkA_bd (n : Net) (l : List MIt) : 0 ≤ rkA n l ∧ rkA n l ≤ 1000000 := by
  unfold rkA
  split
  · rename_i h
    have h1 := (Lin.rankL_le (freeE n).length (rowsE n l)).1
    have h2 := freeE_le (netE_ok (metE_zero.1 h).1)
    have h3 := (netE_ok (metE_zero.1 h).1).nn
    unfold rankE
    omega
  · omega
theorem smallR_nodes {n : Net} {l : List MIt} {vs : List (List ByteArray)} (h : smallR n l vs = true) : n.nodes.length ≤ 8 := by
  unfold smallR at h
  rw [Bool.and_eq_true, decide_eq_true_iff] at h
  exact h.1.1
theorem rank_more (n : Net) (l : List MIt) (m : MIt) (h : metE n l = 0) (h2 : metE n (l ++ [m]) = 0) : rkA n (l ++ [m]) = rkA n l ∨ rkA n (l ++ [m]) = rkA n l + 1 := by
  unfold rkA rankE
  rw [if_pos h, if_pos h2, rowsE_snoc2]
  have := Lin.rankL_snoc (freeE n).length (rowsE n l) (rowE n m)
  omega
theorem rank_bounds (n : Net) (l : List MIt) : rankE n l ≤ (freeE n).length ∧ rankE n l ≤ l.length := by
  have h := Lin.rankL_le (freeE n).length (rowsE n l)
  rw [rowsE_len] at h
  exact h
theorem Reads.dropM {w : World} {b off n cap k : Nat} {l : List MIt} (h : Reads w (.slice (some ⟨b, off, none⟩) n cap) n (flat MIt.cells l)) (hn : l.length = n) (hk : k ≤ n) : Reads w (.slice (some ⟨b, off + k * 4, none⟩) (n - k) (cap - k)) (n - k) (flat MIt.cells (l.drop k)) := by
  rcases h with ⟨e1, e2, a', c', e⟩ | ⟨b', off', c', e, e2, e3, e4, e5⟩
  · have hl : l = [] := List.eq_nil_of_length_eq_zero (by omega)
    subst hl
    exact Or.inl ⟨by omega, by simp [flat], _, _, by rw [show n - k = 0 by omega]⟩
  · simp only [Value.slice.injEq, Option.some.injEq, Addr.mk.injEq, and_true] at e
    obtain ⟨⟨rfl, rfl⟩, _, rfl⟩ := e
    refine Or.inr ⟨b, off + k * 4, cap - k, rfl, by omega, by omega, e4, fun j u hj => ?_⟩
    have e : flat MIt.cells l = flat MIt.cells (l.take k) ++ flat MIt.cells (l.drop k) := by
      unfold flat
      rw [← List.flatMap_append, List.take_append_drop]
    have hl : (flat MIt.cells (l.take k)).length = k * 4 := by rw [mit_flat_len, List.length_take]; omega
    rw [show off + k * 4 + j = off + (k * 4 + j) by omega]
    refine e5 _ u ?_
    rw [e, List.getElem?_append_right (by omega), hl, show k * 4 + j - k * 4 = j by omega]; exact hj
theorem Reads.emptyM {w : World} {a : Option Addr} {c : Nat} : Reads w (.slice a 0 c) 0 (flat MIt.cells []) := Or.inl ⟨rfl, rfl, a, c, rfl⟩
/-! ### Critical meters, plain -/
theorem critL_mem (n : Net) (l : List MIt) (k : Nat) : ∀ j, hasI (k : Int) (critL n l j) = decide (k < j ∧ Lin.rankL (freeE n).length (dropRow (rowsE n l) k) < rankE n l)
  | 0 => by simp [critL, hasI]
  | j + 1 => by
    have ih := critL_mem n l k j
    unfold critL
    by_cases h : Lin.rankL (freeE n).length (dropRow (rowsE n l) j) < rankE n l
    · rw [if_pos h]
      unfold hasI at ih ⊢
      rw [List.any_append, ih]
      by_cases e : k = j
      · subst e
        rw [decide_eq_true (show k < k + 1 ∧ Lin.rankL (freeE n).length (dropRow (rowsE n l) k) < rankE n l from ⟨by omega, h⟩)]
        simp
      · have e2 : ((k : Int) == (j : Int)) = false := by rw [beq_eq_false_iff_ne]; omega
        simp only [List.any_cons, List.any_nil, e2, Bool.or_false]
        congr 1
        exact propext ⟨fun ⟨a, b⟩ => ⟨by omega, b⟩, fun ⟨a, b⟩ => ⟨by omega, b⟩⟩
    · rw [if_neg h, ih]
      congr 1
      refine propext ⟨fun ⟨a, b⟩ => ⟨by omega, b⟩, fun ⟨a, b⟩ => ⟨?_, b⟩⟩
      by_cases e : k = j
      · subst e; exact absurd b h
      · omega
theorem critE_mem (n : Net) (l : List MIt) (k : Nat) (h : k < l.length) : hasI (k : Int) (critE n l) = decide (Lin.rankL (freeE n).length (dropRow (rowsE n l) k) < rankE n l) := by
  unfold critE
  rw [critL_mem]
  congr 1
  exact propext ⟨fun x => x.2, fun x => ⟨h, x⟩⟩
theorem rowsE_get {n : Net} {l : List MIt} {k : Nat} {x : MIt} (h : l[k]? = some x) : (rowsE n l)[k]? = some (rowE n x) := by unfold rowsE; rw [List.getElem?_map, h]; rfl
/-- A meter that occurs twice is not critical. -/
theorem crit_twice {n : Net} {l : List MIt} {k : Nat} {x : MIt} (h : l[k]? = some x) : hasI (k : Int) (critE n (l ++ [x])) = false ∧ hasI (l.length : Int) (critE n (l ++ [x])) = false := by
  have hk := (List.getElem?_eq_some_iff.1 h).1
  have hr := rowsE_get (n := n) h
  have e : rowsE n (l ++ [x]) = rowsE n l ++ [rowE n x] := rowsE_snoc2 n l x
  constructor
  · rw [critE_mem _ _ _ (by simp; omega)]
    refine decide_eq_false ?_
    unfold dropRow rankE
    rw [e, Lin.rankL_twice hr]
    exact Nat.lt_irrefl _
  · rw [critE_mem _ _ _ (by simp)]
    refine decide_eq_false ?_
    unfold dropRow rankE
    have h2 := Lin.rankL_last (w := (freeE n).length) hr
    rw [rowsE_len] at h2
    rw [e, h2]
    exact Nat.lt_irrefl _
theorem rowsE_drop (n : Net) (l : List MIt) (k : Nat) : rowsE n (l.take k ++ l.drop (k + 1)) = dropRow (rowsE n l) k := by
  unfold rowsE dropRow
  rw [List.map_append, List.map_take, List.map_drop]
theorem met_sub {n : Net} {l l' : List MIt} (h : metE n l = 0) (hs : ∀ x ∈ l', x ∈ l) (hl : l'.length ≤ 64) : metE n l' = 0 := by
  obtain ⟨h1, _, h3⟩ := metE_zero.1 h
  exact metE_zero.2 ⟨h1, hl, fun x hx => h3 x (hs x hx)⟩
/-- Without a critical meter the rank is less by one. -/
theorem crit_rank {n : Net} {l : List MIt} {k : Nat} {x : MIt} (h : l[k]? = some x) : hasI (k : Int) (critE n l) = decide (rankE n l = rankE n (l.take k ++ l.drop (k + 1)) + 1) ∧ (rankE n l = rankE n (l.take k ++ l.drop (k + 1)) ∨ rankE n l = rankE n (l.take k ++ l.drop (k + 1)) + 1) := by
  have hk := (List.getElem?_eq_some_iff.1 h).1
  have h1 := Lin.rankL_erase (w := (freeE n).length) (rowsE_get (n := n) h)
  have h2 : Lin.rankL (freeE n).length (dropRow (rowsE n l) k) = rankE n (l.take k ++ l.drop (k + 1)) := by unfold rankE; rw [rowsE_drop]
  have h3 : Lin.rankL (freeE n).length (rowsE n l) = rankE n l := rfl
  change _ = Lin.rankL (freeE n).length (dropRow (rowsE n l) k) ∨ _ = Lin.rankL (freeE n).length (dropRow (rowsE n l) k) + 1 at h1
  rw [h2, h3] at h1
  refine ⟨?_, h1⟩
  rw [critE_mem _ _ _ hk, h2]
  congr 1
  exact propext ⟨fun h => by omega, fun h => by omega⟩
end Go.Proofs.Ythcddboeejbncaa
