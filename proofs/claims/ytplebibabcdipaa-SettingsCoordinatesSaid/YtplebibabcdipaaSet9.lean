/- A row of relays of the call's own; slices.Clone at relays. What settings.Coordinate answers. settings.Coordinate. -/
import Derived.Test.YtplebibabcdipaaSet7
import Derived.Lib.SliceRun
namespace Go.Proofs.Ytplebibabcdipaa
open Go.RowKit

/-- Block g begins with the cells cs, none frozen. -/
def Seg (W : World) (g : Nat) (t : TypeId) (cs : List Value) : Prop := ∃ cur, Blk W g cur t ∧ cur.toList.take cs.length = cs
theorem Seg.lt {W : World} {g : Nat} {t : TypeId} {cs : List Value} (h : Seg W g t cs) : g < W.heap.size := by obtain ⟨cur, h1, _⟩ := h; exact h1.lt
theorem Seg.cell {W : World} {g : Nat} {t : TypeId} {cs : List Value} (h : Seg W g t cs) {j : Nat} {u : Value} (hj : cs[j]? = some u) : W.cell? ⟨g, j, none⟩ = some u := by
  obtain ⟨cur, h1, h2⟩ := h
  have hl : j < cs.length := (List.getElem?_eq_some_iff.1 hj).1
  refine h1.cell j ?_
  rw [← h2, List.getElem?_take, if_pos hl] at hj
  simpa using hj
theorem Seg.free {W : World} {g : Nat} {t : TypeId} {cs : List Value} (h : Seg W g t cs) (j : Nat) : W.frozen? ⟨g, j, none⟩ = false := by obtain ⟨cur, h1, _⟩ := h; exact h1.free j
theorem Seg.set {W : World} {g : Nat} {t : TypeId} {cs : List Value} (h : Seg W g t cs) (j : Nat) (u : Value) : Seg (W.setCell ⟨g, j, none⟩ u) g t (cs.set j u) := by
  obtain ⟨cur, h1, h2⟩ := h
  refine ⟨_, h1.set j u, ?_⟩
  rw [List.length_set]
  conv => rhs; rw [← h2]
  rw [Array.toList_setIfInBounds, List.take_set]
theorem Seg.below {B : Nat} {W W' : World} {g : Nat} {t : TypeId} {cs : List Value} (h : Seg W g t cs) (k : Below B W W') (hg : g < B) : Seg W' g t cs := by
  obtain ⟨cur, h1, h2⟩ := h; exact ⟨cur, below_blk k h1 hg, h2⟩
theorem Seg.alloc {W : World} {g : Nat} {t : TypeId} {cs : List Value} (h : Seg W g t cs) (o : Obj) : Seg (W.alloc o) g t cs := by obtain ⟨cur, h1, h2⟩ := h; exact ⟨cur, h1.alloc o, h2⟩
theorem Seg.drewN {W : World} {g : Nat} {t : TypeId} {cs : List Value} (h : Seg W g t cs) (n : Nat) : Seg (W.drewN n) g t cs := h
theorem Seg.other {W : World} {g : Nat} {t : TypeId} {cs : List Value} (h : Seg W g t cs) (a : Addr) (ha : g ≠ a.block) (v : Value) : Seg (W.setCell a v) g t cs := by obtain ⟨cur, h1, h2⟩ := h; exact ⟨cur, h1.setOther a ha v, h2⟩
/-- A row of the call's own, where there is an element. -/
theorem Seg.of_owns {W : World} {base : Nat} {t : TypeId} {sz : Nat} {v : Value} {n : Nat} {cs : List Value} (h : W.ownsRow base t sz v n cs) (hn : 0 < n) : ∃ g c, v = .slice (some ⟨g, 0, none⟩) n c ∧ base ≤ g ∧ n ≤ c ∧ Seg W g t cs := by
  obtain ⟨h0, h⟩ := h
  rcases h with ⟨_, h⟩ | ⟨g, cap, cur, rfl, hg, hh, hc, _, _, ht⟩
  · omega
  · exact ⟨g, cap, rfl, hg, hc, cur, hh, by rw [h0]; exact ht⟩
theorem Seg.reads {W : World} {g : Nat} {t : TypeId} {cs : List Value} {n c : Nat} (h : Seg W g t cs) (hc : n ≤ c) (hn : n ≤ 9223372036854775807) : Reads W (.slice (some ⟨g, 0, none⟩) n c) n cs :=
  Or.inr ⟨g, 0, c, rfl, hc, hn, h.lt, fun j u hj => by rw [Nat.zero_add]; exact h.cell hj⟩
/-- A slice that reads as points, elsewhere than in block g, after a store there. -/
theorem PVal.other {W : World} {v : Value} {l : Pts} (h : PVal W v l) {a : Addr} (hv : v.ownBlock ≠ some a.block) (u : Value) : PVal (W.setCell a u) v l := by
  rcases h with h | ⟨b, off, cap, rfl, h2, h3, h4, h5⟩
  · exact Or.inl h
  · have hne : b ≠ a.block := fun e => hv (by rw [← e]; rfl)
    refine Or.inr ⟨b, off, cap, rfl, h2, h3, by simpa [World.setCell] using h4, fun i hi => ?_⟩
    have hb : (W.setCell a u).heap[b]? = W.heap[b]? := Below.heap_setCell _ _ _ _ hne
    exact ⟨by rw [World.cell?_of_block (w := W) hb]; exact (h5 i hi).1, by rw [World.cell?_of_block (w := W) hb]; exact (h5 i hi).2⟩
theorem flat_set {α : Type} {f : α → List Value} {sz : Nat} (hf : ∀ x, (f x).length = sz) {l : List α} {k j : Nat} {x y : α} {u : Value} (hx : l[k]? = some x) (hy : f y = (f x).set j u) (hj : j < sz) : flat f (l.set k y) = (flat f l).set (k * sz + j) u := by
  induction l generalizing k with
  | nil => simp at hx
  | cons z zs ih =>
    have e : ∀ (a : α) bs, flat f (a :: bs) = f a ++ flat f bs := fun a bs => by unfold flat; simp
    cases k with
    | zero =>
      simp at hx; subst hx
      rw [List.set_cons_zero, e, e, hy, Nat.zero_mul, Nat.zero_add, List.set_append_left _ _ (by rw [hf]; exact hj)]
    | succ k =>
      have hx' : zs[k]? = some x := by simpa using hx
      rw [List.set_cons_succ, e, e, ih hx', List.set_append_right _ _ (by rw [hf, Nat.add_mul]; omega), hf]
      congr 2
      rw [Nat.add_mul]; omega
theorem cra_one (l : List CRA) : ∀ u ∈ flat CRA.cells l, u.oneCell' = true := by
  intro u hu
  unfold flat at hu
  obtain ⟨x, _, hx⟩ := List.mem_flatMap.1 hu
  unfold CRA.cells at hx
  simp only [List.mem_cons, List.not_mem_nil, or_false] at hx
  rcases hx with rfl | rfl | rfl | rfl | rfl | rfl <;> rfl
theorem infoCR : (Try.prog.info? 56).map (fun i => (i.zero, i.size, i.bytes)) = some (some (.agg #[.string ByteArray.empty, .string ByteArray.empty, .string ByteArray.empty, .slice none 0 0, .int .i64 0, .int .i64 0]), 6, 88) := by kernel_rfl
set_option maxHeartbeats 1000000 in
theorem cloneCR_c (v : Value) (l : List CRA) (w : World) (hv : CRels w v l) (hn : l.length ≤ 1000) :
    Calls Try.prog 58 #[v] w fun e w' => ∃ u, e = .returned u ∧ (0 < l.length → w'.ownsRow w.heap.size 56 6 u l.length (flat CRA.cells l)) ∧ (∃ a c, u = .slice a l.length c) ∧ Below w.heap.size w w' := by
  have hr := hv.1
  clear hv
  obtain ⟨n, hN⟩ : ∃ n, l.length = n := ⟨_, rfl⟩
  have hfl : (flat CRA.cells l).length = n * 6 := by rw [flat_len (sz := 6) (fun _ => rfl), hN]
  rw [hN] at hr hn ⊢
  clear hN
  have h1c := cra_one l
  generalize flat CRA.cells l = cs at *
  rcases hr with ⟨rfl, rfl, a, cap, rfl⟩ | ⟨b, off, cap, rfl, h1, h2, h3, h4⟩
  · cases a with
    | none =>
      have qn : ∀ (w : World) (n c : Nat), (binOp .eql 63 (.slice none n c) (.slice none 0 0)).run Try.prog w = .ok (.bool true) w := fun w n c => Lib.run_eql_slice_nil w 63 56 none n c 0 0 Try.underlying63
      go_enter Try.func58, Try.ntmps58
      go_wp2_with (rw [qn])
      go_ret
      exact ⟨_, rfl, fun h => absurd h (Nat.lt_irrefl _), ⟨_, _, rfl⟩, Below.refl _ _⟩
    | some ad =>
      have qn : ∀ (w : World) (n c : Nat), (binOp .eql 63 (.slice (some ad) n c) (.slice none 0 0)).run Try.prog w = .ok (.bool false) w := fun w n c => Lib.run_eql_slice_nil w 63 56 (some ad) n c 0 0 Try.underlying63
      obtain ⟨i0, hi, hz0, hz1, hz2⟩ := info_parts infoCR
      go_enter Try.func58, Try.ntmps58
      go_wp2_with (first | (rw [qn]) | (at_builtin; refine wpList_append_own _ rfl _ _ 63 rfl w.heap.size 56 i0 _ 6 88 Try.underlying63 hi hz0 hz1 hz2 rfl (by decide) _ 0 [] rfl (owns_lit (Blk.new _ _ _) (Nat.le_refl _) 6 0 rfl (by decide)) ad 0 cap [] rfl rfl (fun j u hj => by simp at hj) (fun u hu => by cases hu) (by unfold maxLen; omega) (by omega) (by simp) ?_; intro v' w3 hown' hgrow3 hnil3))
      go_ret
      obtain ⟨a3, c3, rfl⟩ := row_slice hown'
      exact ⟨_, rfl, ⟨_, _, rfl⟩, Below.grown (belowA (Below.refl _ w) _) hgrow3 (by simp) (fun j hj => by have : w.heap.size = j := Option.some.inj hj; omega)⟩
  · have qn : ∀ (w : World) (n c : Nat), (binOp .eql 63 (.slice (some ⟨b, off, none⟩) n c) (.slice none 0 0)).run Try.prog w = .ok (.bool false) w := fun w n c => Lib.run_eql_slice_nil w 63 56 (some ⟨b, off, none⟩) n c 0 0 Try.underlying63
    have HC := Lib.hid h4
    have HF := Lib.hid hfl
    have H1 := Lib.hid h1c
    obtain ⟨i0, hi, hz0, hz1, hz2⟩ := info_parts infoCR
    clear h4 hfl h1c
    go_enter Try.func58, Try.ntmps58
    go_wp2_with (first | (rw [qn]) | (at_builtin; refine wpList_append_own _ rfl _ _ 63 rfl w.heap.size 56 i0 _ 6 88 Try.underlying63 hi hz0 hz1 hz2 rfl (by decide) _ 0 [] rfl (owns_lit (Blk.new _ _ _) (Nat.le_refl _) 6 0 rfl (by decide)) ⟨b, off, none⟩ n cap cs rfl HF.out (cells_add (fun j u hj => by rw [(belowA (Below.refl _ w) _).cell (by exact h3)]; exact HC.out j u hj)) H1.out (by unfold maxLen; omega) (by omega) (by simp) ?_; intro v' w3 hown' hgrow3 hnil3))
    go_ret
    obtain ⟨a3, c3, rfl⟩ := row_slice hown'
    refine ⟨_, rfl, fun _ => ?_, ⟨a3, c3, by simp⟩, Below.grown (belowA (Below.refl _ w) _) hgrow3 (by simp) (fun j hj => by have : w.heap.size = j := Option.some.inj hj; omega)⟩
    simpa using hown'
end Go.Proofs.Ytplebibabcdipaa
namespace Go.Proofs.Ytplebibabcdipaa
open Go.RowKit

/-- Relay i with its curve as it is now. -/
def curR (l : List CRA) (cur : List Pts) (i : Int) : CRA := { relOf l i with pts := cur.getD i.toNat [] }
def cIn (l : List CRA) (cur : List Pts) (m lo hi k : Int) : List IPr → Int → Int × Int
  | [], d => (d, 0)
  | p :: ps, d => if p.2 = k then (if (dialE (curR l cur p.1) (relOf l k) m lo hi).2 ≠ 0 then (0, (dialE (curR l cur p.1) (relOf l k) m lo hi).2) else cIn l cur m lo hi k ps (max d (dialE (curR l cur p.1) (relOf l k) m lo hi).1)) else cIn l cur m lo hi k ps d
def thou (d : Int) : Int := if d = 0 then 1000 else d
def cOut (l : List CRA) (ps : List IPr) (m lo hi : Int) : List Int → List Int × List Pts → List Int × Int
  | [], st => (st.1, 0)
  | k :: ks, st =>
    if (cIn l st.2 m lo hi k ps (st.1.getD k.toNat 0)).2 ≠ 0 then ([], (cIn l st.2 m lo hi k ps (st.1.getD k.toNat 0)).2)
    else if (relOf l k).pts.scaleE (thou (cIn l st.2 m lo hi k ps (st.1.getD k.toNat 0)).1) ≠ 0 then ([], 2)
    else cOut l ps m lo hi ks (st.1.set k.toNat (thou (cIn l st.2 m lo hi k ps (st.1.getD k.toNat 0)).1), st.2.set k.toNat ((relOf l k).pts.scaled (thou (cIn l st.2 m lo hi k ps (st.1.getD k.toNat 0)).1)))
def coordE (l : List CRA) (ps : List IPr) (m lo hi : Int) : List Int × Int :=
  if setE l ps ≠ 0 then ([], setE l ps) else
  if (seqE ps l.length []).length < l.length then ([], 11) else
  cOut l ps m lo hi (seqE ps l.length []) (List.replicate l.length 0, l.map (·.pts))
theorem cIn_drop {l : List CRA} {cur : List Pts} {m lo hi k : Int} {ps : List IPr} {j : Nat} {p : IPr} {d : Int} (h : ps[j]? = some p) :
    cIn l cur m lo hi k (ps.drop j) d = if p.2 = k then (if (dialE (curR l cur p.1) (relOf l k) m lo hi).2 ≠ 0 then (0, (dialE (curR l cur p.1) (relOf l k) m lo hi).2) else cIn l cur m lo hi k (ps.drop (j + 1)) (max d (dialE (curR l cur p.1) (relOf l k) m lo hi).1)) else cIn l cur m lo hi k (ps.drop (j + 1)) d := by
  obtain ⟨hk, hx⟩ := List.getElem?_eq_some_iff.1 h
  rw [List.drop_eq_getElem_cons hk, hx]; rfl
theorem cOut_drop {l : List CRA} {ps : List IPr} {m lo hi : Int} {ol : List Int} {q : Nat} {k : Int} {st : List Int × List Pts} (h : ol[q]? = some k) :
    cOut l ps m lo hi (ol.drop q) st =
    if (cIn l st.2 m lo hi k ps (st.1.getD k.toNat 0)).2 ≠ 0 then ([], (cIn l st.2 m lo hi k ps (st.1.getD k.toNat 0)).2)
    else if (relOf l k).pts.scaleE (thou (cIn l st.2 m lo hi k ps (st.1.getD k.toNat 0)).1) ≠ 0 then ([], 2)
    else cOut l ps m lo hi (ol.drop (q + 1)) (st.1.set k.toNat (thou (cIn l st.2 m lo hi k ps (st.1.getD k.toNat 0)).1), st.2.set k.toNat ((relOf l k).pts.scaled (thou (cIn l st.2 m lo hi k ps (st.1.getD k.toNat 0)).1))) := by
  obtain ⟨hk, hx⟩ := List.getElem?_eq_some_iff.1 h
  rw [List.drop_eq_getElem_cons hk, hx]; rfl
theorem dialE_congr {a a' b b' : CRA} {m lo hi : Int} (h1 : a.pts = a'.pts) (h2 : a.pk = a'.pk) (h3 : b.pts = b'.pts) (h4 : b.pk = b'.pk) : dialE a b m lo hi = dialE a' b' m lo hi := by
  have e : dialOk a b m lo hi = dialOk a' b' m lo hi := by unfold dialOk; rw [h1, h2, h3, h4]
  unfold dialE; rw [e, h1, h2, h3, h4]
theorem seqF_ok {ps : List IPr} {n : Nat} : ∀ (f : Nat) (out : List Int), (∀ x ∈ out, 0 ≤ x ∧ x < n) → muR out n + out.length ≤ n → (∀ x ∈ seqF ps n f out, 0 ≤ x ∧ x < n) ∧ muR (seqF ps n f out) n + (seqF ps n f out).length ≤ n := by
  intro f
  induction f with
  | zero => intro out h1 h2; exact ⟨h1, h2⟩
  | succ f ih =>
    intro out h1 h2
    unfold seqF
    cases h : findR ps out n 0 with
    | none => exact ⟨h1, h2⟩
    | some k =>
      obtain ⟨_, hk, hr⟩ := findR_some _ _ _ h
      have h3 := (muR_snoc out k n).2 (by omega) (ready_not hr)
      refine ih _ (fun x hx => ?_) (by rw [List.length_append, List.length_singleton]; omega)
      rcases List.mem_append.1 hx with hx | hx
      · exact h1 x hx
      · simp at hx; subst hx; omega
theorem seqE_ok (ps : List IPr) (n : Nat) : (∀ x ∈ seqE ps n [], 0 ≤ x ∧ x < n) ∧ muR (seqE ps n []) n + (seqE ps n []).length ≤ n :=
  seqF_ok _ [] (fun x hx => by cases hx) (by rw [muR_nil]; exact Nat.le_refl _)
/-- The relays as they are now, in a row of the call's own; no curve lies in it or in block db. -/
def OwnR (W : World) (ov : Value) (g db : Nat) (l : List CRA) (cur : List Pts) : Prop :=
  ∃ (c : Nat) (O : List CRA), ov = .slice (some ⟨g, 0, none⟩) l.length c ∧ l.length ≤ c ∧ Seg W g 56 (flat CRA.cells O) ∧ O.length = l.length ∧
    ∀ i x, l[i]? = some x → ∃ y, O[i]? = some y ∧ y.pk = x.pk ∧ y.pts = cur.getD i [] ∧ PVal W (.slice y.ca y.cl y.cc) y.pts ∧ (y.pts = [] ∨ ((Value.slice y.ca y.cl y.cc).ownBlock ≠ some g ∧ (Value.slice y.ca y.cl y.cc).ownBlock ≠ some db))
theorem OwnR.below {W W' : World} {ov : Value} {g db : Nat} {l : List CRA} {cur : List Pts} (h : OwnR W ov g db l cur) (k : Below W.heap.size W W') : OwnR W' ov g db l cur := by
  obtain ⟨c, O, h1, h2, h3, h4, h5⟩ := h
  refine ⟨c, O, h1, h2, h3.below k h3.lt, h4, fun i x hx => ?_⟩
  obtain ⟨y, e1, e2, e3, e4, e5⟩ := h5 i x hx
  exact ⟨y, e1, e2, e3, e4.below k, e5⟩
theorem PVal.keep {W : World} {v : Value} {l : Pts} (h : PVal W v l) {g j : Nat} (hv : l = [] ∨ v.ownBlock ≠ some g) (u : Value) : PVal (W.setCell ⟨g, j, none⟩ u) v l := by
  rcases hv with rfl | hv
  · rcases h with h | ⟨b, off, cap, rfl, _⟩
    · exact Or.inl h
    · exact Or.inl ⟨rfl, _, _, rfl⟩
  · exact h.other hv u
/-- A store of a number in block db. -/
theorem OwnR.dial {W : World} {ov : Value} {g db : Nat} {l : List CRA} {cur : List Pts} (h : OwnR W ov g db l cur) (hd : g ≠ db) (j : Nat) (u : Value) : OwnR (W.setCell ⟨db, j, none⟩ u) ov g db l cur := by
  obtain ⟨c, O, h1, h2, h3, h4, h5⟩ := h
  refine ⟨c, O, h1, h2, h3.other _ hd u, h4, fun i x hx => ?_⟩
  obtain ⟨y, e1, e2, e3, e4, e5⟩ := h5 i x hx
  exact ⟨y, e1, e2, e3, e4.keep (e5.imp id And.right) u, e5⟩
/-- A store of a new curve. -/
theorem OwnR.put {W : World} {ov : Value} {g db : Nat} {l : List CRA} {cur : List Pts} (h : OwnR W ov g db l cur) (hc : cur.length = l.length) {k : Nat} (hk : k < l.length) {a : Option Addr} {n c : Nat} {q : Pts} (hv : PVal W (.slice a n c) q) (hg : (Value.slice a n c).ownBlock ≠ some g ∧ (Value.slice a n c).ownBlock ≠ some db) :
    OwnR (W.setCell ⟨g, k * 6 + 3, none⟩ (.slice a n c)) ov g db l (cur.set k q) := by
  obtain ⟨cp, O, h1, h2, h3, h4, h5⟩ := h
  obtain ⟨x, hx⟩ : ∃ x, l[k]? = some x := ⟨_, List.getElem?_eq_getElem hk⟩
  obtain ⟨y, e1, e2, e3, e4, e5⟩ := h5 k x hx
  have hfs := flat_set (f := CRA.cells) (sz := 6) (fun _ => rfl) (l := O) (k := k) (j := 3) (x := y) (y := ⟨y.brk, y.branch, y.node, a, n, c, q, y.pk, y.opn⟩) (u := .slice a n c) e1 rfl (by decide)
  refine ⟨cp, O.set k ⟨y.brk, y.branch, y.node, a, n, c, q, y.pk, y.opn⟩, h1, h2, ?_, by simp [h4], fun i z hz => ?_⟩
  · rw [hfs]; exact h3.set _ _
  · by_cases hik : i = k
    · subst hik
      rw [hx] at hz; cases hz
      refine ⟨⟨y.brk, y.branch, y.node, a, n, c, q, y.pk, y.opn⟩, by rw [List.getElem?_set_self (by omega)], e2, ?_, PVal.other hv hg.1 _, Or.inr hg⟩
      have : i < cur.length := by omega
      simp [this]
    · obtain ⟨u, d1, d2, d3, d4, d5⟩ := h5 i z hz
      refine ⟨u, by rw [List.getElem?_set_ne (Ne.symm hik)]; exact d1, d2, ?_, d4.keep (d5.imp id And.left) _, d5⟩
      rw [d3]; simp [List.getD_eq_getElem?_getD, List.getElem?_set_ne (Ne.symm hik)]
end Go.Proofs.Ytplebibabcdipaa
namespace Go.Proofs.Ytplebibabcdipaa
open Go.RowKit

theorem cra_seg {W : World} {g : Nat} {t : TypeId} {O : List CRA} (h : Seg W g t (flat CRA.cells O)) {k : Nat} {x : CRA} (hx : O[k]? = some x) :
    W.cell? ⟨g, k * 6, none⟩ = some (.string x.brk) ∧ W.cell? ⟨g, k * 6 + 1, none⟩ = some (.string x.branch) ∧ W.cell? ⟨g, k * 6 + 2, none⟩ = some (.string x.node) ∧ W.cell? ⟨g, k * 6 + 3, none⟩ = some (.slice x.ca x.cl x.cc) ∧ W.cell? ⟨g, k * 6 + 4, none⟩ = some (.int .i64 x.pk) ∧ W.cell? ⟨g, k * 6 + 5, none⟩ = some (.int .i64 x.opn) := by
  have := cra_cells (w := W) (b := g) (off := 0) (l := O) (fun j u hj => by rw [Nat.zero_add]; exact h.cell hj) hx
  simpa only [Nat.zero_add] using this
theorem below_set {B : Nat} {a w : World} (h : Below B a w) {g : Nat} (hg : B ≤ g) (j : Nat) (v : Value) : Below B a (w.setCell ⟨g, j, none⟩ v) := h.setCell hg v
set_option maxHeartbeats 16000000 in
set_option maxRecDepth 100000 in
theorem coord_c (l : List CRA) (ps : List IPr) (lv pv : Value) (m lo hi : Int) (w : World) (hl : CRels w lv l) (hp : Reads w pv ps.length (flat pairC ps)) :
    Calls Try.prog 27 #[lv, pv, .int .i64 m, .int .i64 lo, .int .i64 hi] w fun e w' => ∃ dv, e = .returned (.tuple #[dv, .int .i64 (coordE l ps m lo hi).2]) ∧ IVal w' dv (coordE l ps m lo hi).1 ∧ Below w.heap.size w w' := by
  obtain ⟨ra, rc, rfl⟩ := hl.1.slice
  obtain ⟨pa, pc, rfl⟩ := hp.slice
  have HCK := Lib.hid (setCheck_c l ps _ _ w hl hp)
  have HOK := Lib.hid (@setE_ok l ps)
  have HE : Hid (coordE l ps m lo hi = if setE l ps ≠ 0 then ([], setE l ps) else
    if (seqE ps l.length []).length < l.length then ([], 11) else
    cOut l ps m lo hi (seqE ps l.length []) (List.replicate l.length 0, l.map (·.pts))) := rfl
  have HSQ := Lib.hid (fun W (hW : Below w.heap.size w W) (h : l.length ≤ 1000) => seq_c l.length ps (.slice pa ps.length pc) W h (hp.below hW))
  have HCL := Lib.hid (fun W (hW : Below w.heap.size w W) (h : l.length ≤ 1000) => cloneCR_c (.slice ra l.length rc) l W (hl.below hW) h)
  have HDI : Hid (∀ (a b : CRA) W, PVal W (.slice a.ca a.cl a.cc) a.pts → PVal W (.slice b.ca b.cl b.cc) b.pts → Calls Try.prog 22 #[.agg a.cells.toArray, .agg b.cells.toArray, .int .i64 m, .int .i64 lo, .int .i64 hi] W fun e w' => e = .returned (.tuple #[.int .i64 (dialE a b m lo hi).1, .int .i64 (dialE a b m lo hi).2]) ∧ Below W.heap.size W w') := fun a b W ha hb => dial_c a b m lo hi W ha hb
  have HSC : Hid (∀ (x : CRA), x ∈ l → ∀ (d : Int) W, Below w.heap.size w W → Calls Try.prog 24 #[.slice x.ca x.cl x.cc, .int .i64 d] W fun e w' => ScaleIs2 x.pts d W e w') := fun x hx d W hW => scale_c2 _ x.pts d W ((hl.2 x hx).below hW)
  have HPV : Hid (∀ (x : CRA), x ∈ l → ∀ W, Below w.heap.size w W → PVal W (.slice x.ca x.cl x.cc) x.pts) := fun x hx W hW => (hl.2 x hx).below hW
  have HRO : Hid (∀ (i : Nat) x, l[i]? = some x → relOf l (i : Int) = x) := fun i x hx => by unfold relOf; simp [hx]
  have HSO := Lib.hid (seqE_ok ps l.length)
  have hl1 := hl.1
  have HPL : Hid (∀ x ∈ l, x.pts = [] ∨ ∀ j, (Value.slice x.ca x.cl x.cc).ownBlock = some j → j < w.heap.size) := fun x hx => by
    rcases hl.2 x hx with ⟨h, _⟩ | ⟨b, off, cap, h1, _, _, h4, _⟩
    · exact Or.inl h
    · refine Or.inr fun j hj => ?_
      rw [h1] at hj
      have : b = j := Option.some.inj hj
      omega
  generalize coordE l ps m lo hi = E at *
  generalize setE l ps = Z at *
  obtain ⟨OL, hOL⟩ : ∃ o, seqE ps l.length [] = o := ⟨_, rfl⟩
  rw [hOL] at HE HSQ HSO
  obtain ⟨N, hN⟩ : ∃ k, l.length = k := ⟨_, rfl⟩
  obtain ⟨M, hM⟩ : ∃ k, ps.length = k := ⟨_, rfl⟩
  have HN := Lib.hid hN
  have HM := Lib.hid hM
  rw [hN] at hl1 HCK HOK HE HSQ HCL HSO ⊢
  rw [hM] at hp HCK HOK HSQ ⊢
  have HL := Lib.hid hl1
  have HPS := Lib.hid hp
  have HFL := Lib.hid (fun (hn : 0 < N) => hn)
  clear hl hl1 hp hN hM hOL HFL
  go_enter Try.func27, Try.ntmps27
  go_wp2_with fail
  refine HCK.out.mono ?_; rintro e w1 ⟨rfl, hb1⟩
  have B1 := Lib.hid hb1
  clear hb1 HCK
  by_cases hz : Z = 0
  ·
    have g1 : (Z != 0) = false := by simp [hz]
    have HE1 := Lib.hid (HE.out.trans (if_neg (fun h => h hz)))
    obtain ⟨n24, m256, _, hpo⟩ := HOK.out hz
    have HPO := Lib.hid hpo
    have HS1 := Lib.hid (HSQ.out w1 B1.out (by omega))
    clear hz HE hpo HOK HSQ
    go_wp2_with fail
    refine HS1.out.mono ?_; rintro e w2 ⟨ov, rfl, hiv, hb2⟩
    obtain ⟨oa, oc, rfl⟩ := hiv.slice
    have B2 := Lib.hid (belowT B1.out hb2)
    have HIV : Hid (Reads w2 (.slice oa OL.length oc) OL.length (ints OL)) := hiv
    have hoN : OL.length ≤ N := by have := HSO.out.2; omega
    clear hb2 hiv HS1
    by_cases hlt : OL.length < N
    ·
      have g2 : decide (OL.length < N) = true := decide_eq_true hlt
      have HR := Lib.hid (HE1.out.trans (if_pos hlt))
      clear HE1
      go_wp2_with fail
      go_ret2
      exact ⟨_, by rw [HR.out]; rfl, by rw [HR.out]; exact Or.inl ⟨rfl, rfl, none, 0, rfl⟩, B2.out⟩
    ·
      have g2 : decide (OL.length < N) = false := decide_eq_false hlt
      have HE2 := Lib.hid (HE1.out.trans (if_neg hlt))
      have hoe : OL.length = N := by omega
      obtain ⟨i0, hi0, hz0, hz1, hz2⟩ := info_parts infoIntL
      have BM : Hid (Below w2.heap.size w2 (w2.alloc (.cells (madeCells #[.int .i64 0] N) 3))) := belowA (Below.refl _ w2) _
      have KM : Hid (Blk (w2.alloc (.cells (madeCells #[.int .i64 0] N) 3)) w2.heap.size (ints (List.replicate N 0)).toArray 3) := by
        have := Blk.new w2 (madeCells #[.int .i64 0] N) 3
        show Blk _ _ _ _
        rw [← made_ints]; exact this
      clear HE1
      go_wp2_with (at_make; refine wpList_make_row _ rfl _ _ 49 rfl 3 i0 (.int .i64 0) Try.underlying49 hi0 hz0 hz1 rfl .i64 .i64 N rfl rfl (by rw [hz2]; omega) (by omega) ?_)
      obtain ⟨db, hdb⟩ : ∃ x, w2.heap.size = x := ⟨_, rfl⟩
      rw [hdb] at KM ⊢
      have HDB : Hid (w2.heap.size = db) := hdb
      clear hdb
      generalize w2.alloc (.cells (madeCells #[.int .i64 0] N) 3) = W3 at *
      have HC3 := Lib.hid (HCL.out W3 (belowT B2.out BM.out) (by omega))
      refine HC3.out.mono ?_; rintro e w4 ⟨u, rfl, hu1, ⟨ua, uc, rfl⟩, hb4⟩
      have B4 := Lib.hid (belowT (belowT B2.out BM.out) hb4)
      have K4 := Lib.hid (below_blk hb4 KM.out KM.out.lt)
      have B24 := Lib.hid (belowT BM.out hb4)
      have HOW0 : Hid (0 < N → ∃ g, OwnR w4 (.slice ua N uc) g db l (l.map (·.pts)) ∧ db < g) := by
        intro hn
        obtain ⟨g, c, h1, h2, h3, h4⟩ := Seg.of_owns (hu1 hn) hn
        refine ⟨g, ⟨c, l, by rw [h1, HN.out], by rw [HN.out]; exact h3, h4, rfl, fun i x hx => ⟨x, hx, rfl, ?_, HPV.out x (List.mem_of_getElem? hx) w4 B4.out, ?_⟩⟩, ?_⟩
        · simp [List.getD_eq_getElem?_getD, hx]
        · rcases HPL.out x (List.mem_of_getElem? hx) with h | h
          · exact Or.inl h
          · have h6 := (belowT B2.out BM.out).size
            have h7 := B2.out.size
            have h8 := HDB.out
            exact Or.inr ⟨fun e => by have := h _ e; omega, fun e => by have := h _ e; omega⟩
        · have := KM.out.lt; omega
      clear hb4 hu1 HC3 HCL KM BM
      have HI4 := Lib.hid (HIV.out.below B24.out)
      have HC0 : Hid (cOut l ps m lo hi (OL.drop 0) (List.replicate N 0, l.map (·.pts)) = E) := HE2.out.symm
      have HL0 : Hid ((List.replicate N (0 : Int)).length = N ∧ (l.map (·.pts)).length = N) := ⟨by simp, by simp; exact HN.out⟩
      clear HE2 HPL
      go_wp2_with fail
      have B42 : Hid (Below w2.heap.size w2 w4) := B24.out
      go_loopw [46] (fun i wr => ∃ (q : Nat) (ds : List Int) (cur : List Pts), q ≤ OL.length ∧ i = .int .i64 q ∧ Hid (cOut l ps m lo hi (OL.drop q) (ds, cur) = E) ∧ Hid (ds.length = N ∧ cur.length = N) ∧ Hid (Blk wr db (ints ds).toArray 3) ∧ Hid (0 < N → ∃ g, OwnR wr (.slice ua N uc) g db l cur ∧ db < g) ∧ Hid (Below w.heap.size w wr) ∧ Hid (Below w2.heap.size w2 wr)) (fun i _ => OL.length - (intOf i).toNat)
      case atStart => exact ⟨0, List.replicate N 0, l.map (·.pts), Nat.zero_le _, rfl, HC0, HL0, K4, HOW0, B4, B42⟩
      case round =>
        clear HC0 HL0 K4 HOW0 B4 B42 HI4 B24
        obtain ⟨q, ds, cur, hq, rfl, hco, hdl, hkd, how, hbw, hb2⟩ := hrel
        by_cases hqt : q < OL.length
        ·
          obtain ⟨kI, hkI⟩ : ∃ x, OL[q]? = some x := ⟨_, List.getElem?_eq_getElem hqt⟩
          have hrng := HSO.out.1 kI (List.mem_of_getElem? hkI)
          obtain ⟨k, rfl⟩ := Int.eq_ofNat_of_zero_le hrng.1
          have hkN : k < N := by omega
          have hqN : q < N := by omega
          have hod := cOut_drop (l := l) (ps := ps) (m := m) (lo := lo) (hi := hi) (st := (ds, cur)) hkI
          rw [hco.out] at hod
          obtain ⟨og, ooff, ocap, ovv, _, _, _, oc4⟩ := (HIV.out.below hb2.out).addr (by omega)
          simp only [Value.slice.injEq] at ovv
          obtain ⟨rfl, _, rfl⟩ := ovv
          have c0 := oc4 q _ (ints_get hqt)
          have hgq : OL.getD q 0 = (k : Int) := by simp [hkI]
          rw [hgq] at c0
          obtain ⟨x, hx⟩ : ∃ x, l[k]? = some x := ⟨_, List.getElem?_eq_getElem (by rw [HN.out]; exact hkN)⟩
          have hrx := HRO.out k x hx
          simp only [hrx, Int.toNat_natCast] at hod
          obtain ⟨CI, hCI⟩ : ∃ c, cIn l cur m lo hi k ps (ds.getD k 0) = c := ⟨_, rfl⟩
          rw [hCI] at hod
          have HOD := Lib.hid hod
          have HCI : Hid (cIn l cur m lo hi k (ps.drop 0) (ds.getD k 0) = CI) := hCI
          obtain ⟨g, hown, hdg⟩ := how.out (by omega)
          have HXM := Lib.hid (List.mem_of_getElem? hx)
          have HX := Lib.hid hx
          have HRX := Lib.hid hrx
          have hself : ds.set k (ds.getD k 0) = ds := by
            have h : k < ds.length := by rw [hdl.out.1]; exact hkN
            simp [h]
          have KD0 : Hid (Blk wr db (ints (ds.set k (ds.getD k 0))).toArray 3) := by show Blk _ _ _ _; rw [hself]; exact hkd.out
          have HOW := Lib.hid hown
          obtain ⟨rg, roff, rcap, rvv, _, _, hrg, rcc⟩ := HL.out.addr (by omega)
          simp only [Value.slice.injEq] at rvv
          obtain ⟨rfl, _, rfl⟩ := rvv
          have HRC : Hid (∀ (i : Nat) z, l[i]? = some z → ∀ W, Below w.heap.size w W → W.cell? ⟨rg, roff + i * 6, none⟩ = some (.string z.brk) ∧ W.cell? ⟨rg, roff + i * 6 + 1, none⟩ = some (.string z.branch) ∧ W.cell? ⟨rg, roff + i * 6 + 2, none⟩ = some (.string z.node) ∧ W.cell? ⟨rg, roff + i * 6 + 3, none⟩ = some (.slice z.ca z.cl z.cc) ∧ W.cell? ⟨rg, roff + i * 6 + 4, none⟩ = some (.int .i64 z.pk) ∧ W.cell? ⟨rg, roff + i * 6 + 5, none⟩ = some (.int .i64 z.opn)) := fun i z hz W hW =>
            cra_cells (fun j u hj => by rw [hW.cell (p := ⟨rg, roff + j, none⟩) hrg]; exact rcc j u hj) hz
          generalize ds.getD k 0 = dk0 at *
          clear hod hCI hco hkI hrng hgq hx hrx how hown hself hkd oc4 rcc hrg
          go_wp2_with fail
          go_loopw [52] (fun i wr => ∃ (j : Nat) (d : Int), j ≤ M ∧ i = .int .i64 j ∧ Hid (cIn l cur m lo hi k (ps.drop j) d = CI) ∧ Hid (Blk wr db (ints (ds.set k d)).toArray 3) ∧ Hid (OwnR wr (.slice ua N uc) g db l cur) ∧ Hid (Below w.heap.size w wr) ∧ Hid (Below w2.heap.size w2 wr)) (fun i _ => M - (intOf i).toNat)
          case atStart => exact ⟨0, dk0, Nat.zero_le _, rfl, HCI, KD0, HOW, hbw, hb2⟩
          case round =>
            clear HCI KD0 HOW hbw hb2 c0
            obtain ⟨j, d, hj, rfl, hci, hkd, hown, hbw, hb2⟩ := hrel
            by_cases hjt : j < M
            ·
              obtain ⟨p, hp⟩ : ∃ x, ps[j]? = some x := ⟨_, List.getElem?_eq_getElem (by rw [HM.out]; exact hjt)⟩
              obtain ⟨pg, poff, pcap, pvv, _, _, _, pcc⟩ := (HPS.out.below hbw.out).addr (by omega)
              simp only [Value.slice.injEq] at pvv
              obtain ⟨rfl, _, rfl⟩ := pvv
              obtain ⟨c0, c1⟩ := pair_cells pcc hp
              have hcd := cIn_drop (l := l) (cur := cur) (m := m) (lo := lo) (hi := hi) (k := (k : Int)) (d := d) hp
              rw [hci.out, HRX.out] at hcd
              obtain ⟨p0, p1, p2, p3, _⟩ := HPO.out p (List.mem_of_getElem? hp)
              obtain ⟨a, b⟩ := p
              simp only at c0 c1 p0 p1 p2 p3 hcd
              obtain ⟨a, rfl⟩ := Int.eq_ofNat_of_zero_le p0
              obtain ⟨b, rfl⟩ := Int.eq_ofNat_of_zero_le p2
              have haN : a < N := by omega
              have HCD := Lib.hid hcd
              have PK := Lib.hid (Blk.new wr #[.int .i64 a, .int .i64 b] 71)
              have KD1 := Lib.hid (hkd.out.alloc (.cells #[.int .i64 a, .int .i64 b] 71))
              have BW1 := Lib.hid (belowA hbw.out (.cells #[.int .i64 a, .int .i64 b] 71))
              have B21 := Lib.hid (belowA hb2.out (.cells #[.int .i64 a, .int .i64 b] 71))
              have OW1 := Lib.hid (hown.out.below (belowA (Below.refl _ wr) (.cells #[.int .i64 a, .int .i64 b] 71)))
              clear hcd pcc hp hci p0 p1 p2 p3
              by_cases hbk : b = k
              ·
                obtain rfl : k = b := hbk.symm
                have g5 : ((k : Int) != (k : Int)) = false := by simp
                have hc2 := HCD.out.trans (if_pos rfl)
                obtain ⟨xa, hxa⟩ : ∃ x, l[a]? = some x := ⟨_, List.getElem?_eq_getElem (by rw [HN.out]; exact haN)⟩
                obtain ⟨cq, O, hov, hcq, hseg, hol, hoo⟩ := OW1.out
                simp only [Value.slice.injEq] at hov
                obtain ⟨rfl, hov2, rfl⟩ := hov
                clear hov2
                obtain ⟨y, hy, hypk, hypts, hyp, hyo⟩ := hoo a xa hxa
                have hde : dialE (curR l cur a) x m lo hi = dialE y x m lo hi := dialE_congr (by rw [hypts]; rfl) (by rw [hypk]; show (relOf l (a : Int)).pk = _; rw [HRO.out a xa hxa]) rfl rfl
                rw [hde] at hc2
                have HYX := Lib.hid (HDI.out y x)
                obtain ⟨D, hD⟩ : ∃ D, dialE y x m lo hi = D := ⟨_, rfl⟩
                rw [hD] at hc2 HYX
                have HC2 := Lib.hid hc2
                have HXP := Lib.hid (HPV.out x HXM.out)
                have HRK := Lib.hid (HRC.out k x HX.out)
                obtain ⟨o0, o1, o2, o3, o4, o5⟩ := cra_seg hseg hy
                obtain ⟨pb, hpb⟩ : ∃ b, wr.heap.size = b := ⟨_, rfl⟩
                rw [hpb] at PK
                have HPB := Lib.hid hpb
                have hgl := hseg.lt
                clear hc2 hde hD hoo hol hseg hcq hpb hxa hbk hy
                go_wp2_with fail
                rw [HPB.out]
                generalize wr.alloc (.cells #[.int .i64 a, .int .i64 k] 71) = W5 at *
                clear c0 c1 HPB hkd hbw hb2 hown HCD
                obtain ⟨xbk, xbr, xnd, xca, xcl, xcc, xpts, xpk, xop⟩ := x
                obtain ⟨ybk, ybr, ynd, yca, ycl, ycc, ypts, ypk, yop⟩ := y
                simp only at o0 o1 o2 o3 o4 o5 HYX HXP HRK hyp
                have D0 : Hid (Below W5.heap.size W5 W5.drew) := ⟨rfl, rfl, rfl, Nat.le_refl _, fun _ _ => rfl⟩
                have HYA : Hid ((CRA.cells ⟨ybk, ybr, ynd, yca, ycl, ycc, ypts, ypk, yop⟩).toArray = #[.string ybk, .string ybr, .string ynd, .slice yca ycl ycc, .int .i64 ypk, .int .i64 yop]) := rfl
                have HXA : Hid ((CRA.cells ⟨xbk, xbr, xnd, xca, xcl, xcc, xpts, xpk, xop⟩).toArray = #[.string xbk, .string xbr, .string xnd, .slice xca xcl xcc, .int .i64 xpk, .int .i64 xop]) := rfl
                have hY7 := HYX.out W5.drew (hyp.below D0.out) (HXP.out W5.drew (belowT BW1.out D0.out))
                rw [HYA.out, HXA.out] at hY7
                have HY7 := Lib.hid hY7
                have HO0 := Lib.hid o0
                have HO1 := Lib.hid o1
                have HO2 := Lib.hid o2
                have HO3 := Lib.hid o3
                have HO4 := Lib.hid o4
                have HO5 := Lib.hid o5
                have HSS : Hid (∀ W, Below W5.heap.size W5 W → (W.cell? ⟨pb, 0, none⟩ = some (.int .i64 a) ∧ W.cell? ⟨g, a * 6, none⟩ = some (.string ybk) ∧ W.cell? ⟨g, a * 6 + 1, none⟩ = some (.string ybr) ∧ W.cell? ⟨g, a * 6 + 2, none⟩ = some (.string ynd) ∧ W.cell? ⟨g, a * 6 + 3, none⟩ = some (.slice yca ycl ycc) ∧ W.cell? ⟨g, a * 6 + 4, none⟩ = some (.int .i64 ypk) ∧ W.cell? ⟨g, a * 6 + 5, none⟩ = some (.int .i64 yop) ∧ W.cell? ⟨rg, roff + k * 6, none⟩ = some (.string xbk) ∧ W.cell? ⟨rg, roff + k * 6 + 1, none⟩ = some (.string xbr) ∧ W.cell? ⟨rg, roff + k * 6 + 2, none⟩ = some (.string xnd) ∧ W.cell? ⟨rg, roff + k * 6 + 3, none⟩ = some (.slice xca xcl xcc) ∧ W.cell? ⟨rg, roff + k * 6 + 4, none⟩ = some (.int .i64 xpk) ∧ W.cell? ⟨rg, roff + k * 6 + 5, none⟩ = some (.int .i64 xop))) := fun W hW => by
                  have h1 := (below_blk hW PK.out PK.out.lt).cell 0 rfl
                  have h2 := HRK.out W (belowT BW1.out hW)
                  have h3 : ∀ j, W.cell? ⟨g, j, none⟩ = W5.cell? ⟨g, j, none⟩ := fun j => hW.cell (p := ⟨g, j, none⟩) hgl
                  exact ⟨h1, (h3 _).trans HO0.out, (h3 _).trans HO1.out, (h3 _).trans HO2.out, (h3 _).trans HO3.out, (h3 _).trans HO4.out, (h3 _).trans HO5.out, h2⟩
                clear o0 o1 o2 o3 o4 o5 hY7 hyp hyo hypk hypts HYX
                go_cut [20, 21] from 60 to 75 (fun s20 s21 wc => s20 = .int .i64 D.1 ∧ s21 = .int .i64 D.2 ∧ Hid (Below W5.heap.size W5 wc))
                case first =>
                  go_region_held3 (fun W => (W.cell? ⟨pb, 0, none⟩ = some (.int .i64 a) ∧ W.cell? ⟨g, a * 6, none⟩ = some (.string ybk) ∧ W.cell? ⟨g, a * 6 + 1, none⟩ = some (.string ybr) ∧ W.cell? ⟨g, a * 6 + 2, none⟩ = some (.string ynd) ∧ W.cell? ⟨g, a * 6 + 3, none⟩ = some (.slice yca ycl ycc) ∧ W.cell? ⟨g, a * 6 + 4, none⟩ = some (.int .i64 ypk) ∧ W.cell? ⟨g, a * 6 + 5, none⟩ = some (.int .i64 yop) ∧ W.cell? ⟨rg, roff + k * 6, none⟩ = some (.string xbk) ∧ W.cell? ⟨rg, roff + k * 6 + 1, none⟩ = some (.string xbr) ∧ W.cell? ⟨rg, roff + k * 6 + 2, none⟩ = some (.string xnd) ∧ W.cell? ⟨rg, roff + k * 6 + 3, none⟩ = some (.slice xca xcl xcc) ∧ W.cell? ⟨rg, roff + k * 6 + 4, none⟩ = some (.int .i64 xpk) ∧ W.cell? ⟨rg, roff + k * 6 + 5, none⟩ = some (.int .i64 xop)))
                    (first
                      | with_reducible exact HSS.out _ D0.out
                      | with_reducible exact HSS.out _ D1.out)
                    ((go_at_call 22; refine HY7.out.mono ?_; rintro e w7 ⟨rfl, hb7⟩; have D1 := Lib.hid (belowT D0.out hb7); clear hb7))
                  all_goals
                    go_simp
                    go_wp2_with fail
                    go_meet
                    exact ⟨rfl, rfl, D1⟩
                case rest =>
                  obtain ⟨rfl, rfl, hbc⟩ := hcut
                  have BW6 := Lib.hid (belowT BW1.out hbc.out)
                  have B26 := Lib.hid (belowT B21.out hbc.out)
                  have KD6 := Lib.hid (below_blk hbc.out KD1.out KD1.out.lt)
                  have OW6 := Lib.hid (OW1.out.below hbc.out)
                  obtain ⟨D1, D2⟩ := D
                  simp only at HC2
                  clear hbc HSS HO0 HO1 HO2 HO3 HO4 HO5 PK KD1 OW1 BW1 B21 HY7 D0
                  by_cases hd2 : D2 = 0
                  ·
                    have g6 : (D2 != 0) = false := by simp [hd2]
                    have HC3 := Lib.hid (HC2.out.trans (if_neg (fun h => h hd2)))
                    have hkl : k < (ds.set k d).length := by rw [List.length_set, hdl.out.1]; exact hkN
                    have ck := KD6.out.int hkl
                    have hgk : (ds.set k d).getD k 0 = d := by
                      have : k < ds.length := by rw [hdl.out.1]; exact hkN
                      simp [this]
                    rw [hgk] at ck
                    have cf := KD6.out.free k
                    have HSS2 : Hid (∀ v : Int, Blk (wc.setCell ⟨db, k, none⟩ (.int .i64 v)) db (ints (ds.set k v)).toArray 3 ∧ OwnR (wc.setCell ⟨db, k, none⟩ (.int .i64 v)) (.slice (some ⟨g, 0, none⟩) N uc) g db l cur ∧ Below w.heap.size w (wc.setCell ⟨db, k, none⟩ (.int .i64 v)) ∧ Below w2.heap.size w2 (wc.setCell ⟨db, k, none⟩ (.int .i64 v))) := fun v =>
                      ⟨by have h := KD6.out.set k (.int .i64 v); rw [ints_set, List.set_set] at h; exact h, OW6.out.dial (by omega) k _, below_set BW6.out (show w.heap.size ≤ db by have := HDB.out; have := B2.out.size; omega) k _, below_set B26.out (show w2.heap.size ≤ db by have := HDB.out; omega) k _⟩
                    clear hd2 HC2 hkl hgk KD6 OW6 BW6 B26
                    by_cases hmx : d < D1
                    ·
                      have HC4 : Hid (CI = cIn l cur m lo hi k (ps.drop (j + 1)) D1) := by show _ = _; rw [HC3.out, Int.max_eq_right (by omega)]
                      clear HC3
                      go_wp2_with fail
                      go_roundw
                      case rel => exact ⟨j + 1, D1, hjt, by go_num, HC4.out.symm, (HSS2.out D1).1, (HSS2.out D1).2.1, (HSS2.out D1).2.2.1, (HSS2.out D1).2.2.2⟩
                      case measure => simp [intOf]; omega
                    ·
                      have HC4 : Hid (CI = cIn l cur m lo hi k (ps.drop (j + 1)) d) := by show _ = _; rw [HC3.out, Int.max_eq_left (by omega)]
                      clear HC3
                      go_wp2_with fail
                      go_roundw
                      case rel => exact ⟨j + 1, d, hjt, by go_num, HC4.out.symm, (HSS2.out d).1, (HSS2.out d).2.1, (HSS2.out d).2.2.1, (HSS2.out d).2.2.2⟩
                      case measure => simp [intOf]; omega
                  ·
                    have g6 : (D2 != 0) = true := by simp [hd2]
                    have HCE : Hid (CI = (0, D2)) := HC2.out.trans (if_pos hd2)
                    have HR : Hid (E = ([], D2)) := by show _ = _; rw [HOD.out, HCE.out]; exact if_pos hd2
                    clear hd2 HC2 HCE HOD
                    go_wp2_with fail
                    go_ret2
                    exact ⟨_, by rw [HR.out]; rfl, by rw [HR.out]; exact Or.inl ⟨rfl, rfl, none, 0, rfl⟩, BW6.out⟩
              ·
                have g5 : ((b : Int) != (k : Int)) = true := by rw [bne_iff_ne]; omega
                have HC2 := Lib.hid (HCD.out.trans (if_neg (by omega)))
                clear HCD hkd hbw hb2 hown
                go_wp2_with fail
                go_roundw
                case rel => exact ⟨j + 1, d, hjt, by go_num, HC2.out.symm, KD1, OW1, BW1, B21⟩
                case measure => simp [intOf]; omega
            ·
              have hpn : ps.drop j = [] := List.drop_eq_nil_of_le (by rw [HM.out]; omega)
              have HCE : Hid (CI = (d, 0)) := by show _ = _; rw [← hci.out, hpn]; rfl
              have hfin : E = if x.pts.scaleE (thou d) ≠ 0 then ([], 2) else cOut l ps m lo hi (OL.drop (q + 1)) (ds.set k (thou d), cur.set k (x.pts.scaled (thou d))) := by
                rw [HOD.out, HCE.out]; exact if_neg (fun h => h rfl)
              have HRK := Lib.hid (HRC.out k x HX.out)
              have HSC0 := Lib.hid (HSC.out x HXM.out)
              have HDL : Hid (ds.length = N) := hdl.out.1
              have HDC : Hid (cur.length = N) := hdl.out.2
              clear hci hpn HOD HCE
              obtain ⟨xbk, xbr, xnd, xca, xcl, xcc, xpts, xpk, xop⟩ := x
              simp only at hfin HRK HSC0
              have hkl : k < (ds.set k d).length := by rw [List.length_set, HDL.out]; exact hkN
              have ck := hkd.out.int hkl
              have hgk : (ds.set k d).getD k 0 = d := by
                have : k < ds.length := by rw [HDL.out]; exact hkN
                simp [this]
              rw [hgk] at ck
              by_cases hd0 : d = 0
              ·
                have g8 : (d == 0) = true := by simp [hd0]
                have hth : thou d = 1000 := by unfold thou; rw [if_pos hd0]
                rw [hth] at hfin
                have HFIN := Lib.hid hfin
                have cf := hkd.out.free k
                have KDT : Hid (Blk (wr.setCell ⟨db, k, none⟩ (.int .i64 1000)) db (ints (ds.set k 1000)).toArray 3) := by have h := hkd.out.set k (.int .i64 1000); rw [ints_set, List.set_set] at h; exact h
                have OWT : Hid (OwnR (wr.setCell ⟨db, k, none⟩ (.int .i64 1000)) (.slice ua N uc) g db l cur) := hown.out.dial (by omega) k _
                have BWT : Hid (Below w.heap.size w (wr.setCell ⟨db, k, none⟩ (.int .i64 1000))) := below_set hbw.out (show w.heap.size ≤ db by have := HDB.out; have := B2.out.size; omega) k _
                have B2T : Hid (Below w2.heap.size w2 (wr.setCell ⟨db, k, none⟩ (.int .i64 1000))) := below_set hb2.out (show w2.heap.size ≤ db by have := HDB.out; omega) k _
                have hgg : g ≠ db := by omega
                clear hd0 hth hfin hkl hgk hkd hown hbw hb2
                go_upto_region 23 with fail
                generalize wr.setCell ⟨db, k, none⟩ (.int .i64 1000) = wr at *
                clear ck cf
                have HKD := KDT
                have HOW := OWT
                have HBW := BWT
                have HB2W := B2T
                clear KDT OWT BWT B2T
                have HSS : Hid (∀ W, Below wr.heap.size wr W → W.cell? ⟨rg, roff + k * 6 + 3, none⟩ = some (.slice xca xcl xcc) ∧ W.cell? ⟨db, k, none⟩ = some (.int .i64 1000)) := fun W hW => ⟨(HRK.out W (belowT HBW.out hW)).2.2.2.1, by
                  have h := below_blk hW HKD.out HKD.out.lt
                  have h1 := h.int (i := k) (by rw [List.length_set, HDL.out]; exact hkN)
                  have h2 : (ds.set k 1000).getD k 0 = 1000 := by
                    have : k < ds.length := by rw [HDL.out]; exact hkN
                    simp [this]
                  rw [h2] at h1; exact h1⟩
                have D0 : Hid (Below wr.heap.size wr wr.drew) := ⟨rfl, rfl, rfl, Nat.le_refl _, fun _ _ => rfl⟩
                have HSX := Lib.hid (HSC0.out 1000 wr.drew (belowT HBW.out D0.out))
                obtain ⟨SE, hSE⟩ : ∃ c, xpts.scaleE 1000 = c := ⟨_, rfl⟩
                obtain ⟨SQ, hSQ⟩ : ∃ c, xpts.scaled 1000 = c := ⟨_, rfl⟩
                have HSY : Hid (∀ e w', ScaleIs2 xpts 1000 wr.drew e w' → ∃ v, e = .returned (.tuple #[v, .int .i64 SE]) ∧ Below wr.heap.size wr.drew w' ∧ (SE = 0 → PVal w' v SQ) ∧ (∀ j, v.ownBlock = some j → wr.heap.size ≤ j)) := fun e w' h => by
                  obtain ⟨v, a1, a2, _, a4, a5⟩ := h
                  rw [hSE] at a1 a4
                  rw [hSQ] at a4
                  exact ⟨v, a1, a2, a4, a5⟩
                rw [hSE, hSQ] at HFIN
                clear hSE hSQ
                go_wp2_with fail
                go_cut [22, 23] from 97 to 109 (fun s22 s23 wc => ∃ v, s22 = v ∧ s23 = .int .i64 SE ∧ Hid (Below wr.heap.size wr wc) ∧ Hid (SE = 0 → PVal wc v SQ) ∧ Hid (∀ j, v.ownBlock = some j → wr.heap.size ≤ j))
                case first =>
                  go_region_held3 (fun W => W.cell? ⟨rg, roff + k * 6 + 3, none⟩ = some (.slice xca xcl xcc) ∧ W.cell? ⟨db, k, none⟩ = some (.int .i64 1000))
                    (first
                      | with_reducible exact HSS.out _ D0.out
                      | with_reducible exact HSS.out _ D1.out)
                    ((go_at_call 24; refine HSX.out.mono ?_; intro e w7 hsc; obtain ⟨v, rfl, hb7, hv1, hv2⟩ := HSY.out e w7 hsc; have D1 := Lib.hid (belowT D0.out hb7); have HV1 := Lib.hid hv1; have HV2 := Lib.hid hv2; clear hb7 hv1 hv2 hsc))
                  all_goals
                    go_simp
                    go_wp2_with fail
                    go_meet
                    exact ⟨v, rfl, rfl, D1, HV1, HV2⟩
                case rest =>
                  obtain ⟨v, rfl, rfl, hbc, hv1, hv2⟩ := hcut
                  have BWC := Lib.hid (belowT HBW.out hbc.out)
                  have B2C := Lib.hid (belowT HB2W.out hbc.out)
                  have KDC := Lib.hid (below_blk hbc.out HKD.out HKD.out.lt)
                  have OWC := Lib.hid (HOW.out.below hbc.out)
                  have HGL : Hid (g < wr.heap.size ∧ db < wr.heap.size) := ⟨by obtain ⟨_, _, _, _, h, _⟩ := HOW.out; exact h.lt, HKD.out.lt⟩
                  clear HSS D0 HSX HSY HKD HBW HB2W HOW hbc
                  by_cases hse : SE = 0
                  ·
                    have g7 : (SE != 0) = false := by simp [hse]
                    have HPVN := Lib.hid (hv1.out hse)
                    have HFN := Lib.hid (HFIN.out.trans (if_neg (fun h => h hse)))
                    clear hse HFIN hv1
                    obtain ⟨va, vn, vc, rfl⟩ := HPVN.out.slice
                    have HNE : Hid ((Value.slice va vn vc).ownBlock ≠ some g ∧ (Value.slice va vn vc).ownBlock ≠ some db) := ⟨fun e => by have := hv2.out _ e; have := HGL.out.1; omega, fun e => by have := hv2.out _ e; have := HGL.out.2; omega⟩
                    have HON := Lib.hid (OWC.out.put (by rw [HDC.out, HN.out]) (by rw [HN.out]; exact hkN) HPVN.out HNE.out)
                    obtain ⟨cq, O, hov, hcq, hseg, hol, hoo⟩ := OWC.out
                    simp only [Value.slice.injEq] at hov
                    obtain ⟨rfl, hov2, rfl⟩ := hov
                    clear hov2
                    obtain ⟨y, hy, _⟩ := hoo k _ HX.out
                    have o3 := (cra_seg hseg hy).2.2.2.1
                    have of3 := hseg.free (k * 6 + 3)
                    have KDF : Hid (Blk (wc.setCell ⟨g, k * 6 + 3, none⟩ (.slice va vn vc)) db (ints (ds.set k 1000)).toArray 3) := KDC.out.setOther _ (by show db ≠ g; omega) _
                    have HDL2 : Hid ((ds.set k 1000).length = N ∧ (cur.set k SQ).length = N) := ⟨by rw [List.length_set]; exact HDL.out, by rw [List.length_set]; exact HDC.out⟩
                    have BWF := Lib.hid (below_set BWC.out (show w.heap.size ≤ g by have := HDB.out; have := B2.out.size; omega) (k * 6 + 3) (.slice va vn vc))
                    have B2F := Lib.hid (below_set B2C.out (show w2.heap.size ≤ g by have := HDB.out; omega) (k * 6 + 3) (.slice va vn vc))
                    clear hseg hoo hol hy KDC OWC BWC B2C HPVN HNE hcq
                    go_wp2_with fail
                    go_roundw
                    case rel => exact ⟨q + 1, ds.set k 1000, cur.set k SQ, hqt, by go_num, HFN.out.symm, HDL2, KDF, fun _ => ⟨g, HON.out, hdg⟩, BWF, B2F⟩
                    case measure => simp [intOf]; omega
                  ·
                    have g7 : (SE != 0) = true := by simp [hse]
                    have HR := Lib.hid (HFIN.out.trans (if_pos hse))
                    clear hse HFIN
                    go_wp2_with fail
                    go_ret2
                    exact ⟨_, by rw [HR.out]; rfl, by rw [HR.out]; exact Or.inl ⟨rfl, rfl, none, 0, rfl⟩, BWC.out⟩
              ·
                have g8 : (d == 0) = false := by simp [hd0]
                have hth : thou d = d := by unfold thou; rw [if_neg hd0]
                rw [hth] at hfin
                have HFIN := Lib.hid hfin
                have HKD := hkd
                have HOW := hown
                have HBW := hbw
                have HB2W := hb2
                clear hd0 hth hfin hkl hgk hkd hown hbw hb2
                go_upto_region 23 with fail
                clear ck
                have HSS : Hid (∀ W, Below wr.heap.size wr W → W.cell? ⟨rg, roff + k * 6 + 3, none⟩ = some (.slice xca xcl xcc) ∧ W.cell? ⟨db, k, none⟩ = some (.int .i64 d)) := fun W hW => ⟨(HRK.out W (belowT HBW.out hW)).2.2.2.1, by
                  have h := below_blk hW HKD.out HKD.out.lt
                  have h1 := h.int (i := k) (by rw [List.length_set, HDL.out]; exact hkN)
                  have h2 : (ds.set k d).getD k 0 = d := by
                    have : k < ds.length := by rw [HDL.out]; exact hkN
                    simp [this]
                  rw [h2] at h1; exact h1⟩
                have D0 : Hid (Below wr.heap.size wr wr.drew) := ⟨rfl, rfl, rfl, Nat.le_refl _, fun _ _ => rfl⟩
                have HSX := Lib.hid (HSC0.out d wr.drew (belowT HBW.out D0.out))
                obtain ⟨SE, hSE⟩ : ∃ c, xpts.scaleE d = c := ⟨_, rfl⟩
                obtain ⟨SQ, hSQ⟩ : ∃ c, xpts.scaled d = c := ⟨_, rfl⟩
                have HSY : Hid (∀ e w', ScaleIs2 xpts d wr.drew e w' → ∃ v, e = .returned (.tuple #[v, .int .i64 SE]) ∧ Below wr.heap.size wr.drew w' ∧ (SE = 0 → PVal w' v SQ) ∧ (∀ j, v.ownBlock = some j → wr.heap.size ≤ j)) := fun e w' h => by
                  obtain ⟨v, a1, a2, _, a4, a5⟩ := h
                  rw [hSE] at a1 a4
                  rw [hSQ] at a4
                  exact ⟨v, a1, a2, a4, a5⟩
                rw [hSE, hSQ] at HFIN
                clear hSE hSQ
                go_wp2_with fail
                go_cut [22, 23] from 97 to 109 (fun s22 s23 wc => ∃ v, s22 = v ∧ s23 = .int .i64 SE ∧ Hid (Below wr.heap.size wr wc) ∧ Hid (SE = 0 → PVal wc v SQ) ∧ Hid (∀ j, v.ownBlock = some j → wr.heap.size ≤ j))
                case first =>
                  go_region_held3 (fun W => W.cell? ⟨rg, roff + k * 6 + 3, none⟩ = some (.slice xca xcl xcc) ∧ W.cell? ⟨db, k, none⟩ = some (.int .i64 d))
                    (first
                      | with_reducible exact HSS.out _ D0.out
                      | with_reducible exact HSS.out _ D1.out)
                    ((go_at_call 24; refine HSX.out.mono ?_; intro e w7 hsc; obtain ⟨v, rfl, hb7, hv1, hv2⟩ := HSY.out e w7 hsc; have D1 := Lib.hid (belowT D0.out hb7); have HV1 := Lib.hid hv1; have HV2 := Lib.hid hv2; clear hb7 hv1 hv2 hsc))
                  all_goals
                    go_simp
                    go_wp2_with fail
                    go_meet
                    exact ⟨v, rfl, rfl, D1, HV1, HV2⟩
                case rest =>
                  obtain ⟨v, rfl, rfl, hbc, hv1, hv2⟩ := hcut
                  have BWC := Lib.hid (belowT HBW.out hbc.out)
                  have B2C := Lib.hid (belowT HB2W.out hbc.out)
                  have KDC := Lib.hid (below_blk hbc.out HKD.out HKD.out.lt)
                  have OWC := Lib.hid (HOW.out.below hbc.out)
                  have HGL : Hid (g < wr.heap.size ∧ db < wr.heap.size) := ⟨by obtain ⟨_, _, _, _, h, _⟩ := HOW.out; exact h.lt, HKD.out.lt⟩
                  clear HSS D0 HSX HSY HKD HBW HB2W HOW hbc
                  by_cases hse : SE = 0
                  ·
                    have g7 : (SE != 0) = false := by simp [hse]
                    have HPVN := Lib.hid (hv1.out hse)
                    have HFN := Lib.hid (HFIN.out.trans (if_neg (fun h => h hse)))
                    clear hse HFIN hv1
                    obtain ⟨va, vn, vc, rfl⟩ := HPVN.out.slice
                    have HNE : Hid ((Value.slice va vn vc).ownBlock ≠ some g ∧ (Value.slice va vn vc).ownBlock ≠ some db) := ⟨fun e => by have := hv2.out _ e; have := HGL.out.1; omega, fun e => by have := hv2.out _ e; have := HGL.out.2; omega⟩
                    have HON := Lib.hid (OWC.out.put (by rw [HDC.out, HN.out]) (by rw [HN.out]; exact hkN) HPVN.out HNE.out)
                    obtain ⟨cq, O, hov, hcq, hseg, hol, hoo⟩ := OWC.out
                    simp only [Value.slice.injEq] at hov
                    obtain ⟨rfl, hov2, rfl⟩ := hov
                    clear hov2
                    obtain ⟨y, hy, _⟩ := hoo k _ HX.out
                    have o3 := (cra_seg hseg hy).2.2.2.1
                    have of3 := hseg.free (k * 6 + 3)
                    have KDF : Hid (Blk (wc.setCell ⟨g, k * 6 + 3, none⟩ (.slice va vn vc)) db (ints (ds.set k d)).toArray 3) := KDC.out.setOther _ (by show db ≠ g; omega) _
                    have HDL2 : Hid ((ds.set k d).length = N ∧ (cur.set k SQ).length = N) := ⟨by rw [List.length_set]; exact HDL.out, by rw [List.length_set]; exact HDC.out⟩
                    have BWF := Lib.hid (below_set BWC.out (show w.heap.size ≤ g by have := HDB.out; have := B2.out.size; omega) (k * 6 + 3) (.slice va vn vc))
                    have B2F := Lib.hid (below_set B2C.out (show w2.heap.size ≤ g by have := HDB.out; omega) (k * 6 + 3) (.slice va vn vc))
                    clear hseg hoo hol hy KDC OWC BWC B2C HPVN HNE hcq
                    go_wp2_with fail
                    go_roundw
                    case rel => exact ⟨q + 1, ds.set k d, cur.set k SQ, hqt, by go_num, HFN.out.symm, HDL2, KDF, fun _ => ⟨g, HON.out, hdg⟩, BWF, B2F⟩
                    case measure => simp [intOf]; omega
                  ·
                    have g7 : (SE != 0) = true := by simp [hse]
                    have HR := Lib.hid (HFIN.out.trans (if_pos hse))
                    clear hse HFIN
                    go_wp2_with fail
                    go_ret2
                    exact ⟨_, by rw [HR.out]; rfl, by rw [HR.out]; exact Or.inl ⟨rfl, rfl, none, 0, rfl⟩, BWC.out⟩
        ·
          have hon : OL.drop q = [] := List.drop_eq_nil_of_le (by omega)
          have HEE : Hid (E = (ds, 0)) := by show _ = _; rw [← hco.out, hon]; rfl
          have HDL : Hid (ds.length = N) := hdl.out.1
          clear hon hco how
          go_wp2_with fail
          go_ret2
          refine ⟨_, by rw [HEE.out]; rfl, ?_, hbw.out⟩
          rw [HEE.out]
          show Reads _ _ _ _
          rw [HDL.out]
          exact reads_blk hkd.out (by omega)
  ·
    have g1 : (Z != 0) = true := by simp [hz]
    have HR := Lib.hid (HE.out.trans (if_pos hz))
    clear hz HE HOK
    go_wp2_with fail
    go_ret2
    exact ⟨_, by rw [HR.out]; rfl, by rw [HR.out]; exact Or.inl ⟨rfl, rfl, none, 0, rfl⟩, B1.out⟩
end Go.Proofs.Ytplebibabcdipaa
