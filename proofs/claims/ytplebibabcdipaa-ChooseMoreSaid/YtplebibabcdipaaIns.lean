/- slices.Insert at []string, at the head of a row of the call's own: out of the kit's library contracts. -/
import Derived.Shelf.Spec.SlicesInsertGrow
import Derived.Test.YtplebibabcdipaaStr6
namespace Go.Proofs
open Go.Shelf
def Try.laysNm222_ren : Go.Shelf.Ren := ⟨fun | 22 => 106 | 29 => 125 | 30 => 126 | 36 => 132 | 17 => 136 | n => n, fun | 24 => 22 | 9 => 9 | 3 => 3 | 4 => 4 | 0 => 0 | n => n, fun | n => n⟩
theorem Try.laysNm222 : Go.Proofs.Lays2.n22 Try.prog Try.laysNm222_ren := {
  mixed := by kernel_rfl
  f17 := Try.func136.trans (congrArg some (by kernel_rfl))
  f22 := Try.func106.trans (congrArg some (by kernel_rfl))
  f29 := Try.func125.trans (congrArg some (by kernel_rfl))
  f30 := Try.func126.trans (congrArg some (by kernel_rfl))
  f36 := Try.func132.trans (congrArg some (by kernel_rfl))
  t0 := Try.underlying0
  a0 := Try.isAgg0
  z0 := Try.sizeOf0
  v0 := Try.zeroValue0
  t3 := Try.underlying3
  a3 := Try.isAgg3
  z3 := Try.sizeOf3
  v3 := Try.zeroValue3
  t4 := Try.underlying4
  a4 := Try.isAgg4
  z4 := Try.sizeOf4
  v4 := Try.zeroValue4
  t9 := Try.underlying9
  a9 := Try.isAgg9
  z9 := Try.sizeOf9
  v9 := Try.zeroValue9
  t24 := Try.underlying22
  a24 := Try.isAgg22
  z24 := Try.sizeOf22
  v24 := Try.zeroValue22
  i9 := by kernel_rfl }
end Go.Proofs
namespace Go.Proofs.Ytplebibabcdipaa
open Go.RowKit

theorem Blk.setCells {g : Nat} {t : TypeId} : ∀ (vs : List Value) (o : Nat) {W : World} {cur : Array Value}, Blk W g cur t → o + vs.length ≤ cur.size →
    ∃ cur', Blk (W.setCells g o vs) g cur' t ∧ cur'.size = cur.size ∧ (∀ j, j < vs.length → cur'[o + j]? = vs[j]?) ∧ ∀ k, k < o ∨ o + vs.length ≤ k → cur'[k]? = cur[k]? := by
  intro vs
  induction vs with
  | nil => intro o W cur h _; exact ⟨cur, h, rfl, fun j hj => absurd hj (Nat.not_lt_zero _), fun _ _ => rfl⟩
  | cons v vs ih =>
    intro o W cur h hs
    simp only [List.length_cons] at hs
    obtain ⟨cur', h1, h2, h3, h4⟩ := ih (o + 1) (h.set o v) (by simp; omega)
    refine ⟨cur', h1, by rw [h2]; simp, fun j hj => ?_, fun k hk => ?_⟩
    · cases j with
      | zero =>
        rw [Nat.add_zero, h4 o (Or.inl (by omega)), Array.getElem?_setIfInBounds_self]
        simp; omega
      | succ j =>
        rw [show o + (j + 1) = o + 1 + j by omega, h3 j (by simpa using hj)]
        simp
    · simp only [List.length_cons] at hk
      rw [h4 k (by omega), Array.getElem?_setIfInBounds_ne (by omega)]
theorem bsetCells {B b : Nat} {a : World} (hb : B ≤ b) : ∀ (vs : List Value) (o : Nat) (w : World), Below B a w → Below B a (w.setCells b o vs) := by
  intro vs
  induction vs with
  | nil => intro o w h; exact h
  | cons v vs ih => intro o w h; exact ih (o + 1) _ (h.setCell hb v)
theorem take_of_get {cur : Array Value} {n : Nat} {xs : List Value} (hx : xs.length = n) (h : ∀ j, j < n → cur[j]? = xs[j]?) : cur.toList.take n = xs := by
  apply List.ext_getElem?
  intro j
  rw [List.getElem?_take]
  split
  · rename_i hj; rw [Array.getElem?_toList]; exact h j hj
  · rename_i hj; rw [List.getElem?_eq_none (by omega)]
/-- Behind Insert at the head: the row, one longer. -/
def InsP (base : Nat) (W : World) (s : ByteArray) (l : List ByteArray) (e : Ending) (w' : World) : Prop :=
  ∃ v', e = .returned v' ∧ w'.ownsRow base 9 1 v' (s :: l).length (strs (s :: l)) ∧ Below base W w'
theorem strs_len (l : List ByteArray) : (strs l).length = l.length := by unfold strs; simp
theorem insert0_c (base : Nat) (W : World) (v : Value) (l : List ByteArray) (s : ByteArray) (vb : Nat) (h : W.ownsRow base 9 1 v l.length (strs l)) (hz : l = [] → v = .slice none 0 0) (hb : base ≤ W.heap.size)
    (hv : Blk W vb #[.string s] 9) (hne : ∀ g, v.ownBlock = some g → g ≠ vb) (hl : l.length ≤ 1000000000) :
    Calls Try.prog 106 #[v, .int .i64 0, .slice (some ⟨vb, 0, none⟩) 1 1] W (InsP base W s l) := by
  have hvs : ∀ (j : Nat) (u : Value), [Value.string s][j]? = some u → W.cell? ⟨vb, 0 + j, none⟩ = some u := fun j u hj => by rw [Nat.zero_add]; exact hv.cell j (by simpa using hj)
  have h1v : ∀ u ∈ [Value.string s], u.oneCell' = true := fun u hu => by rw [List.mem_singleton] at hu; subst hu; rfl
  have hgc := fun (c : Nat) => And.intro (grownCap_le_maxLen W (l.length + 1) c 9 (by unfold maxLen; omega)) (grownCap_ge W (l.length + 1) c 9)
  rcases h with ⟨hx, ⟨rfl, hn⟩ | ⟨g, c, cur, rfl, hg, hh, hnc, hcm, hcs, htk⟩⟩
  · have hl0 : l = [] := List.eq_nil_of_length_eq_zero hn
    subst hl0
    have hc := Any2.slices_Insert_string_end_grow Try.laysNm222 none 0 0 vb 0 1 1 [] [.string s] W (by omega) (by omega) (by omega) (by omega) rfl rfl (fun _ => rfl) (fun a ha => by cases ha) hvs h1v
    refine hc.mono ?_
    rintro e w' ⟨rfl, rfl⟩
    obtain ⟨g1, g2⟩ := hgc 0
    have g1' : grownCap W (0 + 1) 0 (Try.laysNm222_ren.t 9) ≤ maxLen := g1
    have g2' : 0 + 1 ≤ grownCap W (0 + 1) 0 (Try.laysNm222_ren.t 9) := g2
    generalize grownCap W (0 + 1) 0 (Try.laysNm222_ren.t 9) = G at *
    refine ⟨_, rfl, ⟨by simp [strs], Or.inr ⟨W.heap.size, _, _, rfl, hb, heap_alloc_new W.drew _, g2', g1', ?_, ?_⟩⟩, ?_⟩
    · simp only [Array.size_append, List.size_toArray, size_zeroCells]
      simp [Value.cells]
      omega
    · refine take_of_get (by simp [strs]) fun j hj => ?_
      have : j = 0 := by simpa using hj
      subst this
      rw [Array.getElem?_append_left (by simp)]
      simp [strs]
    · exact ⟨rfl, rfl, rfl, by rw [World.size_alloc]; exact Nat.le_succ _, fun k hk => heap_alloc_old W.drew _ (by show k < W.heap.size; omega)⟩
  · have hln : 0 < l.length := by
      refine Nat.pos_of_ne_zero fun h0 => ?_
      have := hz (List.eq_nil_of_length_eq_zero h0)
      cases this
    have hB : Blk W g cur 9 := hh
    have hcell : ∀ (j : Nat) (u : Value), (strs l)[j]? = some u → cur[j]? = some u := fun j u hj => by
      rw [← htk, List.getElem?_take] at hj
      split at hj
      · rw [Array.getElem?_toList] at hj; exact hj
      · cases hj
    have hcc : ∀ (j : Nat) (u : Value), (strs l)[j]? = some u → W.cell? ⟨g, 0 + j, none⟩ = some u := fun j u hj => by rw [Nat.zero_add]; exact hB.cell j (hcell j u hj)
    by_cases hr : l.length + 1 ≤ c
    · have hgl := hB.lt
      have hc := Any2.slices_Insert_string_shift Try.laysNm222 g 0 l.length c 0 vb 0 1 1 (strs l) [.string s] W hln (by omega) hr (by unfold maxLen at hcm; omega) (fun e => hne g rfl e.symm) (strs_len l) rfl hcc
        (fun j hj => by rw [Nat.zero_add, hB.cell j (Array.getElem?_eq_getElem (by omega))]; rfl) (fun j hj => by rw [Nat.zero_add]; exact hB.free j) hvs (strs_one l) h1v 9 9 1 cur.size (by unfold Blk at hv; simp [World.shape?, hv]) (by unfold Blk at hB; simp [World.shape?, hB]) (by omega) (hv.free 0) (hv.free 1)
      refine hc.mono ?_
      rintro e w' ⟨rfl, rfl⟩
      simp only [Nat.zero_add, List.drop_zero]
      obtain ⟨c1, k1, k2, k3, k4⟩ := Blk.setCells (strs l) 1 (W := W.drew) hB (by rw [strs_len]; omega)
      obtain ⟨c2, q1, q2, q3, q4⟩ := Blk.setCells [.string s] 0 k1 (by simp; omega)
      refine ⟨_, rfl, ⟨by simp [strs], Or.inr ⟨g, c, c2, rfl, hg, q1, hr, hcm, by omega, ?_⟩⟩, ?_⟩
      · refine take_of_get (by simp [strs]) fun j hj => ?_
        cases j with
        | zero => have := q3 0 (by simp); simpa [strs] using this
        | succ j =>
          have hj' : j < l.length := by simpa using hj
          rw [q4 (j + 1) (Or.inr (by simp)), show j + 1 = 1 + j by omega, k3 j (by rw [strs_len]; exact hj')]
          simp [strs, show 1 + j = j + 1 by omega]
      · exact bsetCells hg _ _ _ (bsetCells hg _ _ _ ⟨rfl, rfl, rfl, Nat.le_refl _, fun _ _ => rfl⟩)
    · have hc := Any2.slices_Insert_string_grow Try.laysNm222 g 0 l.length c 0 vb 0 1 1 (strs l) [.string s] W hln (by omega) hnc (by omega) (by omega) (strs_len l) rfl hcc hvs (strs_one l) h1v
      refine hc.mono ?_
      rintro e w' ⟨rfl, rfl⟩
      simp only [Nat.zero_add, List.drop_zero, List.take_zero]
      obtain ⟨g1, g2⟩ := hgc c
      have g1' : grownCap W (l.length + 1) c (Try.laysNm222_ren.t 9) ≤ maxLen := g1
      have g2' : l.length + 1 ≤ grownCap W (l.length + 1) c (Try.laysNm222_ren.t 9) := g2
      generalize grownCap W (l.length + 1) c (Try.laysNm222_ren.t 9) = G at *
      obtain ⟨row, hrow⟩ : ∃ r, (#[] ++ Builtin.zeroCells (Value.string ⟨#[]⟩).cells (l.length + 1 - 0) ++ Builtin.zeroCells (Value.string ⟨#[]⟩).cells (G - (l.length + 1)) : Array Value) = r := ⟨_, rfl⟩
      have hrs : row.size = G := by
        rw [← hrow]
        simp [size_zeroCells, Value.cells]
        omega
      have hrow' : ([].toArray ++ Builtin.zeroCells (Value.string ⟨#[]⟩).cells (l.length + 1 - 0) ++ Builtin.zeroCells (Value.string ⟨#[]⟩).cells (G - (l.length + 1)) : Array Value) = row := hrow
      rw [hrow']
      have hA : Blk (W.alloc (.cells row 9)).drew W.heap.size row 9 := Blk.new W row 9
      obtain ⟨c1, k1, k2, k3, k4⟩ := Blk.setCells [.string s] 0 hA (by simp; omega)
      obtain ⟨c2, q1, q2, q3, q4⟩ := Blk.setCells (strs l) 1 (W := ((W.alloc (.cells row 9)).drew.setCells W.heap.size 0 [.string s]).drew) k1 (by rw [strs_len]; omega)
      refine ⟨_, rfl, ⟨by simp [strs], Or.inr ⟨W.heap.size, G, c2, rfl, hb, q1, g2', g1', by omega, ?_⟩⟩, ?_⟩
      · refine take_of_get (by simp [strs]) fun j hj => ?_
        cases j with
        | zero =>
          rw [q4 0 (Or.inl (by omega))]
          have := k3 0 (by simp)
          simpa [strs] using this
        | succ j =>
          have hj' : j < l.length := by simpa using hj
          rw [show j + 1 = 1 + j by omega, q3 j (by rw [strs_len]; exact hj')]
          simp [strs, show 1 + j = j + 1 by omega]
      · have b1 : Below base W (W.alloc (.cells row 9)).drew := ⟨rfl, rfl, rfl, by show _ ≤ (W.alloc _).heap.size; rw [World.size_alloc]; exact Nat.le_succ _, fun k hk => heap_alloc_old W _ (by show k < W.heap.size; omega)⟩
        have b2 : Below base W ((W.alloc (.cells row 9)).drew.setCells W.heap.size 0 [.string s]) := bsetCells hb _ _ _ b1
        exact bsetCells hb _ _ _ ⟨b2.os, b2.tape, b2.output, b2.size, b2.block⟩
end Go.Proofs.Ytplebibabcdipaa
