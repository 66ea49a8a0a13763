/- The plain law of RecloseReclaims; two rows of the call's own that grow side by side. -/
import Derived.Test.YtjkgkoedkphnjaaRec7
namespace Go.Proofs.Ytjkgkoedkphnjaa
open Go.RowKit

def Tm (d rc : Int) (i : Nat) : Int := i * (d + rc)
def trL (d rc : Int) (n : Nat) : List Int := (List.range n).map (Tm d rc)
def wnL (d rc : Int) (n : Nat) : List Int := (List.range n).map (fun i => Tm d rc i + d)
theorem Tm_succ (d rc : Int) (i : Nat) : Tm d rc (i + 1) = Tm d rc i + d + rc := by
  unfold Tm
  rw [show ((i + 1 : Nat) : Int) = (i : Int) + 1 from by omega, Int.add_mul]; omega
theorem trL_succ (d rc : Int) (n : Nat) : trL d rc (n + 1) = trL d rc n ++ [Tm d rc n] := by unfold trL; rw [List.range_succ, List.map_append]; rfl
theorem wnL_succ (d rc : Int) (n : Nat) : wnL d rc (n + 1) = wnL d rc n ++ [Tm d rc n + d] := by unfold wnL; rw [List.range_succ, List.map_append]; rfl
theorem trL_len (d rc : Int) (n : Nat) : (trL d rc n).length = n := by unfold trL; simp
theorem wnL_len (d rc : Int) (n : Nat) : (wnL d rc n).length = n := by unfold wnL; simp
theorem trL_get (d rc : Int) {n i : Nat} (h : i < n) : (trL d rc n).getD i 0 = Tm d rc i := by unfold trL; simp [h]
theorem Tm_le {d rc : Int} (d1 : 1 ≤ d) (d2 : d ≤ 600000) (r1 : 1 ≤ rc) (r2 : rc ≤ 600000) (i : Nat) : 0 ≤ Tm d rc i ∧ Tm d rc i ≤ 1200000 * i := by
  induction i with
  | zero => unfold Tm; simp
  | succ i ih => rw [Tm_succ]; constructor <;> omega

/-- The state ahead of the trip i. -/
def stR (d rc : Int) : Nat → RS
  | 0 => RS.fresh rc
  | i + 1 => ⟨rc, Tm d rc i, 1, Tm d rc i + d, 0⟩
def ouR (d rc : Int) : Nat → List Int
  | 0 => []
  | i + 1 => wnL d rc i

theorem recl_go {l : List Int} {d rc : Int} (hd : l.getD 0 0 = d) (hl : 1 ≤ l.length) (d1 : 1 ≤ d) (d2 : d ≤ 600000) (r1 : 1 ≤ rc) (r2 : rc ≤ 600000) {n : Nat} (hn1 : 1 ≤ n) (hn : n ≤ 6) :
    ∀ (j i : Nat), i + j = n → shotsGo l ((trL d rc n).drop i) i (stR d rc i) (ouR d rc i) = (wnL d rc n, 0, 0) := by
  intro j
  induction j with
  | zero =>
    intro i hi
    obtain ⟨i, rfl⟩ : ∃ k, i = k + 1 := ⟨i - 1, by omega⟩
    obtain ⟨t0, t1⟩ := Tm_le d1 d2 r1 r2 i
    rw [List.drop_eq_nil_of_le (by rw [trL_len]; omega)]
    unfold shotsGo
    have e : stepP (stR d rc (i + 1)) (ouR d rc (i + 1)) 1000000001 = (((stR d rc (i + 1)).tick (Tm d rc i + d)).2.2, wnL d rc i ++ [Tm d rc i + d]) := by
      unfold stepP; rw [if_pos ⟨rfl, by show Tm d rc i + d < _; omega⟩]; rfl
    rw [e, ← wnL_succ, show i + 1 = n by omega]
  | succ j ih =>
    intro i hi
    have hlt : i < (trL d rc n).length := by rw [trL_len]; omega
    rw [shotsGo_drop hlt, trL_get d rc (by omega)]
    obtain ⟨t0, t1⟩ := Tm_le d1 d2 r1 r2 i
    have key : (stepP (stR d rc i) (ouR d rc i) (Tm d rc i)).2 = ouR d rc (i + 1) ∧ (stepP (stR d rc i) (ouR d rc i) (Tm d rc i)).1.trip l (Tm d rc i) = (0, 0, stR d rc (i + 1)) := by
      cases i with
      | zero =>
        have e : stepP (stR d rc 0) (ouR d rc 0) (Tm d rc 0) = (RS.fresh rc, []) := by
          unfold stepP; rw [if_neg (fun c => absurd c.1 (by show ¬ (0 : Int) = 1; decide))]; rfl
        rw [e]
        refine ⟨rfl, ?_⟩
        have z : Tm d rc 0 = 0 := by unfold Tm; simp
        show (RS.fresh rc).trip l (Tm d rc 0) = _
        unfold RS.trip
        have ep : (RS.fresh rc).pass (Tm d rc 0) = ⟨rc, Tm d rc 0, 0, 0, 0⟩ := by
          unfold RS.pass; rw [if_neg (fun c => absurd c.1 (by show ¬ (0 : Int) = 2; decide))]; rfl
        rw [if_neg (by rw [z]; show ¬ (decide ((0:Int) ≤ 0) && decide ((0:Int) ≤ 1000000000)) = false; decide), if_neg (by show ¬ ((0 : Int) = 1 ∨ (0 : Int) = 3); decide), ep, if_neg (by show ¬ 0 = l.length; omega)]
        show (0, 0, (⟨rc, Tm d rc 0, 1, Tm d rc 0 + l.getD 0 0, 0⟩ : RS)) = _
        rw [hd]; rfl
      | succ i =>
        obtain ⟨u0, u1⟩ := Tm_le d1 d2 r1 r2 i
        have ht := Tm_succ d rc i
        have e0 : (stR d rc (i + 1)).tick (Tm d rc i + d) = (1, 0, ⟨rc, Tm d rc i + d, 2, Tm d rc i + d + rc, 1⟩) := by
          show (⟨rc, Tm d rc i, 1, Tm d rc i + d, 0⟩ : RS).tick (Tm d rc i + d) = _
          unfold RS.tick
          rw [if_neg (by unfold RS.ok; simp; omega)]
          have ep : (⟨rc, Tm d rc i, 1, Tm d rc i + d, 0⟩ : RS).pass (Tm d rc i + d) = ⟨rc, Tm d rc i + d, 1, Tm d rc i + d, 0⟩ := by
            unfold RS.pass; rw [if_neg (fun c => absurd c.1 (by show ¬ (1 : Int) = 2; decide))]
          rw [ep, if_pos ⟨rfl, Int.le_refl _⟩]
        have e : stepP (stR d rc (i + 1)) (ouR d rc (i + 1)) (Tm d rc (i + 1)) = (⟨rc, Tm d rc i + d, 2, Tm d rc i + d + rc, 1⟩, wnL d rc i ++ [Tm d rc i + d]) := by
          unfold stepP
          rw [if_pos ⟨rfl, by show Tm d rc i + d < _; omega⟩]
          show (((stR d rc (i + 1)).tick (Tm d rc i + d)).2.2, wnL d rc i ++ [Tm d rc i + d]) = _
          rw [e0]
        rw [e]
        refine ⟨(wnL_succ d rc i).symm, ?_⟩
        show (⟨rc, Tm d rc i + d, 2, Tm d rc i + d + rc, 1⟩ : RS).trip l (Tm d rc (i + 1)) = _
        unfold RS.trip
        have ep : (⟨rc, Tm d rc i + d, 2, Tm d rc i + d + rc, 1⟩ : RS).pass (Tm d rc (i + 1)) = ⟨rc, Tm d rc (i + 1), 0, Tm d rc i + d + rc, 0⟩ := by
          unfold RS.pass; rw [if_pos ⟨rfl, by show Tm d rc i + d + rc ≤ _; omega⟩]
        rw [if_neg (by unfold RS.ok; simp; omega), if_neg (by show ¬ ((2 : Int) = 1 ∨ (2 : Int) = 3); decide), ep, if_neg (by show ¬ 0 = l.length; omega)]
        show (0, 0, (⟨rc, Tm d rc (i + 1), 1, Tm d rc (i + 1) + l.getD 0 0, 0⟩ : RS)) = _
        rw [hd]; rfl
    rw [key.2, key.1, if_neg (by simp), if_neg (by simp)]
    exact ih (i + 1) (by omega)
theorem recl_shots {l : List Int} {d rc : Int} (h0 : recE l rc = 0) (hd : l.getD 0 0 = d) {n : Nat} (hn1 : 1 ≤ n) (hn : n ≤ 6) : shotsR l rc (trL d rc n) = (wnL d rc n, 0, 0) := by
  obtain ⟨q1, q2, q3, q4, q5⟩ := recE_ok h0
  obtain ⟨d1, d2⟩ := q5 0 (by omega)
  rw [hd] at d1 d2
  unfold shotsR
  rw [if_neg (by omega), if_neg (by rw [trL_len]; omega)]
  exact recl_go hd q1 d1 d2 q3 q4 hn1 hn n 0 (by omega)

/-- Two rows of the call's own, apart. -/
def RR (w2 : World) (k : Nat) (xs ys : List Int) (tv wv : Value) (W : World) : Prop :=
  W.ownsRow w2.heap.size 3 1 tv k (ints xs) ∧ W.ownsRow w2.heap.size 3 1 wv k (ints ys) ∧ (tv.ownBlock = none ∨ tv.ownBlock ≠ wv.ownBlock) ∧ Below w2.heap.size w2 W
/-- The first has grown. -/
def RM (w2 : World) (k : Nat) (xs ys : List Int) (x : Int) (tv wv : Value) (W : World) : Prop :=
  W.ownsRow w2.heap.size 3 1 tv (k + 1) (ints xs ++ [.int .i64 x]) ∧ W.ownsRow w2.heap.size 3 1 wv k (ints ys) ∧ tv.ownBlock ≠ wv.ownBlock ∧ Below w2.heap.size w2 W
theorem row_alloc {W : World} {base : Nat} {e : TypeId} {sz n : Nat} {v : Value} {xs : List Value} (h : W.ownsRow base e sz v n xs) (o : Obj) : (W.alloc o).ownsRow base e sz v n xs :=
  h.kept (World.grownBy_alloc _ _ none) (by
    rcases h.2 with ⟨e, _⟩ | ⟨g, cap, cur, e, _⟩
    · exact .inl (by rw [e]; rfl)
    · exact .inr (fun k => by rw [e] at k; cases k))
theorem row_lt {W : World} {base : Nat} {e : TypeId} {sz n : Nat} {v : Value} {xs : List Value} (h : W.ownsRow base e sz v n xs) : ∀ j, v.ownBlock = some j → j < W.heap.size := by
  intro j hj
  rcases h.2 with ⟨rfl, _⟩ | ⟨g, cap, cur, rfl, _, hh, _⟩
  · cases hj
  · have : g = j := Option.some.inj hj
    rw [← this]; exact (Array.getElem?_eq_some_iff.1 hh).1
theorem RR.alloc {w2 : World} {k : Nat} {xs ys : List Int} {tv wv : Value} {W : World} (h : RR w2 k xs ys tv wv W) (o : Obj) : RR w2 k xs ys tv wv (W.alloc o) :=
  ⟨row_alloc h.1 o, row_alloc h.2.1 o, h.2.2.1, belowA h.2.2.2 o⟩
theorem RR.drew {w2 : World} {k : Nat} {xs ys : List Int} {tv wv : Value} {W : World} (h : RR w2 k xs ys tv wv W) : RR w2 k xs ys tv wv W.drew :=
  ⟨h.1, h.2.1, h.2.2.1, ⟨h.2.2.2.os, h.2.2.2.tape, h.2.2.2.output, h.2.2.2.size, h.2.2.2.block⟩⟩
theorem RR.drewN {w2 : World} {k : Nat} {xs ys : List Int} {tv wv : Value} {W : World} (h : RR w2 k xs ys tv wv W) (n : Nat) : RR w2 k xs ys tv wv (W.drewN n) :=
  ⟨h.1, h.2.1, h.2.2.1, below_drewN h.2.2.2 n⟩
theorem RM.alloc {w2 : World} {k : Nat} {xs ys : List Int} {x : Int} {tv wv : Value} {W : World} (h : RM w2 k xs ys x tv wv W) (o : Obj) : RM w2 k xs ys x tv wv (W.alloc o) :=
  ⟨row_alloc h.1 o, row_alloc h.2.1 o, h.2.2.1, belowA h.2.2.2 o⟩
theorem RR.app {w2 : World} {k g c : Nat} {xs ys : List Int} {x : Int} {tv wv : Value} {X u : World} (h : RR w2 k xs ys tv wv X)
    (hown : u.ownsRow w2.heap.size 3 1 (.slice (some ⟨g, 0, none⟩) (k + 1) c) (k + 1) (ints xs ++ [.int .i64 x])) (hgrow : X.grownBy u tv.ownBlock) (hat : tv.ownBlock = some g ∨ g = X.heap.size) :
    RM w2 k xs ys x (.slice (some ⟨g, 0, none⟩) (k + 1) c) wv u := by
  have hlt := row_lt h.2.1
  refine ⟨hown, h.2.1.kept hgrow ?_, ?_, Below.grown h.2.2.2 hgrow h.2.2.2.size (row_own h.1)⟩
  · rcases h.2.2.1 with e | e
    · rw [e]
      cases hw : wv.ownBlock with
      | none => exact .inl rfl
      | some j => exact .inr (fun k => by cases k)
    · exact .inr (fun k => e k.symm)
  · intro e
    have e' : some g = wv.ownBlock := e
    rcases hat with hat | hat
    · rcases h.2.2.1 with e2 | e2
      · rw [e2] at hat; cases hat
      · exact e2 (hat.trans e')
    · have := hlt g e'.symm; omega
theorem RM.app {w2 : World} {k g c : Nat} {xs ys : List Int} {x y : Int} {tv wv : Value} {X u : World} (h : RM w2 k xs ys x tv wv X)
    (hown : u.ownsRow w2.heap.size 3 1 (.slice (some ⟨g, 0, none⟩) (k + 1) c) (k + 1) (ints ys ++ [.int .i64 y])) (hgrow : X.grownBy u wv.ownBlock) (hat : wv.ownBlock = some g ∨ g = X.heap.size) :
    RR w2 (k + 1) (xs ++ [x]) (ys ++ [y]) tv (.slice (some ⟨g, 0, none⟩) (k + 1) c) u := by
  have hlt := row_lt h.1
  refine ⟨?_, by simpa [ints] using hown, .inr ?_, Below.grown h.2.2.2 hgrow h.2.2.2.size (row_own h.2.1)⟩
  · have := h.1.kept hgrow (.inr h.2.2.1)
    simpa [ints] using this
  · intro e
    have e' : tv.ownBlock = some g := e
    rcases hat with hat | hat
    · exact h.2.2.1 (e'.trans hat.symm)
    · have := hlt g e'; omega
/-- A new block's one cell, behind what keeps it. -/
theorem news_keep {W W' : World} {b : Nat} {x : Value} {row : Option Nat} (h : ∀ j u, [x][j]? = some u → W.cell? ((⟨b, 0, none⟩ : Addr).add j) = some u) (hb : b < W.heap.size) (hg : W.grownBy W' row) (hr : row ≠ some b) :
    ∀ j u, [x][j]? = some u → W'.cell? ((⟨b, 0, none⟩ : Addr).add j) = some u := by
  intro j u hj
  have e : (⟨b, 0, none⟩ : Addr).add j = ⟨b, j, none⟩ := by unfold Addr.add; split <;> simp_all
  have h' := h j u hj
  rw [e] at h' ⊢
  rw [World.cell?_of_block (w := W) (hg.block b hb (fun k => hr k.symm))]; exact h'
end Go.Proofs.Ytjkgkoedkphnjaa
