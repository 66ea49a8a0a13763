/- choose.build. -/
import Derived.Test.YtplebibabcdipaaCho1
import Derived.Deep.CutRange
import Derived.Deep.CutBlock
import Derived.Deep.RegionHeld3
import Derived.Deep.AppendLies
namespace Go.Proofs.Ytplebibabcdipaa
open Go.RowKit

theorem flat_app {α : Type} (f : α → List Value) (a b : List α) : flat f (a ++ b) = flat f a ++ flat f b := by unfold flat; simp
/-- What build's variables hold; its edges lie in a row of their own from block B on. -/
structure BEnv (w : World) (nv : Array Value) (br : ByteArray) (pt : Int) (b0 B N : Nat) (nds : Int) (es : List CEdge) (src : List Bool) (at_ : Nat) (lva : Option Addr) (lvc : Nat) (W : World) : Prop where
  below : Below w.heap.size w W
  le : w.heap.size ≤ b0 ∧ b0 + 4 ≤ B ∧ B ≤ W.heap.size
  kn : Blk W b0 nv 29
  kp : Blk W (b0 + 1) #[.string br, .int .i64 pt] 31
  ks : Blk W (b0 + 2) (bools src).toArray 4
  kx : Blk W (b0 + 3) #[.int .i64 nds, .slice lva es.length lvc, .slice (some ⟨b0 + 2, 0, none⟩) (N + 1) (N + 1), .int .i64 at_] 124
  own : W.ownsRow B 126 4 (.slice lva es.length lvc) es.length (flat CEdge.cells es)
variable {w : World} {nv : Array Value} {br : ByteArray} {pt : Int} {b0 B N : Nat} {nds : Int} {es : List CEdge} {src : List Bool} {at_ : Nat} {lva : Option Addr} {lvc : Nat} {W : World}
theorem BEnv.alloc (h : BEnv w nv br pt b0 B N nds es src at_ lva lvc W) (o : Obj) : BEnv w nv br pt b0 B N nds es src at_ lva lvc (W.alloc o) :=
  ⟨belowA h.below o, ⟨h.le.1, h.le.2.1, by rw [World.size_alloc]; have := h.le.2.2; omega⟩, h.kn.alloc o, h.kp.alloc o, h.ks.alloc o, h.kx.alloc o, row_alloc h.own o⟩
theorem BEnv.drew (h : BEnv w nv br pt b0 B N nds es src at_ lva lvc W) : BEnv w nv br pt b0 B N nds es src at_ lva lvc W.drew :=
  ⟨⟨h.below.os, h.below.tape, h.below.output, h.below.size, h.below.block⟩, h.le, h.kn, h.kp, h.ks, h.kx, h.own⟩
theorem Blk.gro {W W' : World} {g : Nat} {cs : Array Value} {t : TypeId} {r : Option Nat} (h : Blk W g cs t) (hg : W.grownBy W' r) (hne : r ≠ some g) : Blk W' g cs t := by
  have e := hg.block g h.lt (fun e => hne e.symm)
  unfold Blk at h ⊢
  rw [e]; exact h
theorem BEnv.lt (h : BEnv w nv br pt b0 B N nds es src at_ lva lvc W) : ∀ j, (Value.slice lva es.length lvc).ownBlock = some j → B ≤ j := row_own h.own
/-- Behind an append and the store of the new slice. -/
theorem BEnv.put {u : World} {xs : List CEdge} {ga : Option Addr} {gc : Nat} (h : BEnv w nv br pt b0 B N nds es src at_ lva lvc W) (hg : W.grownBy u (Value.slice lva es.length lvc).ownBlock)
    (ho : u.ownsRow B 126 4 (.slice ga (es.length + xs.length) gc) (es.length + xs.length) (flat CEdge.cells es ++ flat CEdge.cells xs)) :
    BEnv w nv br pt b0 B N nds (es ++ xs) src at_ ga gc (u.setCell ⟨b0 + 3, 1, none⟩ (.slice ga (es ++ xs).length gc)) := by
  have hlt := h.lt
  obtain ⟨l1, l2, l3⟩ := h.le
  have hne : ∀ i, i < B → (Value.slice lva es.length lvc).ownBlock ≠ some i := fun i hi e => by have := hlt i e; omega
  have kn := h.kn.gro hg (hne _ (by omega))
  have kp := h.kp.gro hg (hne _ (by omega))
  have ks := h.ks.gro hg (hne _ (by omega))
  have kx := h.kx.gro hg (hne _ (by omega))
  have hb : Below w.heap.size w u := Below.grown h.below hg h.below.size (fun k e => by have := hlt k e; omega)
  refine ⟨hb.setCell (by show w.heap.size ≤ b0 + 3; omega) _, ⟨l1, l2, ?_⟩, kn.setOther _ (by show b0 ≠ b0 + 3; omega) _, kp.setOther _ (by show b0 + 1 ≠ b0 + 3; omega) _, ks.setOther _ (by show b0 + 2 ≠ b0 + 3; omega) _, kx.set 1 _, ?_⟩
  · rw [World.size_setCell]; have := hg.size; omega
  · rw [List.length_append, flat_app]
    exact ownsRow_setCell_below ho (by show b0 + 3 < B; omega) _
theorem BEnv.setAt (h : BEnv w nv br pt b0 B N nds es src at_ lva lvc W) (v : Nat) : BEnv w nv br pt b0 B N nds es src v lva lvc (W.setCell ⟨b0 + 3, 3, none⟩ (.int .i64 v)) := by
  obtain ⟨l1, l2, l3⟩ := h.le
  exact ⟨h.below.setCell (by show w.heap.size ≤ b0 + 3; omega) _, ⟨l1, l2, by rw [World.size_setCell]; exact l3⟩, h.kn.setOther _ (by show b0 ≠ b0 + 3; omega) _, h.kp.setOther _ (by show b0 + 1 ≠ b0 + 3; omega) _, h.ks.setOther _ (by show b0 + 2 ≠ b0 + 3; omega) _, h.kx.set 3 _, ownsRow_setCell_below h.own (by show b0 + 3 < B; omega) _⟩
theorem BEnv.setNodes (h : BEnv w nv br pt b0 B N nds es src at_ lva lvc W) (v : Int) : BEnv w nv br pt b0 B N v es src at_ lva lvc (W.setCell ⟨b0 + 3, 0, none⟩ (.int .i64 v)) := by
  obtain ⟨l1, l2, l3⟩ := h.le
  exact ⟨h.below.setCell (by show w.heap.size ≤ b0 + 3; omega) _, ⟨l1, l2, by rw [World.size_setCell]; exact l3⟩, h.kn.setOther _ (by show b0 ≠ b0 + 3; omega) _, h.kp.setOther _ (by show b0 + 1 ≠ b0 + 3; omega) _, h.ks.setOther _ (by show b0 + 2 ≠ b0 + 3; omega) _, h.kx.set 0 _, ownsRow_setCell_below h.own (by show b0 + 3 < B; omega) _⟩
theorem BEnv.setSrc (h : BEnv w nv br pt b0 B N nds es src at_ lva lvc W) (i : Nat) : BEnv w nv br pt b0 B N nds es (src.set i true) at_ lva lvc (W.setCell ⟨b0 + 2, i, none⟩ (.bool true)) := by
  obtain ⟨l1, l2, l3⟩ := h.le
  have hs : Blk (W.setCell ⟨b0 + 2, i, none⟩ (.bool true)) (b0 + 2) (bools (src.set i true)).toArray 4 := by
    have := h.ks.set i (.bool true)
    rw [← bools_set]
    simpa using this
  exact ⟨h.below.setCell (by show w.heap.size ≤ b0 + 2; omega) _, ⟨l1, l2, by rw [World.size_setCell]; exact l3⟩, h.kn.setOther _ (by show b0 ≠ b0 + 2; omega) _, h.kp.setOther _ (by show b0 + 1 ≠ b0 + 2; omega) _, hs, h.kx.setOther _ (by show b0 + 3 ≠ b0 + 2; omega) _, ownsRow_setCell_below h.own (by show b0 + 2 < B; omega) _⟩
theorem BEnv.net {c : CNet} (h : BEnv w nv br pt b0 B N nds es src at_ lva lvc W) (hc : c = ⟨N + 1, es, src, at_⟩) (hn : nds = (N : Int) + 1) (hs : src.length = N + 1) (hN : N ≤ 1000) (he : es.length ≤ 1000) :
    NetC W (b0 + 3) c lva lvc (some ⟨b0 + 2, 0, none⟩) (N + 1) := by
  subst hc
  refine ⟨?_, Reads.of_owns h.own (by simp only; omega), ?_⟩
  · have := h.kx
    rw [hn] at this
    simp only [hs]
    exact this
  · simp only [hs]
    refine Or.inr ⟨b0 + 2, 0, N + 1, rfl, Nat.le_refl _, by omega, h.ks.lt, fun j u hj => ?_⟩
    rw [Nat.zero_add]
    exact h.ks.cell j (by simpa using hj)
theorem BEnv.bools (h : BEnv w nv br pt b0 B N nds es src at_ lva lvc W) {i : Nat} (hi : i < src.length) : W.cell? ⟨b0 + 2, i, none⟩ = some (.bool (src.getD i false)) :=
  h.ks.cell i (by have := bools_get hi; simpa using this)
end Go.Proofs.Ytplebibabcdipaa
