/- Package choose: the net of a network and a place, as plain lists; the closure of build. -/
import Derived.Test.YtplebibabcdipaaZonC
import Derived.Test.YtplebibabcdipaaZAl
import Derived.Test.YtplebibabcdipaaClr2
namespace Go.Proofs.Ytplebibabcdipaa
open Go.RowKit

structure CEdge where
  name : ByteArray
  a : Nat
  b : Nat
  brk : Bool
def CEdge.cells (x : CEdge) : List Value := [.string x.name, .int .i64 x.a, .int .i64 x.b, .bool x.brk]
theorem ce_cells {w : World} {b off : Nat} {l : List CEdge} (h : ∀ j u, (flat CEdge.cells l)[j]? = some u → w.cell? ⟨b, off + j, none⟩ = some u) {k : Nat} {x : CEdge} (hx : l[k]? = some x) :
    w.cell? ⟨b, off + k * 4, none⟩ = some (.string x.name) ∧ w.cell? ⟨b, off + k * 4 + 1, none⟩ = some (.int .i64 x.a) ∧ w.cell? ⟨b, off + k * 4 + 2, none⟩ = some (.int .i64 x.b) ∧ w.cell? ⟨b, off + k * 4 + 3, none⟩ = some (.bool x.brk) := by
  have e := fun j u hj hu => Reads.elem (sz := 4) (fun _ => rfl) h hx (j := j) (u := u) hj hu
  exact ⟨e 0 _ (by decide) rfl, by rw [Nat.add_assoc]; exact e 1 _ (by decide) rfl, by rw [Nat.add_assoc]; exact e 2 _ (by decide) rfl, by rw [Nat.add_assoc]; exact e 3 _ (by decide) rfl⟩
def bools (l : List Bool) : List Value := l.map Value.bool
theorem bools_get {l : List Bool} {i : Nat} (h : i < l.length) : (bools l)[i]? = some (.bool (l.getD i false)) := by unfold bools; simp [h]
theorem bools_set (l : List Bool) (i : Nat) (b : Bool) : (bools l).set i (.bool b) = bools (l.set i b) := by unfold bools; rw [List.map_set]
/-- A net: nodes, edges, which nodes are sources, the node of the fault. -/
structure CNet where
  nodes : Nat
  edges : List CEdge
  src : List Bool
  at_ : Nat
structure NetC (W : World) (X : Nat) (c : CNet) (ea : Option Addr) (ec : Nat) (sa : Option Addr) (sc : Nat) : Prop where
  blk : Blk W X #[.int .i64 c.nodes, .slice ea c.edges.length ec, .slice sa c.src.length sc, .int .i64 c.at_] 124
  edges : Reads W (.slice ea c.edges.length ec) c.edges.length (flat CEdge.cells c.edges)
  src : Reads W (.slice sa c.src.length sc) c.src.length (bools c.src)
theorem NetC.below {W W' : World} {X : Nat} {c : CNet} {ea : Option Addr} {ec : Nat} {sa : Option Addr} {sc : Nat} (h : NetC W X c ea ec sa sc) (k : Below W.heap.size W W') : NetC W' X c ea ec sa sc :=
  ⟨below_blk k h.blk h.blk.lt, h.edges.below k, h.src.below k⟩
/-- The index of a node. -/
def ixN (nl : List ByteArray) (s : ByteArray) : Nat := (idxS s nl 0).toNat
def swC (nl : List ByteArray) : List NSw → List CEdge
  | [] => []
  | s :: ss => if s.opn = true then swC nl ss else ⟨s.name, ixN nl s.a, ixN nl s.b, s.brk⟩ :: swC nl ss
def whole (p : Plc) (b : NBr) : Bool := !sameB b.name p.branch || (p.part == 0 || p.part == 1000)
def brC1 (nl : List ByteArray) (p : Plc) (b : NBr) : List CEdge :=
  if whole p b = true then [⟨b.name, ixN nl b.fr, ixN nl b.to, false⟩] else [⟨b.name, ixN nl b.fr, nl.length, false⟩, ⟨b.name, nl.length, ixN nl b.to, false⟩]
def brC (nl : List ByteArray) (p : Plc) : List NBr → List CEdge
  | [] => []
  | b :: bs => brC1 nl p b ++ brC nl p bs
def atC1 (nl : List ByteArray) (p : Plc) (b : NBr) (cur : Nat) : Nat :=
  if sameB b.name p.branch = true then (if p.part = 0 then ixN nl b.fr else if p.part = 1000 then ixN nl b.to else nl.length) else cur
def atC (nl : List ByteArray) (p : Plc) : List NBr → Nat → Nat
  | [], cur => cur
  | b :: bs, cur => atC nl p bs (atC1 nl p b cur)
def srcC {α : Type} (nl : List ByteArray) (node : α → ByteArray) : List α → List Bool → List Bool
  | [], s => s
  | x :: xs, s => srcC nl node xs (s.set (ixN nl (node x)) true)
def buildC (n : Net) (p : Plc) : CNet :=
  ⟨n.nodes.length + 1, swC n.nodes n.sws ++ brC n.nodes p n.brs, srcC n.nodes NStore.node n.stores (srcC n.nodes NGen.node n.gens (List.replicate (n.nodes.length + 1) false)), atC n.nodes p n.brs 0⟩
theorem swC_drop {nl : List ByteArray} {l : List NSw} {k : Nat} {x : NSw} (h : l[k]? = some x) : swC nl (l.drop k) = if x.opn = true then swC nl (l.drop (k + 1)) else ⟨x.name, ixN nl x.a, ixN nl x.b, x.brk⟩ :: swC nl (l.drop (k + 1)) := by
  obtain ⟨hk, hx⟩ := List.getElem?_eq_some_iff.1 h
  rw [List.drop_eq_getElem_cons hk, hx]; rfl
theorem brC_drop {nl : List ByteArray} {p : Plc} {l : List NBr} {k : Nat} {x : NBr} (h : l[k]? = some x) : brC nl p (l.drop k) = brC1 nl p x ++ brC nl p (l.drop (k + 1)) := by
  obtain ⟨hk, hx⟩ := List.getElem?_eq_some_iff.1 h
  rw [List.drop_eq_getElem_cons hk, hx]; rfl
theorem atC_drop {nl : List ByteArray} {p : Plc} {l : List NBr} {k : Nat} {x : NBr} (h : l[k]? = some x) (cur : Nat) : atC nl p (l.drop k) cur = atC nl p (l.drop (k + 1)) (atC1 nl p x cur) := by
  obtain ⟨hk, hx⟩ := List.getElem?_eq_some_iff.1 h
  rw [List.drop_eq_getElem_cons hk, hx]; rfl
theorem srcC_drop {α : Type} {nl : List ByteArray} {node : α → ByteArray} {l : List α} {k : Nat} {x : α} (h : l[k]? = some x) (s : List Bool) : srcC nl node (l.drop k) s = srcC nl node (l.drop (k + 1)) (s.set (ixN nl (node x)) true) := by
  obtain ⟨hk, hx⟩ := List.getElem?_eq_some_iff.1 h
  rw [List.drop_eq_getElem_cons hk, hx]; rfl
theorem swC_len (nl : List ByteArray) (l : List NSw) : (swC nl l).length ≤ l.length := by
  induction l with
  | nil => simp [swC]
  | cons x xs ih => unfold swC; split <;> simp <;> omega
theorem brC_len (nl : List ByteArray) (p : Plc) (l : List NBr) : (brC nl p l).length ≤ 2 * l.length := by
  induction l with
  | nil => simp [brC]
  | cons x xs ih =>
    unfold brC brC1
    split <;> simp <;> omega
theorem srcC_len {α : Type} (nl : List ByteArray) (node : α → ByteArray) (l : List α) : ∀ s, (srcC nl node l s).length = s.length := by
  induction l with
  | nil => intro s; rfl
  | cons x xs ih => intro s; unfold srcC; rw [ih, List.length_set]
/-- What choose asks of a network. -/
structure Net.Ok2 (n : Net) : Prop where
  ok : n.Ok
  gen : ∀ g ∈ n.gens, hasS g.node n.nodes = true
  sto : ∀ s ∈ n.stores, hasS s.node n.nodes = true
  ng : n.gens.length ≤ 9223372036854775807
theorem ixN_lt {nl : List ByteArray} {s : ByteArray} (h : hasS s nl = true) : ixN nl s < nl.length ∧ idxS s nl 0 = (ixN nl s : Int) := by
  have := idxS_lt nl 0 h
  unfold ixN
  omega
theorem netE_ok2 {n : Net} (h : netE n = 0) : n.Ok2 := by
  have ho := netE_ok h
  unfold netE at h
  split at h
  · cases h
  · rename_i hz
    simp only at h
    split at h
    · rename_i ha; exact absurd h ha
    · split at h
      · rename_i ha; exact absurd h ha
      · split at h
        · rename_i ha; exact absurd h ha
        · unfold srcE at h
          simp only at h
          split at h
          · rename_i ha; exact absurd h ha
          · rename_i hg
            split at h
            · rename_i ha; exact absurd h ha
            · refine ⟨ho, fun g hg' => ?_, fun s hs => ?_, ?_⟩
              · obtain ⟨⟨m, h1⟩, _⟩ := devAll_ok n.gens _ (by simpa using hg) g hg'
                exact device_ends h1 g.node (by simp)
              · obtain ⟨⟨m, h1⟩, _⟩ := devAll_ok n.stores _ (by simpa using h) s hs
                exact device_ends h1 s.node (by simp)
              · have hs : SizesOk n.nodes.length n.sws.length n.brs.length n.gens.length n.loads.length n.stores.length := by
                  unfold sizesE at hz
                  split at hz
                  · assumption
                  · simp at hz
                have := hs.2.2.2.1
                omega

set_option maxHeartbeats 400000 in
theorem cat_c (na : Option Addr) (nn nc : Nat) (nl : List ByteArray) (s : ByteArray) (bx : Nat) (w : World) (hn : nl.length = nn) (hr : Reads w (.slice na nn nc) nn (strs nl)) (c0 : w.cell? ⟨bx, 0, none⟩ = some (.slice na nn nc)) :
    Calls Try.prog 103 #[.string s, .pointer (some ⟨bx, 0, none⟩)] w fun e w' => e = .returned (.int .i64 (idxS s nl 0)) ∧ w' = w := by
  have HC := Lib.hid (index_c (.slice na nn nc) nl s w (by show Reads _ _ _ _; rw [hn]; exact hr))
  generalize idxS s nl 0 = E at *
  clear hr hn
  go_enter Try.func103, Try.ntmps103
  go_wp2_with fail
  refine HC.out.mono ?_; rintro e w2 ⟨rfl, rfl⟩
  go_wp2_with fail
  go_ret
  exact ⟨rfl, rfl⟩
theorem infoCE : (Try.prog.info? 126).map (fun i => (i.zero, i.size, i.bytes)) = some (some (.agg #[.string ByteArray.empty, .int .i64 0, .int .i64 0, .bool false]), 4, 40) := by kernel_rfl
end Go.Proofs.Ytplebibabcdipaa
