/- Lists of structs as flat cells; the devices of a network. -/
import Derived.Test.YtplebibabcdipaaStr6
namespace Go.Proofs.Ytplebibabcdipaa
open Go.RowKit

def flat {α : Type} (f : α → List Value) (l : List α) : List Value := l.flatMap f
theorem flat_get {α : Type} {f : α → List Value} {sz : Nat} (hf : ∀ x, (f x).length = sz) : ∀ (l : List α) (i j : Nat) (x : α), l[i]? = some x → j < sz → (flat f l)[i * sz + j]? = (f x)[j]? := by
  intro l
  induction l with
  | nil => intro i j x h _; simp at h
  | cons y ys ih =>
    intro i j x h hj
    have e : flat f (y :: ys) = f y ++ flat f ys := by unfold flat; simp
    rw [e]
    cases i with
    | zero =>
      simp at h; subst h
      rw [Nat.zero_mul, Nat.zero_add, List.getElem?_append_left (by rw [hf]; exact hj)]
    | succ i =>
      have h' : ys[i]? = some x := by simpa using h
      have e1 : (i + 1) * sz + j = sz + (i * sz + j) := by rw [Nat.add_mul]; omega
      rw [e1, List.getElem?_append_right (by rw [hf]; omega), hf, Nat.add_sub_cancel_left]
      exact ih i j x h' hj
theorem flat_len {α : Type} {f : α → List Value} {sz : Nat} (hf : ∀ x, (f x).length = sz) (l : List α) : (flat f l).length = l.length * sz := by
  induction l with
  | nil => simp [flat]
  | cons y ys ih =>
    have e : flat f (y :: ys) = f y ++ flat f ys := by unfold flat; simp
    rw [e, List.length_append, hf, ih, List.length_cons, Nat.add_mul]; omega

structure NSw where
  name : ByteArray
  a : ByteArray
  b : ByteArray
  brk : Bool
  opn : Bool
def NSw.cells (x : NSw) : List Value := [.string x.name, .string x.a, .string x.b, .bool x.brk, .bool x.opn]
structure NBr where
  name : ByteArray
  fr : ByteArray
  to : ByteArray
  x : Int
  tap : Int
  sh : Int
  lim : Int
  shrt : Int
  hold : Int
def NBr.cells (x : NBr) : List Value := [.string x.name, .string x.fr, .string x.to, .int .i64 x.x, .int .i64 x.tap, .int .i64 x.sh, .int .i64 x.lim, .int .i64 x.shrt, .int .i64 x.hold]
structure NGen where
  name : ByteArray
  node : ByteArray
  least : Int
  most : Int
  ramp : Int
def NGen.cells (x : NGen) : List Value := [.string x.name, .string x.node, .int .i64 x.least, .int .i64 x.most, .int .i64 x.ramp]
structure NLoad where
  name : ByteArray
  node : ByteArray
  dem : Int
def NLoad.cells (x : NLoad) : List Value := [.string x.name, .string x.node, .int .i64 x.dem]
structure NStore where
  name : ByteArray
  node : ByteArray
  chg : Int
  dis : Int
  cap : Int
def NStore.cells (x : NStore) : List Value := [.string x.name, .string x.node, .int .i64 x.chg, .int .i64 x.dis, .int .i64 x.cap]
/-- A cell of an element of a list of structs. -/
theorem Reads.elem {α : Type} {f : α → List Value} {sz : Nat} {w : World} {b off : Nat} {l : List α} (hf : ∀ x, (f x).length = sz)
    (h : ∀ j u, (flat f l)[j]? = some u → w.cell? ⟨b, off + j, none⟩ = some u) {i : Nat} {x : α} (hi : l[i]? = some x) {j : Nat} {u : Value} (hj : j < sz) (hu : (f x)[j]? = some u) : w.cell? ⟨b, off + (i * sz + j), none⟩ = some u :=
  h _ u (by rw [flat_get hf l i j x hi hj]; exact hu)
end Go.Proofs.Ytplebibabcdipaa
