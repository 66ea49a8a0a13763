/- What netmodel.Check computes, in plain Lean. -/
import Derived.Test.YtplebibabcdipaaFlat
namespace Go.Proofs.Ytplebibabcdipaa
open Go.RowKit

structure Net where
  nodes : List ByteArray
  sws : List NSw
  brs : List NBr
  gens : List NGen
  loads : List NLoad
  stores : List NStore

/-- The names of the nodes, one after another. -/
def addAll : List ByteArray → List ByteArray → Int × List ByteArray
  | [], met => (0, met)
  | s :: ss, met => if (addR met s).1 ≠ 0 then addR met s else addAll ss (addR met s).2
/-- Devices one after another: their names, their nodes, and a test of each. -/
def devAll {α : Type} (nl : List ByteArray) (name : α → ByteArray) (ends : α → List ByteArray) (test : α → Int) : List α → List ByteArray → Int × List ByteArray
  | [], met => (0, met)
  | x :: xs, met =>
    if deviceE nl met (name x) (ends x) ≠ 0 then (deviceE nl met (name x) (ends x), (addR met (name x)).2)
    else if test x ≠ 0 then (test x, (addR met (name x)).2)
    else devAll nl name ends test xs (addR met (name x)).2
def sameB (x y : ByteArray) : Bool := x.toList == y.toList
def NSw.test (x : NSw) : Int := if sameB x.a x.b = true then 3 else 0
def NBr.test (x : NBr) : Int := if sameB x.fr x.to = true then 3 else brE x.x x.tap x.sh x.lim x.shrt x.hold
def NGen.test (x : NGen) : Int := if (withinB x.least 0 100000 && (withinB x.most x.least 100000 && withinB x.ramp 0 100000)) = true then 0 else 4
def NLoad.test (x : NLoad) : Int := if withinB x.dem 0 100000 = true then 0 else 4
def NStore.test (x : NStore) : Int := if (withinB x.chg 0 100000 && (withinB x.dis 0 100000 && withinB x.cap 0 100000)) = true then 0 else 4
/-- Generators, loads, storages. -/
def srcE (n : Net) (met : List ByteArray) : Int :=
  let g := devAll n.nodes NGen.name (fun x => [x.node]) NGen.test n.gens met
  if g.1 ≠ 0 then g.1 else
  let l := devAll n.nodes NLoad.name (fun x => [x.node]) NLoad.test n.loads g.2
  if l.1 ≠ 0 then l.1 else (devAll n.nodes NStore.name (fun x => [x.node]) NStore.test n.stores l.2).1
def netE (n : Net) : Int :=
  if sizesE n.nodes.length n.sws.length n.brs.length n.gens.length n.loads.length n.stores.length ≠ 0 then 2 else
  let a := addAll n.nodes []
  if a.1 ≠ 0 then a.1 else
  let s := devAll n.nodes NSw.name (fun x => [x.a, x.b]) NSw.test n.sws a.2
  if s.1 ≠ 0 then s.1 else
  let b := devAll n.nodes NBr.name (fun x => [x.fr, x.to]) NBr.test n.brs s.2
  if b.1 ≠ 0 then b.1 else srcE n b.2
theorem addR_len (met : List ByteArray) (s : ByteArray) : (addR met s).2.length ≤ met.length + 1 := by
  unfold addR; split
  · simp
  · split <;> simp
theorem addAll_drop {l met : List ByteArray} {k : Nat} (h : k < l.length) : addAll (l.drop k) met = if (addR met (l.getD k ByteArray.empty)).1 ≠ 0 then addR met (l.getD k ByteArray.empty) else addAll (l.drop (k + 1)) (addR met (l.getD k ByteArray.empty)).2 := by
  rw [List.drop_eq_getElem_cons h]
  conv => lhs; unfold addAll
  simp [h]
theorem devAll_drop {α : Type} {nl : List ByteArray} {name : α → ByteArray} {ends : α → List ByteArray} {test : α → Int} {l : List α} {met : List ByteArray} {k : Nat} {x : α} (h : l[k]? = some x) :
    devAll nl name ends test (l.drop k) met =
    if deviceE nl met (name x) (ends x) ≠ 0 then (deviceE nl met (name x) (ends x), (addR met (name x)).2)
    else if test x ≠ 0 then (test x, (addR met (name x)).2)
    else devAll nl name ends test (l.drop (k + 1)) (addR met (name x)).2 := by
  obtain ⟨hk, hx⟩ := List.getElem?_eq_some_iff.1 h
  rw [List.drop_eq_getElem_cons hk, hx]
  rfl
end Go.Proofs.Ytplebibabcdipaa
