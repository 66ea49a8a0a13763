/- A device of a network met in a loop: its copy, the list of its nodes, the call of device; netmodel.sources. -/
import Derived.Test.YtplebibabcdipaaNetR
namespace Go.Proofs.Ytplebibabcdipaa
open Go.RowKit

theorem gen_cells {w : World} {b off : Nat} {l : List NGen} (h : ∀ j u, (flat NGen.cells l)[j]? = some u → w.cell? ⟨b, off + j, none⟩ = some u) {k : Nat} {x : NGen} (hx : l[k]? = some x) :
    w.cell? ⟨b, off + k * 5, none⟩ = some (.string x.name) ∧ w.cell? ⟨b, off + k * 5 + 1, none⟩ = some (.string x.node) ∧ w.cell? ⟨b, off + k * 5 + 2, none⟩ = some (.int .i64 x.least) ∧ w.cell? ⟨b, off + k * 5 + 3, none⟩ = some (.int .i64 x.most) ∧ w.cell? ⟨b, off + k * 5 + 4, none⟩ = some (.int .i64 x.ramp) := by
  have e := fun j u hj hu => Reads.elem (sz := 5) (fun _ => rfl) h hx (j := j) (u := u) hj hu
  exact ⟨e 0 _ (by decide) rfl, by rw [Nat.add_assoc]; exact e 1 _ (by decide) rfl, by rw [Nat.add_assoc]; exact e 2 _ (by decide) rfl, by rw [Nat.add_assoc]; exact e 3 _ (by decide) rfl, by rw [Nat.add_assoc]; exact e 4 _ (by decide) rfl⟩
theorem store_cells {w : World} {b off : Nat} {l : List NStore} (h : ∀ j u, (flat NStore.cells l)[j]? = some u → w.cell? ⟨b, off + j, none⟩ = some u) {k : Nat} {x : NStore} (hx : l[k]? = some x) :
    w.cell? ⟨b, off + k * 5, none⟩ = some (.string x.name) ∧ w.cell? ⟨b, off + k * 5 + 1, none⟩ = some (.string x.node) ∧ w.cell? ⟨b, off + k * 5 + 2, none⟩ = some (.int .i64 x.chg) ∧ w.cell? ⟨b, off + k * 5 + 3, none⟩ = some (.int .i64 x.dis) ∧ w.cell? ⟨b, off + k * 5 + 4, none⟩ = some (.int .i64 x.cap) := by
  have e := fun j u hj hu => Reads.elem (sz := 5) (fun _ => rfl) h hx (j := j) (u := u) hj hu
  exact ⟨e 0 _ (by decide) rfl, by rw [Nat.add_assoc]; exact e 1 _ (by decide) rfl, by rw [Nat.add_assoc]; exact e 2 _ (by decide) rfl, by rw [Nat.add_assoc]; exact e 3 _ (by decide) rfl, by rw [Nat.add_assoc]; exact e 4 _ (by decide) rfl⟩
theorem load_cells {w : World} {b off : Nat} {l : List NLoad} (h : ∀ j u, (flat NLoad.cells l)[j]? = some u → w.cell? ⟨b, off + j, none⟩ = some u) {k : Nat} {x : NLoad} (hx : l[k]? = some x) :
    w.cell? ⟨b, off + k * 3, none⟩ = some (.string x.name) ∧ w.cell? ⟨b, off + k * 3 + 1, none⟩ = some (.string x.node) ∧ w.cell? ⟨b, off + k * 3 + 2, none⟩ = some (.int .i64 x.dem) := by
  have e := fun j u hj hu => Reads.elem (sz := 3) (fun _ => rfl) h hx (j := j) (u := u) hj hu
  exact ⟨e 0 _ (by decide) rfl, by rw [Nat.add_assoc]; exact e 1 _ (by decide) rfl, by rw [Nat.add_assoc]; exact e 2 _ (by decide) rfl⟩
theorem sw_cells {w : World} {b off : Nat} {l : List NSw} (h : ∀ j u, (flat NSw.cells l)[j]? = some u → w.cell? ⟨b, off + j, none⟩ = some u) {k : Nat} {x : NSw} (hx : l[k]? = some x) :
    w.cell? ⟨b, off + k * 5, none⟩ = some (.string x.name) ∧ w.cell? ⟨b, off + k * 5 + 1, none⟩ = some (.string x.a) ∧ w.cell? ⟨b, off + k * 5 + 2, none⟩ = some (.string x.b) ∧ w.cell? ⟨b, off + k * 5 + 3, none⟩ = some (.bool x.brk) ∧ w.cell? ⟨b, off + k * 5 + 4, none⟩ = some (.bool x.opn) := by
  have e := fun j u hj hu => Reads.elem (sz := 5) (fun _ => rfl) h hx (j := j) (u := u) hj hu
  exact ⟨e 0 _ (by decide) rfl, by rw [Nat.add_assoc]; exact e 1 _ (by decide) rfl, by rw [Nat.add_assoc]; exact e 2 _ (by decide) rfl, by rw [Nat.add_assoc]; exact e 3 _ (by decide) rfl, by rw [Nat.add_assoc]; exact e 4 _ (by decide) rfl⟩
theorem br_cells {w : World} {b off : Nat} {l : List NBr} (h : ∀ j u, (flat NBr.cells l)[j]? = some u → w.cell? ⟨b, off + j, none⟩ = some u) {k : Nat} {x : NBr} (hx : l[k]? = some x) :
    w.cell? ⟨b, off + k * 9, none⟩ = some (.string x.name) ∧ w.cell? ⟨b, off + k * 9 + 1, none⟩ = some (.string x.fr) ∧ w.cell? ⟨b, off + k * 9 + 2, none⟩ = some (.string x.to) ∧ w.cell? ⟨b, off + k * 9 + 3, none⟩ = some (.int .i64 x.x) ∧ w.cell? ⟨b, off + k * 9 + 4, none⟩ = some (.int .i64 x.tap) ∧
    w.cell? ⟨b, off + k * 9 + 5, none⟩ = some (.int .i64 x.sh) ∧ w.cell? ⟨b, off + k * 9 + 6, none⟩ = some (.int .i64 x.lim) ∧ w.cell? ⟨b, off + k * 9 + 7, none⟩ = some (.int .i64 x.shrt) ∧ w.cell? ⟨b, off + k * 9 + 8, none⟩ = some (.int .i64 x.hold) := by
  have e := fun j u hj hu => Reads.elem (sz := 9) (fun _ => rfl) h hx (j := j) (u := u) hj hu
  exact ⟨e 0 _ (by decide) rfl, by rw [Nat.add_assoc]; exact e 1 _ (by decide) rfl, by rw [Nat.add_assoc]; exact e 2 _ (by decide) rfl, by rw [Nat.add_assoc]; exact e 3 _ (by decide) rfl, by rw [Nat.add_assoc]; exact e 4 _ (by decide) rfl,
    by rw [Nat.add_assoc]; exact e 5 _ (by decide) rfl, by rw [Nat.add_assoc]; exact e 6 _ (by decide) rfl, by rw [Nat.add_assoc]; exact e 7 _ (by decide) rfl, by rw [Nat.add_assoc]; exact e 8 _ (by decide) rfl⟩

/-- The call of device for an element that was copied into a block of its own, with a list of nodes that was just built. -/
theorem dev_c (na : Option Addr) (nn nc : Nat) (sa : Option Addr) (sn sc : Nat) (ba : Option Addr) (bn bc : Nat) (ga : Option Addr) (gn gc : Nat) (la : Option Addr) (ln lc : Nat) (ta : Option Addr) (tn tc : Nat)
    (nl met : List ByteArray) (s : ByteArray) (b bx mm : Nat) (ls : List ByteArray) (ec : Array Value) (et : TypeId) (nt : Array Value) (w0 wr : World) (hn : nl.length = nn) (hnl : Reads w0 (.slice na nn nc) nn (strs nl)) (hnb : strs nl ≠ [] → ∀ x, na = some x → x.block < b)
    (hbl : Below b w0 wr) (hns : NS b met wr) (hbx : Blk wr bx nt 29) (hxb : bx ≠ b) (het : et ≠ 9) (hs : s.size ≤ 9223372036854775807) (hm : met.length ≤ 1000) (hlm : ls.length = mm) (hm1 : 0 < mm) (hm2 : mm ≤ 100) :
    Calls Try.prog 81 #[netV na nn nc sa sn sc ba bn bc ga gn gc la ln lc ta tn tc, .pointer (some ⟨b, 0, none⟩), .string s, .slice (some ⟨wr.heap.size + 1, 0, none⟩) mm mm] ((wr.alloc (.cells ec et)).alloc (.cells (strs ls).toArray 9)) fun e w' =>
      e = .returned (.int .i64 (deviceE nl met s ls)) ∧ NS b (addR met s).2 w' ∧ Below b w0 w' ∧ Blk w' bx nt 29 ∧ Blk w' wr.heap.size ec et := by
  have hb : b < wr.heap.size := by obtain ⟨_, _, _, h⟩ := hns; omega
  have k3 : Blk ((wr.alloc (.cells ec et)).alloc (.cells (strs ls).toArray 9)) (wr.heap.size + 1) (strs ls).toArray 9 := Blk.new2 _ _ _ _
  have k2 : Blk ((wr.alloc (.cells ec et)).alloc (.cells (strs ls).toArray 9)) wr.heap.size ec et := (Blk.new wr ec et).alloc _
  have kx : Blk ((wr.alloc (.cells ec et)).alloc (.cells (strs ls).toArray 9)) bx nt 29 := (hbx.alloc _).alloc _
  have B : Below wr.heap.size wr ((wr.alloc (.cells ec et)).alloc (.cells (strs ls).toArray 9)) := belowA (belowA (Below.refl _ wr) _) _
  generalize (wr.alloc (.cells ec et)).alloc (.cells (strs ls).toArray 9) = W3 at *
  have hb3 : Below b w0 W3 := hbl.trans (B.mono (Nat.le_of_lt hb))
  have ns3 := hns.below B
  have own : ∀ lv, Blk W3 b #[lv] 142 → lv.ownBlock ≠ some (wr.heap.size + 1) := fun lv hl e => by
    have := hns.own_lt lv (by unfold Blk at hl ⊢; rw [← B.block b hb]; exact hl) _ e
    omega
  have r3 : Reads W3 (.slice (some ⟨wr.heap.size + 1, 0, none⟩) mm mm) mm (strs ls) := Or.inr ⟨_, 0, mm, rfl, Nat.le_refl _, by omega, k3.lt, fun j u hj => by
    rw [Nat.zero_add]; exact k3.cell j (by simpa using hj)⟩
  refine (device_c na nn nc sa sn sc ba bn bc ga gn gc la ln lc ta tn tc nl met ls s b (wr.heap.size + 1) mm mm W3 hn (hnl.low hnb hb3) hnb hlm hm1 r3 (by omega) own hs hm ns3).mono ?_
  rintro e w' ⟨he, h1, h2, h3⟩
  exact ⟨he, h1, hb3.trans h2, ns3.keep h3 kx (by decide) hxb, ns3.keep h3 k2 het (by omega)⟩
end Go.Proofs.Ytplebibabcdipaa
