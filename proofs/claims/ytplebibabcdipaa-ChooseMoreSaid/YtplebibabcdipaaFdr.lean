/- The feeder: a network that the laws build; what the zones' functions answer on it. -/
import Derived.Test.YtplebibabcdipaaZonC
namespace Go.Proofs.Ytplebibabcdipaa
open Go.RowKit

def sA : ByteArray := ⟨#[65]⟩
def sB : ByteArray := ⟨#[66]⟩
def sC : ByteArray := ⟨#[67]⟩
def sD : ByteArray := ⟨#[68]⟩
def sE : ByteArray := ⟨#[69]⟩
def sS : ByteArray := ⟨#[83]⟩
def sT : ByteArray := ⟨#[84]⟩
def sL : ByteArray := ⟨#[76]⟩
def sM : ByteArray := ⟨#[77]⟩
def sG : ByteArray := ⟨#[71]⟩
def feedN : Net := ⟨[sA, sB, sC, sD, sE], [⟨sS, sA, sB, true, false⟩, ⟨sT, sC, sD, true, false⟩], [⟨sL, sB, sC, 1000, 1000, 0, 0, 0, 0⟩, ⟨sM, sD, sE, 1000, 1000, 0, 0, 0, 0⟩], [⟨sG, sA, 0, 9, 0⟩], [], []⟩
def feedZ : ZRel := ⟨sB, sL, [⟨800, 0⟩, ⟨1500, 400⟩]⟩
theorem feedN_wf : feedN.Wf := by
  refine ⟨?_, ?_, ?_, ?_, ?_, ?_⟩ <;> decide +kernel
theorem feed_dist : distE feedN feedZ ⟨sM, 250⟩ = (1250000, 0) := by decide +kernel
theorem feed_find : findE feedN feedZ ⟨sL, 900⟩ = (1, 0) := by decide +kernel
theorem feed_time : timeE feedN feedZ ⟨sL, 900⟩ = (400, 0) := by decide +kernel
theorem feed_none : timeE feedN feedZ ⟨sM, 600⟩ = (0, 8) := by decide +kernel

theorem reads_blk {w : World} {b n : Nat} {cs : List Value} {t : TypeId} (h : Blk w b cs.toArray t) (hn : n ≤ 9223372036854775807) : Reads w (.slice (some ⟨b, 0, none⟩) n n) n cs :=
  Or.inr ⟨b, 0, n, rfl, Nat.le_refl _, hn, h.lt, fun j u hj => by rw [Nat.zero_add]; exact h.cell j (by simpa using hj)⟩
abbrev feedA (b : Nat) : NAddr := ⟨some ⟨b + 1, 0, none⟩, 5, some ⟨b + 1 + 1, 0, none⟩, 2, some ⟨b + 1 + 1 + 1, 0, none⟩, 2, some ⟨b + 1 + 1 + 1 + 1, 0, none⟩, 1, none, 0, none, 0⟩
abbrev feedW (w : World) (c0 : Array Value) : World :=
  ((((w.alloc (.cells c0 29)).alloc (.cells (strs feedN.nodes).toArray 9)).alloc (.cells (flat NSw.cells feedN.sws).toArray 82)).alloc (.cells (flat NBr.cells feedN.brs).toArray 36)).alloc (.cells (flat NGen.cells feedN.gens).toArray 140)
theorem feed_netR (w : World) (c0 : Array Value) : NetR (feedW w c0) (feedA w.heap.size) feedN ∧ Below w.heap.size w (feedW w c0) ∧ Blk (feedW w c0) w.heap.size c0 29 := by
  have e1 : ∀ o : Obj, (w.alloc o).heap.size = w.heap.size + 1 := fun o => World.size_alloc _ _
  have e2 : ∀ o o' : Obj, ((w.alloc o).alloc o').heap.size = w.heap.size + 1 + 1 := fun o o' => by rw [World.size_alloc, e1]
  have e3 : ∀ o o' o'' : Obj, (((w.alloc o).alloc o').alloc o'').heap.size = w.heap.size + 1 + 1 + 1 := fun o o' o'' => by rw [World.size_alloc, e2]
  have e4 : ∀ o o' o'' o3 : Obj, ((((w.alloc o).alloc o').alloc o'').alloc o3).heap.size = w.heap.size + 1 + 1 + 1 + 1 := fun o o' o'' o3 => by rw [World.size_alloc, e3]
  have k0 : Blk (feedW w c0) w.heap.size c0 29 := ((((Blk.new w c0 29).alloc _).alloc _).alloc _).alloc _
  have k1 : Blk (feedW w c0) (w.heap.size + 1) (strs feedN.nodes).toArray 9 := by
    have h := Blk.new (w.alloc (.cells c0 29)) (strs feedN.nodes).toArray 9
    rw [e1] at h
    exact ((h.alloc _).alloc _).alloc _
  have k2 : Blk (feedW w c0) (w.heap.size + 1 + 1) (flat NSw.cells feedN.sws).toArray 82 := by
    have h := Blk.new ((w.alloc (.cells c0 29)).alloc (.cells (strs feedN.nodes).toArray 9)) (flat NSw.cells feedN.sws).toArray 82
    rw [e2] at h
    exact (h.alloc _).alloc _
  have k3 : Blk (feedW w c0) (w.heap.size + 1 + 1 + 1) (flat NBr.cells feedN.brs).toArray 36 := by
    have h := Blk.new (((w.alloc (.cells c0 29)).alloc (.cells (strs feedN.nodes).toArray 9)).alloc (.cells (flat NSw.cells feedN.sws).toArray 82)) (flat NBr.cells feedN.brs).toArray 36
    rw [e3] at h
    exact h.alloc _
  have k4 : Blk (feedW w c0) (w.heap.size + 1 + 1 + 1 + 1) (flat NGen.cells feedN.gens).toArray 140 := by
    have h := Blk.new ((((w.alloc (.cells c0 29)).alloc (.cells (strs feedN.nodes).toArray 9)).alloc (.cells (flat NSw.cells feedN.sws).toArray 82)).alloc (.cells (flat NBr.cells feedN.brs).toArray 36)) (flat NGen.cells feedN.gens).toArray 140
    rw [e4] at h
    exact h
  exact ⟨⟨reads_blk k1 (by decide), reads_blk k2 (by decide), reads_blk k3 (by decide), reads_blk k4 (by decide), Or.inl ⟨rfl, rfl, none, 0, rfl⟩, Or.inl ⟨rfl, rfl, none, 0, rfl⟩⟩, belowA (belowA (belowA (belowA (belowA (Below.refl _ w) _) _) _) _) _, k0⟩
set_option maxHeartbeats 2000000 in
theorem feeder_c (w : World) : Calls Try.prog 34 #[] w fun e w' => ∃ x0 : NAddr, e = .returned (x0.val feedN) ∧ NetR w' x0 feedN ∧ Below w.heap.size w w' := by
  have H := Lib.hid (feed_netR w #[.slice (some ⟨w.heap.size + 1, 0, none⟩) 5 5, .slice (some ⟨w.heap.size + 1 + 1, 0, none⟩) 2 2, .slice (some ⟨w.heap.size + 1 + 1 + 1, 0, none⟩) 2 2, .slice (some ⟨w.heap.size + 1 + 1 + 1 + 1, 0, none⟩) 1 1, .slice none 0 0, .slice none 0 0])
  go_enter Try.func34, Try.ntmps34
  go_wp2_with fail
  change bodyPost _ _ _ _ _ (feedW w #[.slice (some ⟨w.heap.size + 1, 0, none⟩) 5 5, .slice (some ⟨w.heap.size + 1 + 1, 0, none⟩) 2 2, .slice (some ⟨w.heap.size + 1 + 1 + 1, 0, none⟩) 2 2, .slice (some ⟨w.heap.size + 1 + 1 + 1 + 1, 0, none⟩) 1 1, .slice none 0 0, .slice none 0 0])
  generalize feedW w #[.slice (some ⟨w.heap.size + 1, 0, none⟩) 5 5, .slice (some ⟨w.heap.size + 1 + 1, 0, none⟩) 2 2, .slice (some ⟨w.heap.size + 1 + 1 + 1, 0, none⟩) 2 2, .slice (some ⟨w.heap.size + 1 + 1 + 1 + 1, 0, none⟩) 1 1, .slice none 0 0, .slice none 0 0] = Wf at *
  have x0 := H.out.2.2.cell 0 rfl
  have x1 := H.out.2.2.cell 1 rfl
  have x2 := H.out.2.2.cell 2 rfl
  have x3 := H.out.2.2.cell 3 rfl
  have x4 := H.out.2.2.cell 4 rfl
  have x5 := H.out.2.2.cell 5 rfl
  exact bodyPost_ret (v := .agg #[.slice (some ⟨w.heap.size + 1, 0, none⟩) 5 5, .slice (some ⟨w.heap.size + 1 + 1, 0, none⟩) 2 2, .slice (some ⟨w.heap.size + 1 + 1 + 1, 0, none⟩) 2 2, .slice (some ⟨w.heap.size + 1 + 1 + 1 + 1, 0, none⟩) 1 1, .slice none 0 0, .slice none 0 0]) (by simp [results, Try.results34, go_sem, x0, x1, x2, x3, x4, x5]) rfl ⟨feedA w.heap.size, rfl, H.out.1, H.out.2.1⟩
end Go.Proofs.Ytplebibabcdipaa
