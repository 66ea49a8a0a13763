/- choose: room, side. -/
import Derived.Test.YtplebibabcdipaaCho5
namespace Go.Proofs.Ytplebibabcdipaa
open Go.RowKit

def CEdge.cap (e : CEdge) : Int := if e.brk = true then 1 else 1000
def edgeAt (c : CNet) (k : Nat) : CEdge := c.edges.getD k ⟨.empty, 0, 0, false⟩
/-- How much more may flow through edge k from a node. -/
def roomC (c : CNet) (f : List Int) (k fr : Nat) : Int := if fr = (edgeAt c k).a then (edgeAt c k).cap - f.getD k 0 else (edgeAt c k).cap + f.getD k 0
structure FlowB (c : CNet) (f : List Int) : Prop where
  len : f.length = c.edges.length
  lo : ∀ k, -1000 ≤ f.getD k 0
  hi : ∀ k, f.getD k 0 ≤ 1000
set_option maxHeartbeats 1000000 in
set_option maxRecDepth 100000 in
theorem room_c (c : CNet) (X : Nat) (ea : Option Addr) (ec : Nat) (sa : Option Addr) (sc : Nat) (f : List Int) (fv : Value) (k fr : Nat) (w : World) (hn : NetC w X c ea ec sa sc) (hm : c.edges.length ≤ 1000) (hf : FlowB c f) (hv : IVal w fv f) (hk : k < c.edges.length) :
    Calls Try.prog 105 #[.pointer (some ⟨X, 0, none⟩), fv, .int .i64 k, .int .i64 fr] w fun e w' => e = .returned (.int .i64 (roomC c f k fr)) ∧ w' = w := by
  obtain ⟨fa, fc, rfl⟩ := hv.slice
  obtain ⟨x, hx⟩ : ∃ x, c.edges[k]? = some x := ⟨_, List.getElem?_eq_getElem hk⟩
  have he : edgeAt c k = x := by unfold edgeAt; simp [hx]
  have HR : Hid (roomC c f k fr = if fr = x.a then x.cap - f.getD k 0 else x.cap + f.getD k 0) := by show _ = _; unfold roomC; rw [he]
  generalize roomC c f k fr = R at *
  have hlo := hf.lo k
  have hhi := hf.hi k
  have hfl := hf.len
  have hb := hn.blk
  have x1 := hb.cell 1 rfl
  obtain ⟨g, off, cap', hvv, _, _, _, hcc⟩ := hn.edges.addr (by omega)
  have hv' : Reads w (.slice fa f.length fc) f.length (ints f) := hv
  obtain ⟨g2, off2, cap2, hvv2, _, _, _, hcc2⟩ := hv'.addr (by omega)
  simp only [Value.slice.injEq] at hvv hvv2
  obtain ⟨rfl, _, rfl⟩ := hvv
  obtain ⟨rfl, _, rfl⟩ := hvv2
  have d0 := hcc2 k _ (ints_get (by omega))
  obtain ⟨_, c1, _, c3⟩ := ce_cells hcc hx
  obtain ⟨nm, a, b, bk⟩ := x
  simp only at c1 c3 HR
  have HC : Hid (CEdge.cap ⟨nm, a, b, bk⟩ = if bk = true then 1 else 1000) := rfl
  generalize f.getD k 0 = d at *
  obtain ⟨m, hmm⟩ : ∃ m, c.edges.length = m := ⟨_, rfl⟩
  rw [hmm] at x1 hk hfl hm
  rw [hfl]
  have p1 : decide ((k : Int) < 0) = false := decide_eq_false (by omega)
  have p2 : decide ((m : Int) ≤ (k : Int)) = false := decide_eq_false (by omega)
  have p3 : decide (m ≤ k) = false := decide_eq_false (by omega)
  have w1 : IntKind.i64.wrap ((1 : Int) - d) = 1 - d := IntWalk.i64_in _ (by omega)
  have w2 : IntKind.i64.wrap ((1 : Int) + d) = 1 + d := IntWalk.i64_in _ (by omega)
  have w3 : IntKind.i64.wrap ((1000 : Int) - d) = 1000 - d := IntWalk.i64_in _ (by omega)
  have w4 : IntKind.i64.wrap ((1000 : Int) + d) = 1000 + d := IntWalk.i64_in _ (by omega)
  clear he hx hf hn hb hv hv' hcc hcc2 hmm
  by_cases hfr : fr = a
  ·
    have g1 : ((fr : Int) == (a : Int)) = true := by simp [hfr]
    have HR2 := Lib.hid (HR.out.trans (if_pos hfr))
    clear HR hfr
    cases bk
    ·
      have HC2 := Lib.hid (HC.out.trans (if_neg (by decide)))
      clear HC
      go_enter Try.func105, Try.ntmps105
      go_wp2_with fail
      go_ret
      exact ⟨by rw [HR2.out, HC2.out]; rfl, rfl⟩
    ·
      have HC2 := Lib.hid (HC.out.trans (if_pos rfl))
      clear HC
      go_enter Try.func105, Try.ntmps105
      go_wp2_with fail
      go_ret
      exact ⟨by rw [HR2.out, HC2.out]; rfl, rfl⟩
  ·
    have g1 : ((fr : Int) == (a : Int)) = false := by rw [beq_eq_false_iff_ne]; omega
    have HR2 := Lib.hid (HR.out.trans (if_neg hfr))
    clear HR hfr
    cases bk
    ·
      have HC2 := Lib.hid (HC.out.trans (if_neg (by decide)))
      clear HC
      go_enter Try.func105, Try.ntmps105
      go_wp2_with fail
      go_ret
      exact ⟨by rw [HR2.out, HC2.out]; rfl, rfl⟩
    ·
      have HC2 := Lib.hid (HC.out.trans (if_pos rfl))
      clear HC
      go_enter Try.func105, Try.ntmps105
      go_wp2_with fail
      go_ret
      exact ⟨by rw [HR2.out, HC2.out]; rfl, rfl⟩
end Go.Proofs.Ytplebibabcdipaa
