/- netmodel.sizes. -/
import Derived.Test.YtplebibabcdipaaStr4
namespace Go.Proofs.Ytplebibabcdipaa
open Go.RowKit

def SizesOk (nn sn bn gn ln tn : Nat) : Prop := nn ≤ 24 ∧ sn ≤ 32 ∧ bn ≤ 24 ∧ gn ≤ 10 ∧ ln ≤ 12 ∧ tn ≤ 4
instance (nn sn bn gn ln tn : Nat) : Decidable (SizesOk nn sn bn gn ln tn) := by unfold SizesOk; infer_instance
def sizesE (nn sn bn gn ln tn : Nat) : Int := if SizesOk nn sn bn gn ln tn then 0 else 2
theorem ret_int {k : IntKind} {a b : Int} (h : a = b) : Ending.returned (.int k a) = .returned (.int k b) := by rw [h]

set_option maxHeartbeats 1000000 in
theorem sizes_c (na : Option Addr) (nn nc : Nat) (sa : Option Addr) (sn sc : Nat) (ba : Option Addr) (bn bc : Nat) (ga : Option Addr) (gn gc : Nat) (la : Option Addr) (ln lc : Nat) (ta : Option Addr) (tn tc : Nat) (w : World) :
    Calls Try.prog 79 #[netV na nn nc sa sn sc ba bn bc ga gn gc la ln lc ta tn tc] w fun e w' => e = .returned (.int .i64 (sizesE nn sn bn gn ln tn)) ∧ Below w.heap.size w w' := by
  by_cases h1 : nn ≤ 24 ∧ sn ≤ 32 ∧ bn ≤ 24
  · by_cases h2 : gn ≤ 10 ∧ ln ≤ 12 ∧ tn ≤ 4
    · have HR : Hid (sizesE nn sn bn gn ln tn = 0) := if_pos ⟨h1.1, h1.2.1, h1.2.2, h2⟩
      obtain ⟨a1, a2, a3⟩ := h1
      obtain ⟨a4, a5, a6⟩ := h2
      generalize sizesE nn sn bn gn ln tn = E at *
      have g1 : decide ((24 : Int) < nn) = false := decide_eq_false (by omega)
      have g2 : decide ((32 : Int) < sn) = false := decide_eq_false (by omega)
      have g3 : decide ((24 : Int) < bn) = false := decide_eq_false (by omega)
      have g4 : decide ((10 : Int) < gn) = false := decide_eq_false (by omega)
      have g5 : decide ((12 : Int) < ln) = false := decide_eq_false (by omega)
      have g6 : decide ((4 : Int) < tn) = false := decide_eq_false (by omega)
      go_enter Try.func79, Try.ntmps79
      go_wp2
      all_goals (go_ret; exact ⟨by rw [HR.out]; rfl, belowA (Below.refl _ w) _⟩)
    · have HR : Hid (sizesE nn sn bn gn ln tn = 2) := if_neg (fun h => h2 h.2.2.2)
      obtain ⟨a1, a2, a3⟩ := h1
      generalize sizesE nn sn bn gn ln tn = E at *
      have g1 : decide ((24 : Int) < nn) = false := decide_eq_false (by omega)
      have g2 : decide ((32 : Int) < sn) = false := decide_eq_false (by omega)
      have g3 : decide ((24 : Int) < bn) = false := decide_eq_false (by omega)
      have H2 := Lib.hid h2
      clear h2
      go_enter Try.func79, Try.ntmps79
      go_wp2
      all_goals first
        | (exfalso; apply H2.out; omega)
        | (go_ret; exact ⟨by rw [HR.out]; rfl, belowA (Below.refl _ w) _⟩)
  · have HR : Hid (sizesE nn sn bn gn ln tn = 2) := if_neg (fun h => h1 ⟨h.1, h.2.1, h.2.2.1⟩)
    generalize sizesE nn sn bn gn ln tn = E at *
    have H1 := Lib.hid h1
    clear h1
    go_enter Try.func79, Try.ntmps79
    go_wp2
    all_goals first
      | (exfalso; apply H1.out; omega)
      | (go_ret; exact ⟨by rw [HR.out]; rfl, belowA (Below.refl _ w) _⟩)
end Go.Proofs.Ytplebibabcdipaa
