/- slices.SortStableFunc at []int, for at most 19 numbers. -/
import Derived.Test.YtplebibabcdipaaSrtI
namespace Go.Proofs.Ytplebibabcdipaa
open Go.RowKit

set_option maxHeartbeats 1000000 in
theorem stable_c (sa : Option Addr) (m c : Nat) (fn : FuncId) (caps : Array Value) (w : World) (Post : World → Prop) (hm : m ≤ 19)
    (hi : Hid (Calls Try.prog 114 #[.slice sa m c, .int .i64 0, .int .i64 m, .func (.func fn) #[] caps] w fun e w' => e = .returned (.tuple #[]) ∧ Post w')) :
    Calls Try.prog 87 #[.slice sa m c, .int .i64 m, .func (.func fn) #[] caps] w fun e w' => e = .returned (.tuple #[]) ∧ Post w' := by
  have g1 : decide ((20 : Int) ≤ (m : Int)) = false := decide_eq_false (by omega)
  have g2 : decide ((20 : Int) < (m : Int)) = false := decide_eq_false (by omega)
  go_enter Try.func87, Try.ntmps87
  go_wp2_with fail
  go_loopw [7, 8] (fun a b wr => a = .int .i64 0 ∧ b = .int .i64 20 ∧ w = wr) (fun _ _ _ => 0)
  case atStart => exact ⟨rfl, rfl, rfl⟩
  case round =>
    obtain ⟨rfl, rfl, rfl⟩ := hrel
    go_wp2_with fail
    refine hi.out.mono ?_; rintro e w1 ⟨rfl, hp⟩
    have HP := Lib.hid hp
    clear hp
    go_wp2_with fail
    go_loopw [6] (fun a wr => a = .int .i64 20 ∧ w1 = wr) (fun _ _ => 0)
    case atStart => exact ⟨rfl, rfl⟩
    case round =>
      obtain ⟨rfl, rfl⟩ := hrel
      go_wp2_with fail
      go_end0
      exact ⟨rfl, HP.out⟩
set_option maxHeartbeats 1000000 in
theorem sortStable_c (sa : Option Addr) (m c : Nat) (fn : FuncId) (caps : Array Value) (w : World) (Post : World → Prop) (hm : m ≤ 19)
    (hi : Hid (Calls Try.prog 114 #[.slice sa m c, .int .i64 0, .int .i64 m, .func (.func fn) #[] caps] w fun e w' => e = .returned (.tuple #[]) ∧ Post w')) :
    Calls Try.prog 42 #[.slice sa m c, .func (.func fn) #[] caps] w fun e w' => e = .returned (.tuple #[]) ∧ Post w' := by
  have HC := Lib.hid (stable_c sa m c fn caps w Post hm hi)
  go_enter Try.func42, Try.ntmps42
  go_wp2_with fail
  refine HC.out.mono ?_; rintro e w1 ⟨rfl, hp⟩
  have HP := Lib.hid hp
  clear hp
  go_wp2_with fail
  go_end0
  exact ⟨rfl, HP.out⟩
set_option maxHeartbeats 1000000 in
theorem ins0_c (sa : Option Addr) (c : Nat) (fn : FuncId) (caps : Array Value) (w : World) :
    Calls Try.prog 114 #[.slice sa 0 c, .int .i64 0, .int .i64 (0 : Nat), .func (.func fn) #[] caps] w fun e w' => e = .returned (.tuple #[]) ∧ w = w' := by
  go_enter Try.func114, Try.ntmps114
  go_wp2_with fail
  go_loopw [8] (fun a wr => a = .int .i64 1 ∧ w = wr) (fun _ _ => 0)
  case atStart => exact ⟨rfl, rfl⟩
  case round =>
    obtain ⟨rfl, rfl⟩ := hrel
    go_wp2_with fail
    go_end0
    exact ⟨rfl, rfl⟩
end Go.Proofs.Ytplebibabcdipaa
