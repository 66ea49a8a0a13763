/- netmodel.Branch. -/
import Derived.Test.YtplebibabcdipaaStr5
namespace Go.Proofs.Ytplebibabcdipaa
open Go.RowKit

/-- Whether the numbers of a branch are permitted. -/
def brB (x tap sh lim shrt hold : Int) : Bool := withinB x 1 10000 && (withinB tap 500 1500 && (withinB sh (-1000) 1000 && (withinB lim 0 100000 && (withinB shrt lim 100000 && withinB hold 0 200000))))
def brE (x tap sh lim shrt hold : Int) : Int := if brB x tap sh lim shrt hold = true then 0 else 4

set_option maxHeartbeats 2000000 in
theorem branch_c (nm fr to : ByteArray) (x tap sh lim shrt hold : Int) (w : World) :
    Calls Try.prog 82 #[.agg #[.string nm, .string fr, .string to, .int .i64 x, .int .i64 tap, .int .i64 sh, .int .i64 lim, .int .i64 shrt, .int .i64 hold]] w fun e w' => e = .returned (.int .i64 (brE x tap sh lim shrt hold)) ∧ Below w.heap.size w w' := by
  have H1 := Lib.hid (fun W => within_c x 1 10000 W)
  have H2 := Lib.hid (fun W => within_c tap 500 1500 W)
  have H3 := Lib.hid (fun W => within_c sh (-1000) 1000 W)
  have H4 := Lib.hid (fun W => within_c lim 0 100000 W)
  have H5 := Lib.hid (fun W => within_c shrt lim 100000 W)
  have H6 := Lib.hid (fun W => within_c hold 0 200000 W)
  have HE : Hid (brE x tap sh lim shrt hold = if (withinB x 1 10000 && (withinB tap 500 1500 && (withinB sh (-1000) 1000 && (withinB lim 0 100000 && (withinB shrt lim 100000 && withinB hold 0 200000))))) = true then 0 else 4) := rfl
  generalize brE x tap sh lim shrt hold = E at *
  generalize withinB x 1 10000 = q1 at *
  generalize withinB tap 500 1500 = q2 at *
  generalize withinB sh (-1000) 1000 = q3 at *
  generalize withinB lim 0 100000 = q4 at *
  generalize withinB shrt lim 100000 = q5 at *
  generalize withinB hold 0 200000 = q6 at *
  cases q1
  · have HR : Hid (E = 4) := HE.out
    go_enter Try.func82, Try.ntmps82
    go_wp2_with fail
    refine (H1.out _).mono ?_; rintro e w' ⟨rfl, rfl⟩
    go_wp2_with fail
    go_ret
    exact ⟨by rw [HR.out]; rfl, belowA (Below.refl _ w) _⟩
  cases q2
  · have HR : Hid (E = 4) := HE.out
    go_enter Try.func82, Try.ntmps82
    go_wp2_with fail
    refine (H1.out _).mono ?_; rintro e w' ⟨rfl, rfl⟩
    go_wp2_with fail
    refine (H2.out _).mono ?_; rintro e w' ⟨rfl, rfl⟩
    go_wp2_with fail
    go_ret
    exact ⟨by rw [HR.out]; rfl, belowA (Below.refl _ w) _⟩
  cases q3
  · have HR : Hid (E = 4) := HE.out
    go_enter Try.func82, Try.ntmps82
    go_wp2_with fail
    refine (H1.out _).mono ?_; rintro e w' ⟨rfl, rfl⟩
    go_wp2_with fail
    refine (H2.out _).mono ?_; rintro e w' ⟨rfl, rfl⟩
    go_wp2_with fail
    refine (H3.out _).mono ?_; rintro e w' ⟨rfl, rfl⟩
    go_wp2_with fail
    go_ret
    exact ⟨by rw [HR.out]; rfl, belowA (Below.refl _ w) _⟩
  cases q4
  · have HR : Hid (E = 4) := HE.out
    go_enter Try.func82, Try.ntmps82
    go_wp2_with fail
    refine (H1.out _).mono ?_; rintro e w' ⟨rfl, rfl⟩
    go_wp2_with fail
    refine (H2.out _).mono ?_; rintro e w' ⟨rfl, rfl⟩
    go_wp2_with fail
    refine (H3.out _).mono ?_; rintro e w' ⟨rfl, rfl⟩
    go_wp2_with fail
    refine (H4.out _).mono ?_; rintro e w' ⟨rfl, rfl⟩
    go_wp2_with fail
    go_ret
    exact ⟨by rw [HR.out]; rfl, belowA (Below.refl _ w) _⟩
  cases q5
  · have HR : Hid (E = 4) := HE.out
    go_enter Try.func82, Try.ntmps82
    go_wp2_with fail
    refine (H1.out _).mono ?_; rintro e w' ⟨rfl, rfl⟩
    go_wp2_with fail
    refine (H2.out _).mono ?_; rintro e w' ⟨rfl, rfl⟩
    go_wp2_with fail
    refine (H3.out _).mono ?_; rintro e w' ⟨rfl, rfl⟩
    go_wp2_with fail
    refine (H4.out _).mono ?_; rintro e w' ⟨rfl, rfl⟩
    go_wp2_with fail
    refine (H5.out _).mono ?_; rintro e w' ⟨rfl, rfl⟩
    go_wp2_with fail
    go_ret
    exact ⟨by rw [HR.out]; rfl, belowA (Below.refl _ w) _⟩
  cases q6
  · have HR : Hid (E = 4) := HE.out
    go_enter Try.func82, Try.ntmps82
    go_wp2_with fail
    refine (H1.out _).mono ?_; rintro e w' ⟨rfl, rfl⟩
    go_wp2_with fail
    refine (H2.out _).mono ?_; rintro e w' ⟨rfl, rfl⟩
    go_wp2_with fail
    refine (H3.out _).mono ?_; rintro e w' ⟨rfl, rfl⟩
    go_wp2_with fail
    refine (H4.out _).mono ?_; rintro e w' ⟨rfl, rfl⟩
    go_wp2_with fail
    refine (H5.out _).mono ?_; rintro e w' ⟨rfl, rfl⟩
    go_wp2_with fail
    refine (H6.out _).mono ?_; rintro e w' ⟨rfl, rfl⟩
    go_wp2_with fail
    go_ret
    exact ⟨by rw [HR.out]; rfl, belowA (Below.refl _ w) _⟩
  · have HR : Hid (E = 0) := HE.out
    go_enter Try.func82, Try.ntmps82
    go_wp2_with fail
    refine (H1.out _).mono ?_; rintro e w' ⟨rfl, rfl⟩
    go_wp2_with fail
    refine (H2.out _).mono ?_; rintro e w' ⟨rfl, rfl⟩
    go_wp2_with fail
    refine (H3.out _).mono ?_; rintro e w' ⟨rfl, rfl⟩
    go_wp2_with fail
    refine (H4.out _).mono ?_; rintro e w' ⟨rfl, rfl⟩
    go_wp2_with fail
    refine (H5.out _).mono ?_; rintro e w' ⟨rfl, rfl⟩
    go_wp2_with fail
    refine (H6.out _).mono ?_; rintro e w' ⟨rfl, rfl⟩
    go_wp2_with fail
    go_ret
    exact ⟨by rw [HR.out]; rfl, belowA (Below.refl _ w) _⟩
end Go.Proofs.Ytplebibabcdipaa
