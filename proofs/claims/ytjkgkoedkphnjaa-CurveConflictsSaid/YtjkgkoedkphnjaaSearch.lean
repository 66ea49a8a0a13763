/- sort.Search: a contract for whatever function value that answers by P and draws at most. -/
import Derived.Test.YtjkgkoedkphnjaaWld
import Derived.Shelf.Abstract
namespace Go.Proofs.Ytjkgkoedkphnjaa
open Go.RowKit

/-- Where Search ends: the bisection itself. -/
def bis (P : Int → Bool) : Nat → Int → Int → Int
  | 0, i, _ => i
  | d + 1, i, j => if i < j then (if P ((i + j) / 2) then bis P d i ((i + j) / 2) else bis P d ((i + j) / 2 + 1) j) else i

set_option maxHeartbeats 400000 in
theorem search_c (n : Int) (n0 : 0 ≤ n) (n1 : n ≤ 4611686018427387904) (P : Int → Bool) (g : FuncId) (caps : Array Value) (w : World)
    (eg : ∀ (args : Array Value) (w : World), (callFunc g args).run Try.prog w = .ok (.enter g args) w)
    (hf : Hid (∀ (k : Int) (W : World), 0 ≤ k → k < n → Below w.heap.size w W → Calls Try.prog g (#[.int .i64 k] ++ caps) W fun e w' => e = .returned (.bool (P k)) ∧ Below w.heap.size w w')) :
    Calls Try.prog 53 #[.int .i64 n, .func (.func g) #[] caps] w fun e w' => e = .returned (.int .i64 (bis P n.toNat 0 n)) ∧ Below w.heap.size w w' := by
  go_enter Try.func53, Try.ntmps53
  go_wp2
  go_loopg [5, 6] n.toNat (fun d i j wr => ∃ a b : Int, i = .int .i64 a ∧ j = .int .i64 b ∧ 0 ≤ a ∧ a ≤ b ∧ b ≤ n ∧ (b - a).toNat ≤ d ∧ Hid (bis P d a b = bis P n.toNat 0 n) ∧ Hid (Below w.heap.size w wr))
  case atStart => exact ⟨0, n, rfl, rfl, by omega, n0, by omega, by omega, rfl, Below.refl _ _⟩
  case round =>
    obtain ⟨a, b, rfl, rfl, a0, ab, bn, hd, hr, hB⟩ := hrel
    by_cases hlt : a < b
    · have h1 : a ≤ (a + b) / 2 := by omega
      have h2 : (a + b) / 2 < b := by omega
      go_wp2_with fail
      refine (hf.out ((a + b) / 2) _ (by omega) (by omega) hB.out).mono ?_; rintro e w' ⟨rfl, hb'⟩
      have HB' := Lib.hid hb'
      clear hb' hB
      cases hp : P ((a + b) / 2)
      · obtain ⟨d, hd'⟩ : ∃ d, gk = d + 1 := ⟨gk - 1, by omega⟩
        have HD := Lib.hid hd'
        have HP := Lib.hid hp
        clear hd' hp
        go_wp2_with fail
        go_roundg d
        case measure => have := HD.out; omega
        case rel =>
          refine ⟨_, _, rfl, rfl, by omega, by omega, by omega, by have := HD.out; omega, ?_, HB'⟩
          show _ = _
          rw [← hr.out, HD.out]
          conv => rhs; unfold bis
          rw [if_pos hlt, HP.out]; rfl
      · obtain ⟨d, hd'⟩ : ∃ d, gk = d + 1 := ⟨gk - 1, by omega⟩
        have HD := Lib.hid hd'
        have HP := Lib.hid hp
        clear hd' hp
        go_wp2_with fail
        go_roundg d
        case measure => have := HD.out; omega
        case rel =>
          refine ⟨_, _, rfl, rfl, by omega, by omega, by omega, by have := HD.out; omega, ?_, HB'⟩
          show _ = _
          rw [← hr.out, HD.out]
          conv => rhs; unfold bis
          rw [if_pos hlt, HP.out]; rfl
    · have HR : Hid (a = bis P n.toNat 0 n) := by
        show _ = _; rw [← hr.out]; cases gk <;> unfold bis
        · rfl
        · rw [if_neg hlt]
      clear hr
      go_wp2_with fail
      go_ret
      exact ⟨by rw [← HR.out]; rfl, hB.out⟩

/-- What the bisection finds for a predicate that once true stays true. -/
theorem bis_spec (P : Int → Bool) : ∀ (d : Nat) (i j : Int), i ≤ j → (j - i).toNat ≤ d → (∀ x y, i ≤ x → x ≤ y → y < j → P x = true → P y = true) →
    i ≤ bis P d i j ∧ bis P d i j ≤ j ∧ (∀ x, i ≤ x → x < bis P d i j → P x = false) ∧ (bis P d i j < j → P (bis P d i j) = true) := by
  intro d
  induction d with
  | zero => intro i j h1 h2 _; unfold bis; exact ⟨Int.le_refl _, h1, fun x h3 h4 => by omega, fun h => by omega⟩
  | succ d ih =>
    intro i j h1 h2 mono
    unfold bis
    by_cases hlt : i < j
    · rw [if_pos hlt]
      cases hp : P ((i + j) / 2)
      · obtain ⟨a, b, c, e⟩ := ih ((i + j) / 2 + 1) j (by omega) (by omega) (fun x y k1 k2 k3 k4 => mono x y (by omega) k2 k3 k4)
        simp only [Bool.false_eq_true, if_false]
        refine ⟨by omega, b, fun x k1 k2 => ?_, e⟩
        by_cases k3 : x ≤ (i + j) / 2
        · cases hx : P x
          · rfl
          · have := mono x _ k1 k3 (by omega) hx; rw [hp] at this; cases this
        · exact c x (by omega) k2
      · obtain ⟨a, b, c, e⟩ := ih i ((i + j) / 2) (by omega) (by omega) (fun x y k1 k2 k3 k4 => mono x y k1 k2 (by omega) k4)
        simp only [if_true]
        refine ⟨a, by omega, c, fun k => ?_⟩
        by_cases k3 : bis P d i ((i + j) / 2) < (i + j) / 2
        · exact e k3
        · rw [show bis P d i ((i + j) / 2) = (i + j) / 2 from by omega]; exact hp
    · rw [if_neg hlt]
      exact ⟨Int.le_refl _, h1, fun x h3 h4 => by omega, fun h => by omega⟩
end Go.Proofs.Ytjkgkoedkphnjaa
