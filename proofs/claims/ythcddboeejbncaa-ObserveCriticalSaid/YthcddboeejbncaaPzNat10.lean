/- nat.Gcd. -/
import Derived.Test.YthcddboeejbncaaPzNat9
namespace Go.Proofs.Ythcddboeejbncaa
open Go.RowKit

theorem NV.uniq {W : World} {v : Value} {x y : Nat} (h : NV W v x) (k : NV W v y) : x = y := by
  apply dg_inj
  have hl : ln x = ln y := by
    obtain ⟨a, c, rfl⟩ := h.slice
    obtain ⟨a', c', e⟩ := k.slice
    injection e
  apply List.ext_getElem hl
  intro i h1 h2
  obtain ⟨g, o, c, e1, _, x1⟩ := h.at rfl (j := i) h1
  obtain ⟨g', o', c', e2, _, x2⟩ := k.at rfl (j := i) h2
  rw [e1] at e2
  injection e2 with e3
  injection e3 with e3
  injection e3 with e4 e5
  subst e4; subst e5
  rw [x1] at x2
  rw [List.getD_eq_getElem?_getD, List.getElem?_eq_getElem h1, List.getD_eq_getElem?_getD, List.getElem?_eq_getElem h2] at x2
  injection x2 with x2
  injection x2
open Classical in
noncomputable def natAt (W : World) (v : Value) : Nat := if h : ∃ n, NV W v n then Classical.choose h else 0
theorem NV.natAt {W : World} {v : Value} {n : Nat} (h : NV W v n) : natAt W v = n := by
  unfold Go.Proofs.Ythcddboeejbncaa.natAt
  rw [dif_pos ⟨n, h⟩]
  exact NV.uniq (Classical.choose_spec (⟨n, h⟩ : ∃ n, NV W v n)) h
set_option maxHeartbeats 1000000 in
theorem ngcd_c (va vb : Value) (a b : Nat) (w : World) (ha : NV w va a) (hb : NV w vb b) (sa : ln a ≤ 10000000000000) (sb : ln b ≤ 10000000000000) :
    Calls Try.prog 76 #[va, vb] w fun e w' => (∃ v, e = .returned v ∧ NV w' v (Nat.gcd a b)) ∧ Below w.heap.size w w' := by
  go_enter Try.func76, Try.ntmps76
  go_wp2_with fail
  go_loopw [0, 1] (fun va vb wr => ∃ x y : Nat, Hid (NV wr va x) ∧ Hid (NV wr vb y) ∧ ln x ≤ 10000000000000 ∧ ln y ≤ 10000000000000 ∧ Hid (Nat.gcd x y = Nat.gcd a b) ∧ Hid (Below w.heap.size w wr)) (fun _ vb wr => natAt wr vb)
  case atStart => exact ⟨a, b, ha, hb, sa, sb, rfl, Below.refl _ _⟩
  case round =>
    clear ha hb sa sb
    obtain ⟨x, y, hx, hy, hlx, hly, hg, hb⟩ := hrel
    obtain ⟨ax, cx, rfl⟩ := hx.out.slice
    obtain ⟨ay, cy, rfl⟩ := hy.out.slice
    rcases Nat.eq_zero_or_pos y with h0 | h0
    · have HG : Hid (x = Nat.gcd a b) := by show _ = _; rw [← hg.out, h0, Nat.gcd_zero_right]
      have hz : ln y = 0 := by rw [h0]; exact ln_zero
      have hz' : decide (0 < ln y) = false := decide_eq_false (by omega)
      have hn : ln y ≤ 0 := by omega
      clear hz hg hy h0
      go_wp2_with fail
      go_ret
      exact ⟨⟨_, rfl, by rw [← HG.out]; exact hx.out⟩, hb.out⟩
    · have hz := ln_pos h0
      have HD := Lib.hid (ndiv_c _ _ x y wr hx.out hy.out hlx h0)
      go_wp2_with fail
      refine HD.out.mono ?_; rintro e w2 ⟨⟨v1, v2, rfl, hn1, hn2⟩, hb2⟩
      have HY2 := Lib.hid (hy.out.below hb2)
      have HN2 := Lib.hid hn2
      have HB2 := Lib.hid (hb.out.trans (hb2.mono hb.out.size))
      have hm : x % y < y := Nat.mod_lt _ h0
      have hlm : ln (x % y) ≤ 10000000000000 := by have := ln_mono (Nat.le_of_lt hm); omega
      have HG : Hid (Nat.gcd y (x % y) = Nat.gcd a b) := by show _ = _; rw [← hg.out, Nat.gcd_comm x y]; exact (Nat.gcd_rec y x).symm ▸ (by rw [Nat.gcd_comm])
      have HNY := Lib.hid hy.out.natAt
      have HNM := Lib.hid hn2.natAt
      clear hn1 hn2 hb2 hb hg HD
      go_wp2_with fail
      go_roundw
      case rel => exact ⟨y, x % y, HY2, HN2, hly, hlm, HG, HB2⟩
      case measure => rw [HNM.out, HNY.out]; exact hm
end Go.Proofs.Ythcddboeejbncaa
