/- slices.Clone at []int; reclose.New. -/
import Derived.Test.YtjkgkoedkphnjaaRec3
import Derived.Lib.SliceRun
namespace Go.Proofs.Ytjkgkoedkphnjaa
open Go.RowKit

set_option maxHeartbeats 1000000 in
theorem clone_c (g off cap : Nat) (l : List Int) (w : World) (hg : g < w.heap.size) (hn : l.length ≤ 1000) (hc : ∀ j u, (ints l)[j]? = some u → w.cell? ⟨g, off + j, none⟩ = some u) :
    Calls Try.prog 48 #[.slice (some ⟨g, off, none⟩) l.length cap] w fun e w' => ∃ v, e = .returned v ∧ w'.ownsRow w.heap.size 3 1 v l.length (ints l) ∧ Below w.heap.size w w' := by
  have qn : ∀ (w : World) (n c : Nat), (binOp .eql 39 (.slice (some ⟨g, off, none⟩) n c) (.slice none 0 0)).run Try.prog w = .ok (.bool false) w := fun w n c => Lib.run_eql_slice_nil w 39 3 (some ⟨g, off, none⟩) n c 0 0 Try.underlying39
  obtain ⟨n, hN⟩ : ∃ n, l.length = n := ⟨_, rfl⟩
  have HN := Lib.hid hN
  have HC := Lib.hid hc
  obtain ⟨i0, hi, hz0, hz1, hz2⟩ := info_parts infoInt
  rw [hN] at hn ⊢
  clear hN hc
  go_enter Try.func48, Try.ntmps48
  go_wp2_with (first | (rw [qn]) | (at_builtin; refine wpList_append_own _ rfl _ _ 39 rfl w.heap.size 3 i0 (.int .i64 0) 1 8 Try.underlying39 hi hz0 hz1 hz2 rfl (by decide) _ 0 [] rfl (owns_lit (Blk.new _ _ _) (Nat.le_refl _) 1 0 rfl (by decide)) ⟨g, off, none⟩ n cap (ints l) rfl (by unfold ints; simp; exact HN.out) (cells_add (fun j u hj => by rw [(belowA (Below.refl _ w) _).cell (by exact hg)]; exact HC.out j u hj)) (ints_one l) (by unfold maxLen; omega) (by omega) (by simp) ?_; intro v' w3 hown' hgrow3 hnil3))
  go_ret
  refine ⟨_, rfl, by simpa using hown', Below.grown (belowA (Below.refl _ w) _) hgrow3 (by simp) (fun j hj => by have : w.heap.size = j := Option.some.inj hj; omega)⟩

theorem recE_ok {l : List Int} {rc : Int} (h : recE l rc = 0) : 1 ≤ l.length ∧ l.length ≤ 4 ∧ 1 ≤ rc ∧ rc ≤ 600000 ∧ ∀ k, k < l.length → 1 ≤ l.getD k 0 ∧ l.getD k 0 ≤ 600000 := by
  unfold recE at h
  by_cases h4 : 4 < l.length
  · rw [if_pos h4] at h; cases h
  rw [if_neg h4] at h
  by_cases h0 : l.length = 0
  · rw [if_pos h0] at h; cases h
  rw [if_neg h0] at h
  by_cases hr : (rc :: l).any outR = true
  · rw [if_pos hr] at h; cases h
  have hr' : ∀ x ∈ rc :: l, outR x = false := by
    intro x hx
    cases hq : outR x
    · rfl
    · exact absurd (List.any_eq_true.2 ⟨x, hx, hq⟩) hr
  have key : ∀ x, outR x = false → 1 ≤ x ∧ x ≤ 600000 := by
    intro x hx; unfold outR at hx; simp at hx; omega
  have k0 := key rc (hr' rc (List.mem_cons_self ..))
  refine ⟨by omega, by omega, k0.1, k0.2, fun k hk => key _ (hr' _ ?_)⟩
  have : l.getD k 0 = l[k] := by simp [hk]
  rw [this]
  exact List.mem_cons_of_mem _ (List.getElem_mem hk)

set_option maxHeartbeats 1000000 in
theorem rnew_bad (v : Value) (l : List Int) (rc : Int) (w : World) (hv : IVal w v l) (h : recE l rc ≠ 0) :
    Calls Try.prog 28 #[.agg #[v, .int .i64 rc]] w fun e w' => e = .returned (.tuple #[.pointer none, .int .i64 (recE l rc)]) ∧ Below w.heap.size w w' := by
  obtain ⟨a, cap, rfl⟩ := hv.slice
  have HC : Hid _ := Lib.hid (fun W (h : Reads W (.slice a l.length cap) l.length (ints l)) => recCheck_c _ l rc W h)
  have HV := Lib.hid hv
  have g0 : (recE l rc != 0) = true := by simpa using h
  generalize recE l rc = E at *
  clear hv h
  go_enter Try.func28, Try.ntmps28
  go_wp2_with fail
  refine (HC.out _ (HV.out.below (belowA (Below.refl _ w) _))).mono ?_; rintro e w1 ⟨rfl, hb1⟩
  have HB := Lib.hid (belowT (belowA (Below.refl _ w) _) hb1)
  clear hb1
  go_wp2_with fail
  go_ret2
  exact ⟨rfl, HB.out⟩

def RS.fresh (rc : Int) : RS := ⟨rc, 0, 0, 0, 0⟩
theorem RS.fresh_ok {l : List Int} {rc : Int} (h : recE l rc = 0) : (RS.fresh rc).Ok l := by
  obtain ⟨h1, h2, h3, h4, h5⟩ := recE_ok h
  exact ⟨h3, h4, by show _ ≤ (0 : Int); decide, Nat.zero_le _, h2, h5⟩
theorem rnew_post {w w1 : World} {v : Value} {l : List Int} {rc : Int} (h : recE l rc = 0) (ho : w1.ownsRow w.heap.size 3 1 v l.length (ints l)) {c : Array Value} (hc : c = (RS.fresh rc).arr v) :
    RDev (w1.heap.size + 1) w1.heap.size l (RS.fresh rc) (w1.alloc (.cells c 76)) := by
  obtain ⟨h1, h2, h3, h4, h5⟩ := recE_ok h
  have hr := Reads.of_owns ho (by omega)
  obtain ⟨g, off, cap, e1, e2, e3, e4, e5⟩ := hr.addr h1
  subst e1
  exact ⟨g, off, cap, (Blk.new w1 c _).congr hc, by omega, by omega, by omega, by simp, e2, fun j u hj => by rw [(belowA (Below.refl _ w1) _).cell (by exact e4)]; exact e5 j u hj, RS.fresh_ok h⟩

set_option maxHeartbeats 1000000 in
theorem rnew_ok (v : Value) (l : List Int) (rc : Int) (w : World) (hv : IVal w v l) (h : recE l rc = 0) :
    Calls Try.prog 28 #[.agg #[v, .int .i64 rc]] w fun e w' => ∃ b, e = .returned (.tuple #[.pointer (some ⟨b, 0, none⟩), .int .i64 0]) ∧ w.heap.size ≤ b ∧ RDev w'.heap.size b l (RS.fresh rc) w' ∧ Below w.heap.size w w' := by
  obtain ⟨h1, h2, h3, h4, h5⟩ := recE_ok h
  obtain ⟨g, off, cap, rfl, e2, e3, e4, e5⟩ := hv.addr h1
  have HC : Hid _ := Lib.hid (fun W (h : Reads W (.slice (some ⟨g, off, none⟩) l.length cap) l.length (ints l)) => recCheck_c _ l rc W h)
  obtain ⟨n, hN⟩ : ∃ n, l.length = n := ⟨_, rfl⟩
  have HV : Hid (Reads w (.slice (some ⟨g, off, none⟩) n cap) n (ints l)) := by show Reads _ _ _ _; rw [← hN]; exact hv
  have HE5 := Lib.hid e5
  have HPost : Hid _ := Lib.hid (fun (w w1 : World) (v : Value) => rnew_post (w := w) (w1 := w1) (v := v) h)
  have HCl : Hid _ := Lib.hid (fun W (hg : g < W.heap.size) hc => clone_c g off cap l W hg (by omega) hc)
  rw [h] at HC
  clear hv h e5 h5
  have HN := Lib.hid hN
  rw [hN] at HC HCl e2
  rw [hN]
  clear hN
  go_enter Try.func28, Try.ntmps28
  go_wp2_with fail
  refine (HC.out _ (HV.out.below (belowA (Below.refl _ w) _))).mono ?_; rintro e w1 ⟨rfl, hb1⟩
  have b1 := Blk.new w #[.slice (some ⟨g, off, none⟩) n cap, .int .i64 rc] 41
  have b2 := below_blk hb1 b1 (by simp)
  have x0 : w1.cell? ⟨w.heap.size, 0, none⟩ = some (.slice (some ⟨g, off, none⟩) n cap) := b2.cell 0 rfl
  have x1 : w1.cell? ⟨w.heap.size, 1, none⟩ = some (.int .i64 rc) := b2.cell 1 rfl
  have l1 := b2.lt
  have HB := Lib.hid (belowT (belowA (Below.refl _ w) _) hb1)
  have g1 : g < w1.heap.size := by omega
  have HE6 : Hid (∀ (j : Nat) (u : Value), (ints l)[j]? = some u → w1.cell? ⟨g, off + j, none⟩ = some u) := fun j u hj => by rw [HB.out.cell (by exact e4)]; exact HE5.out j u hj
  clear hb1 b1 b2
  go_wp2_with fail
  have HX : Hid (∀ w2, Below w1.drew.heap.size w1.drew w2 → w2.cell? ⟨w.heap.size, 1, none⟩ = some (.int .i64 rc)) := fun w2 hb2 => (hb2.cell (p := ⟨w.heap.size, 1, none⟩) (by exact l1)).trans x1
  have HC2 : Hid (Calls Try.prog 48 #[.slice (some ⟨g, off, none⟩) n cap] w1.drew fun e w' => ∃ a c, e = .returned (.slice a n c) ∧ w'.ownsRow w1.drew.heap.size 3 1 (.slice a n c) n (ints l) ∧ Below w1.drew.heap.size w1.drew w') :=
    (HCl.out w1.drew g1 HE6.out).mono (by rintro e w2 ⟨v, rfl, ho, hb2⟩; obtain ⟨a, c, rfl⟩ := (Reads.of_owns ho (by have := HN.out; omega)).slice; exact ⟨a, c, rfl, ho, hb2⟩)
  go_region_with (go_at_call 48; refine HC2.out.mono ?_; rintro e w2 ⟨a2, cap2, rfl, ho, hb2⟩; have y1 := HX.out w2 hb2; have HO2 := Lib.hid ho; have HB2 := Lib.hid hb2; clear ho hb2)
  all_goals
    go_wp2_with fail
    go_ret2
    refine ⟨w2.heap.size, rfl, Nat.le_trans HB.out.size HB2.out.size, ?_, belowA (belowT (w := w1.drew) ⟨HB.out.os, HB.out.tape, HB.out.output, HB.out.size, HB.out.block⟩ HB2.out) _⟩
    rw [World.size_alloc]
    exact HPost.out _ _ _ (by rw [HN.out]; exact HO2.out) rfl
end Go.Proofs.Ytjkgkoedkphnjaa
