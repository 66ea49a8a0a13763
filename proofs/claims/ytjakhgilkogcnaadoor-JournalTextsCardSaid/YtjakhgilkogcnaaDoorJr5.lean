/- journal: slices.Clone at []Event. -/
import Derived.Test.YtjakhgilkogcnaaDoorJr2
import Derived.Lib.SliceRun
namespace Go.Proofs.YtjakhgilkogcnaaDoor
open Go.RowKit

theorem ev_one (l : List Ev) : ∀ u ∈ flat Ev.cells l, u.oneCell' = true := by
  intro u hu
  unfold flat at hu
  obtain ⟨x, _, hx⟩ := List.mem_flatMap.1 hu
  unfold Ev.cells at hx
  simp only [List.mem_cons, List.not_mem_nil, or_false] at hx
  rcases hx with rfl | rfl | rfl | rfl <;> rfl
theorem infoEv : (Tryd.prog.info? 31).map (fun i => (i.zero, i.size, i.bytes)) = some (some (.agg #[.int .i64 0, .string ByteArray.empty, .string ByteArray.empty, .int .i64 0]), 4, 48) := by kernel_rfl
set_option maxHeartbeats 1000000 in
theorem cloneE_c (v : Value) (l : List Ev) (w : World) (hv : EVal w v l) (hn : l.length ≤ 256) :
    Calls Tryd.prog 17 #[v] w fun e w' => ∃ u, e = .returned u ∧ (0 < l.length → w'.ownsRow w.heap.size 31 4 u l.length (flat Ev.cells l)) ∧ (∃ a c, u = .slice a l.length c) ∧ Below w.heap.size w w' := by
  have hr : Reads w v l.length (flat Ev.cells l) := hv
  clear hv
  obtain ⟨n, hN⟩ : ∃ n, l.length = n := ⟨_, rfl⟩
  have hfl : (flat Ev.cells l).length = n * 4 := by rw [flat_len (sz := 4) (fun _ => rfl), hN]
  rw [hN] at hr hn ⊢
  clear hN
  have h1c := ev_one l
  generalize flat Ev.cells l = cs at *
  rcases hr with ⟨rfl, rfl, a, cap, rfl⟩ | ⟨b, off, cap, rfl, h1, h2, h3, h4⟩
  · cases a with
    | none =>
      have qn : ∀ (w : World) (n c : Nat), (binOp .eql 22 (.slice none n c) (.slice none 0 0)).run Tryd.prog w = .ok (.bool true) w := fun w n c => Lib.run_eql_slice_nil w 22 31 none n c 0 0 Tryd.underlying22
      go_enter Tryd.func17, Tryd.ntmps17
      go_wp2_with (rw [qn])
      go_ret
      exact ⟨_, rfl, fun h => absurd h (Nat.lt_irrefl _), ⟨_, _, rfl⟩, Below.refl _ _⟩
    | some ad =>
      have qn : ∀ (w : World) (n c : Nat), (binOp .eql 22 (.slice (some ad) n c) (.slice none 0 0)).run Tryd.prog w = .ok (.bool false) w := fun w n c => Lib.run_eql_slice_nil w 22 31 (some ad) n c 0 0 Tryd.underlying22
      obtain ⟨i0, hi, hz0, hz1, hz2⟩ := info_parts infoEv
      go_enter Tryd.func17, Tryd.ntmps17
      go_wp2_with (first | (rw [qn]) | (at_builtin; refine wpList_append_own _ rfl _ _ 22 rfl w.heap.size 31 i0 _ 4 48 Tryd.underlying22 hi hz0 hz1 hz2 rfl (by decide) _ 0 [] rfl (owns_lit (Blk.new _ _ _) (Nat.le_refl _) 4 0 rfl (by decide)) ad 0 cap [] rfl rfl (fun j u hj => by simp at hj) (fun u hu => by cases hu) (by unfold maxLen; omega) (by omega) (by simp) ?_; intro v' w3 hown' hgrow3 hnil3))
      go_ret
      obtain ⟨a3, c3, rfl⟩ := row_slice hown'
      exact ⟨_, rfl, ⟨_, _, rfl⟩, Below.grown (belowA (Below.refl _ w) _) hgrow3 (by simp) (fun j hj => by have : w.heap.size = j := Option.some.inj hj; omega)⟩
  · have qn : ∀ (w : World) (n c : Nat), (binOp .eql 22 (.slice (some ⟨b, off, none⟩) n c) (.slice none 0 0)).run Tryd.prog w = .ok (.bool false) w := fun w n c => Lib.run_eql_slice_nil w 22 31 (some ⟨b, off, none⟩) n c 0 0 Tryd.underlying22
    have HC := Lib.hid h4
    have HF := Lib.hid hfl
    have H1 := Lib.hid h1c
    obtain ⟨i0, hi, hz0, hz1, hz2⟩ := info_parts infoEv
    clear h4 hfl h1c
    go_enter Tryd.func17, Tryd.ntmps17
    go_wp2_with (first | (rw [qn]) | (at_builtin; refine wpList_append_own _ rfl _ _ 22 rfl w.heap.size 31 i0 _ 4 48 Tryd.underlying22 hi hz0 hz1 hz2 rfl (by decide) _ 0 [] rfl (owns_lit (Blk.new _ _ _) (Nat.le_refl _) 4 0 rfl (by decide)) ⟨b, off, none⟩ n cap cs rfl HF.out (cells_add (fun j u hj => by rw [(belowA (Below.refl _ w) _).cell (by exact h3)]; exact HC.out j u hj)) H1.out (by unfold maxLen; omega) (by omega) (by simp) ?_; intro v' w3 hown' hgrow3 hnil3))
    go_ret
    obtain ⟨a3, c3, rfl⟩ := row_slice hown'
    refine ⟨_, rfl, fun _ => ?_, ⟨a3, c3, by simp⟩, Below.grown (belowA (Below.refl _ w) _) hgrow3 (by simp) (fun j hj => by have : w.heap.size = j := Option.some.inj hj; omega)⟩
    simpa using hown'
end Go.Proofs.YtjakhgilkogcnaaDoor
