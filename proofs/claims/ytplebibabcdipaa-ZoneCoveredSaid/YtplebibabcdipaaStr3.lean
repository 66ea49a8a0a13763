/- netmodel.names.add, netmodel.ends, netmodel.device. -/
import Derived.Test.YtplebibabcdipaaStr2
namespace Go.Proofs.Ytplebibabcdipaa
open Go.RowKit

theorem infoStr : (Try.prog.info? 9).map (fun i => (i.zero, i.size, i.bytes)) = some (some (.string ByteArray.empty), 1, 16) := by kernel_rfl

theorem row_own {W : World} {base : Nat} {e : TypeId} {sz n : Nat} {v : Value} {xs : List Value} (h : W.ownsRow base e sz v n xs) : ∀ j, v.ownBlock = some j → base ≤ j := by
  intro j hj
  rcases h.2 with ⟨rfl, _⟩ | ⟨g, cap, cur, rfl, hg, _⟩
  · cases hj
  · have : g = j := Option.some.inj hj
    omega
theorem row_slice {W : World} {base : Nat} {e : TypeId} {sz n : Nat} {v : Value} {xs : List Value} (h : W.ownsRow base e sz v n xs) : ∃ a c, v = .slice a n c := by
  rcases h.2 with ⟨rfl, rfl⟩ | ⟨g, cap, cur, rfl, _⟩
  · exact ⟨none, 0, rfl⟩
  · exact ⟨_, cap, rfl⟩
theorem row_succ {W : World} {base : Nat} {e : TypeId} {size : Nat} {v : Value} {k : Nat} {xs : List Value} (h : W.ownsRow base e size v (k + 1) xs) : ∃ g cap, v = .slice (some ⟨g, 0, none⟩) (k + 1) cap := by
  rcases h.2 with ⟨_, h0⟩ | ⟨g, cap, _, rfl, _⟩
  · omega
  · exact ⟨g, cap, rfl⟩
theorem row_alloc {W : World} {base : Nat} {e : TypeId} {sz n : Nat} {v : Value} {xs : List Value} (h : W.ownsRow base e sz v n xs) (o : Obj) : (W.alloc o).ownsRow base e sz v n xs :=
  h.kept (World.grownBy_alloc _ _ none) (by
    rcases h.2 with ⟨e, _⟩ | ⟨g, cap, cur, e, _⟩
    · exact .inl (by rw [e]; rfl)
    · exact .inr (fun k => by rw [e] at k; cases k))
theorem row_kept {W W' : World} {base b : Nat} {e : TypeId} {sz n : Nat} {v : Value} {xs : List Value} (h : W.ownsRow base e sz v n xs) (k : W.grownBy W' (some b)) (hb : b < base) : W'.ownsRow base e sz v n xs :=
  h.kept k (by
    rcases h.2 with ⟨rfl, _⟩ | ⟨g, cap, cur, rfl, hg, _⟩
    · exact .inl rfl
    · exact .inr (fun e => by have : g = b := Option.some.inj e; omega))
theorem row_below {W W' : World} {base : Nat} {e : TypeId} {sz n : Nat} {v : Value} {xs : List Value} (h : W.ownsRow base e sz v n xs) (k : Below W.heap.size W W') : W'.ownsRow base e sz v n xs :=
  h.kept (row := none) ⟨k.os, k.tape, k.output, k.size, fun i hi _ => k.block i hi⟩ (by
    rcases h.2 with ⟨e, _⟩ | ⟨g, cap, cur, e, _⟩
    · exact .inl (by rw [e]; rfl)
    · exact .inr (fun k => by rw [e] at k; cases k))

/-- The names that were met, in block b and a row behind it. -/
def NS (b : Nat) (met : List ByteArray) (W : World) : Prop :=
  ∃ lv, Blk W b #[lv] 142 ∧ W.ownsRow (b + 1) 9 1 lv met.length (strs met) ∧ b + 1 ≤ W.heap.size
theorem NS.below {b : Nat} {met : List ByteArray} {W W' : World} (h : NS b met W) (k : Below W.heap.size W W') : NS b met W' := by
  obtain ⟨lv, h1, h2, h3⟩ := h
  exact ⟨lv, below_blk k h1 (by omega), row_below h2 k, Nat.le_trans h3 k.size⟩
/-- What add leaves alone: all but the block of the names and the row's own block. -/
def Frame (b : Nat) (W W' : World) : Prop := ∀ j, j < W.heap.size → j ≠ b → (∀ lv, Blk W b #[lv] 142 → lv.ownBlock ≠ some j) → W'.heap[j]? = W.heap[j]?
theorem Frame.of_below {b : Nat} {W W' : World} (h : Below W.heap.size W W') : Frame b W W' := fun j hj _ _ => h.block j hj
theorem Frame.after {b : Nat} {W w1 w2 : World} (h : Below W.heap.size W w1) (hb : b < W.heap.size) (k : Frame b w1 w2) : Frame b W w2 := fun j hj h1 h2 => by
  rw [k j (Nat.lt_of_lt_of_le hj h.size) h1 (fun lv hl => h2 lv (by unfold Blk at hl ⊢; rw [← h.block b hb]; exact hl)), h.block j hj]
theorem NS.push {b : Nat} {met : List ByteArray} {lv v' : Value} {s : ByteArray} {W w3 : World} (h1 : Blk W b #[lv] 142) (h2 : W.ownsRow (b + 1) 9 1 lv met.length (strs met)) (h3 : b + 1 ≤ W.heap.size)
    (hown : w3.ownsRow (b + 1) 9 1 v' (met.length + 1) (strs met ++ [.string s])) (hgrow : (W.alloc (.cells #[.string s] 9)).grownBy w3 lv.ownBlock) :
    NS b (met ++ [s]) (w3.setCell ⟨b, 0, none⟩ v') ∧ Below b W (w3.setCell ⟨b, 0, none⟩ v') ∧ Frame b W (w3.setCell ⟨b, 0, none⟩ v') := by
  have k1 : Below (b + 1) W w3 := Below.grown ((Below.refl (b + 1) W).alloc h3 _) hgrow (by simp; omega) (row_own h2)
  have k2 : But b w3 (w3.setCell ⟨b, 0, none⟩ v') := (But.refl _ _).set 0 _
  have k3 : Below b W (w3.setCell ⟨b, 0, none⟩ v') := But.below (k1.mono (Nat.le_succ b)) k2 (Nat.le_refl _) (by omega)
  refine ⟨⟨v', ((below_blk k1 h1 (Nat.lt_succ_self b)).set 0 _).congr (by simp), ?_, Nat.le_trans h3 k3.size⟩, k3, ?_⟩
  · have := row_kept hown k2 (Nat.lt_succ_self b)
    simpa [strs] using this
  · intro j hj h5 h6
    have e1 := k2.block j (Nat.lt_of_lt_of_le (by simp; omega) hgrow.size) (fun e => h5 (Option.some.inj e))
    have e2 := hgrow.block j (by simp; omega) (fun e => h6 lv h1 e.symm)
    rw [e1, e2, Below.heap_alloc _ _ _ hj]

/-- What add does. -/
def addR (met : List ByteArray) (s : ByteArray) : Int × List ByteArray :=
  if nameB s = false then (5, met) else if hasS s met = true then (7, met) else (0, met ++ [s])

set_option maxHeartbeats 2000000 in
theorem add_c (b : Nat) (met : List ByteArray) (s : ByteArray) (hs : s.size ≤ 9223372036854775807) (hm : met.length ≤ 1000) (W : World) (h : NS b met W) :
    Calls Try.prog 80 #[.pointer (some ⟨b, 0, none⟩), .string s] W fun e w' => e = .returned (.int .i64 (addR met s).1) ∧ NS b (addR met s).2 w' ∧ Below b W w' ∧ Frame b W w' := by
  have HN := Lib.hid (name_c s W hs)
  have H : Hid (addR met s = if nameB s = false then (5, met) else if hasS s met = true then (7, met) else (0, met ++ [s])) := rfl
  generalize addR met s = R at *
  have HNS := Lib.hid h
  have hbW : b ≤ W.heap.size := by obtain ⟨_, _, _, h⟩ := h; omega
  have hbl : b < W.heap.size := by obtain ⟨_, _, _, h⟩ := h; omega
  cases hn : nameB s
  · have HR := Lib.hid (H.out.trans (if_pos hn))
    rw [hn] at HN
    clear H h
    go_enter Try.func80, Try.ntmps80
    go_wp2_with fail
    refine HN.out.mono ?_; rintro e w1 ⟨rfl, b1⟩
    have B1 := Lib.hid b1
    clear b1
    go_wp2_with fail
    go_ret
    rw [HR.out]
    exact ⟨rfl, HNS.out.below B1.out, B1.out.mono hbW, Frame.of_below B1.out⟩
  rw [hn] at HN
  have H2 := Lib.hid (H.out.trans (if_neg (by rw [hn]; decide)))
  clear H hn h
  obtain ⟨m, hmm⟩ : ∃ m, met.length = m := ⟨_, rfl⟩
  have HM := Lib.hid hmm
  rw [hmm] at hm
  clear hmm
  obtain ⟨i0, hi0, hz0, hz1, hz2⟩ := info_parts infoStr
  cases hh : hasS s met
  · have HR := Lib.hid (H2.out.trans (if_neg (by rw [hh]; decide)))
    have HH := Lib.hid hh
    clear H2 hh
    go_enter Try.func80, Try.ntmps80
    go_wp2_with fail
    refine HN.out.mono ?_; rintro e w1 ⟨rfl, b1⟩
    have hns := HNS.out.below b1
    obtain ⟨lv, l1, l2, l3⟩ := hns
    rw [HM.out] at l2
    obtain ⟨la, lc, rfl⟩ := row_slice l2
    have HC := Lib.hid (contains_c (.slice la m lc) met s w1 (by show Reads _ _ _ _; rw [HM.out]; exact Reads.of_owns l2 (by omega)))
    rw [HH.out] at HC
    have x0 := l1.cell 0 rfl
    have B1 := Lib.hid b1
    have L1 := Lib.hid l1
    have L2 := Lib.hid l2
    have L3 := Lib.hid l3
    have HL : Hid ((w1.alloc (.cells #[.string s] 9)).ownsRow (b + 1) 9 1 (.slice la m lc) m (strs met)) := row_alloc l2 _
    have lb := l1.lt
    clear b1 l1 l2 HNS
    go_wp2_with fail
    refine HC.out.mono ?_; rintro e w2 ⟨rfl, rfl⟩
    clear HC
    go_wp2_with (at_builtin; refine wpList_append_own _ rfl _ _ 22 rfl (b + 1) 9 i0 (.string ByteArray.empty) 1 16 Try.underlying22 hi0 hz0 hz1 hz2 rfl (by decide) _ m (strs met) rfl HL.out ⟨w1.heap.size, 0, none⟩ 1 1 [.string s] rfl rfl (cell_one_new _ _ _) (strs_one [s]) (by unfold maxLen; omega) (by omega) (by simp; omega) ?_; intro v' w3 hown' hgrow3 hnil3; obtain ⟨g3, cap3, rfl⟩ := row_succ hown'; have z1 : Blk w3 b #[.slice la m lc] 142 := below_blk (Below.grown ((Below.refl (b + 1) w1).alloc L3.out _) hgrow3 (by simp; omega) (row_own L2.out)) L1.out (Nat.lt_succ_self b); have z0 := z1.cell 0 rfl; have zf := z1.free 0; have HOW := Lib.hid hown'; have HGR := Lib.hid hgrow3; clear hown' hgrow3 hnil3 x0 z1)
    go_ret
    rw [HR.out]
    have hp := NS.push L1.out (by rw [HM.out]; exact L2.out) L3.out (by rw [HM.out]; exact HOW.out) HGR.out
    exact ⟨rfl, hp.1, (B1.out.mono hbW).trans hp.2.1, Frame.after B1.out hbl hp.2.2⟩
  · have HR := Lib.hid (H2.out.trans (if_pos hh))
    have HH := Lib.hid hh
    clear H2 hh
    go_enter Try.func80, Try.ntmps80
    go_wp2_with fail
    refine HN.out.mono ?_; rintro e w1 ⟨rfl, b1⟩
    have hns := HNS.out.below b1
    have HNS1 := Lib.hid hns
    obtain ⟨lv, l1, l2, l3⟩ := hns
    rw [HM.out] at l2
    obtain ⟨la, lc, rfl⟩ := row_slice l2
    have HC := Lib.hid (contains_c (.slice la m lc) met s w1 (by show Reads _ _ _ _; rw [HM.out]; exact Reads.of_owns l2 (by omega)))
    rw [HH.out] at HC
    have x0 := l1.cell 0 rfl
    have B1 := Lib.hid b1
    clear b1 l1 l2 HNS
    go_wp2_with fail
    refine HC.out.mono ?_; rintro e w2 ⟨rfl, rfl⟩
    go_wp2_with fail
    go_ret
    rw [HR.out]
    exact ⟨rfl, HNS1.out, B1.out.mono hbW, Frame.of_below B1.out⟩
end Go.Proofs.Ytplebibabcdipaa
