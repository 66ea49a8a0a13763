/- Lists of rationals in memory; matrix: Row, Out. -/
import Derived.Test.YtkpalfgnfhphjaaDoorBal1
import Derived.Test.YtkpalfgnfhphjaaDoorNetR
namespace Go.Proofs.YtkpalfgnfhphjaaDoor
open Go.RowKit

/-- The cells of a number. -/
structure QEl where
  g : Bool
  na : Option Addr
  n : Nat
  nc : Nat
  da : Option Addr
  dl : Nat
  dc : Nat
def QEl.cells (c : QEl) : List Value := [.bool c.g, .slice c.na c.n c.nc, .slice c.da c.dl c.dc]
/-- Numbers in cells. -/
def QL (W : World) (cs : List QEl) (qs : List Rat) : Prop :=
  cs.length = qs.length ∧ ∀ (k : Nat) (c : QEl) (q : Rat), cs[k]? = some c → qs[k]? = some q → QC W c.g (.slice c.na c.n c.nc) (.slice c.da c.dl c.dc) q
theorem QL.below {W W' : World} {cs : List QEl} {qs : List Rat} (h : QL W cs qs) (k : Below W.heap.size W W') : QL W' cs qs :=
  ⟨h.1, fun i c q hc hq => (h.2 i c q hc hq).below k⟩
theorem QL.keepT {W W' : World} {cs : List QEl} {qs : List Rat} {b : Nat} {cur : Array Value} {T : TypeId} (h : QL W cs qs) (k : Blk W b cur T) (hT : T ≠ 114) (hb : But b W W') : QL W' cs qs :=
  ⟨h.1, fun i c q hc hq => (h.2 i c q hc hq).keepT k hT hb⟩
theorem QL.snoc {W : World} {cs : List QEl} {qs : List Rat} {c : QEl} {q : Rat} (h : QL W cs qs) (hq : QC W c.g (.slice c.na c.n c.nc) (.slice c.da c.dl c.dc) q) : QL W (cs ++ [c]) (qs ++ [q]) := by
  refine ⟨by simp [h.1], fun k d p hd hp => ?_⟩
  by_cases hk : k < cs.length
  · rw [List.getElem?_append_left hk] at hd
    rw [List.getElem?_append_left (by rw [← h.1]; exact hk)] at hp
    exact h.2 k d p hd hp
  · have hl := (List.getElem?_eq_some_iff.1 hd).1
    simp at hl
    obtain rfl : k = cs.length := by omega
    rw [List.getElem?_append_right (Nat.le_refl _), Nat.sub_self] at hd
    rw [h.1, List.getElem?_append_right (Nat.le_refl _), Nat.sub_self] at hp
    simp at hd hp
    subst hd; subst hp
    exact hq
/-- A list of numbers that may be read. -/
def QsV (W : World) (v : Value) (qs : List Rat) : Prop := ∃ cs, Reads W v qs.length (flat QEl.cells cs) ∧ QL W cs qs
theorem QsV.below {W W' : World} {v : Value} {qs : List Rat} (h : QsV W v qs) (k : Below W.heap.size W W') : QsV W' v qs := by
  obtain ⟨cs, h1, h2⟩ := h
  exact ⟨cs, h1.below k, h2.below k⟩
/-- An element of a list. -/
theorem QsV.at {W : World} {v : Value} {qs : List Rat} (h : QsV W v qs) {k : Nat} {q : Rat} (hq : qs[k]? = some q) : ∃ (b off cap : Nat) (c : QEl), v = .slice (some ⟨b, off, none⟩) qs.length cap ∧ b < W.heap.size ∧
    W.cell? ⟨b, off + k * 3, none⟩ = some (.bool c.g) ∧ W.cell? ⟨b, off + k * 3 + 1, none⟩ = some (.slice c.na c.n c.nc) ∧ W.cell? ⟨b, off + k * 3 + 2, none⟩ = some (.slice c.da c.dl c.dc) ∧ QC W c.g (.slice c.na c.n c.nc) (.slice c.da c.dl c.dc) q := by
  obtain ⟨cs, h1, h2⟩ := h
  obtain ⟨hk, _⟩ := List.getElem?_eq_some_iff.1 hq
  obtain ⟨b, off, cap, hv, _, _, hb, hc⟩ := h1.addr (by omega)
  obtain ⟨c, hcc⟩ : ∃ c, cs[k]? = some c := ⟨_, List.getElem?_eq_getElem (by rw [h2.1]; exact hk)⟩
  have e : ∀ j u, j < 3 → (QEl.cells c)[j]? = some u → W.cell? ⟨b, off + (k * 3 + j), none⟩ = some u := fun j u hj hu => hc _ u (by rw [flat_get (sz := 3) (f := QEl.cells) (fun _ => rfl) cs k j c hcc hj]; exact hu)
  refine ⟨b, off, cap, c, hv, hb, e 0 _ (by decide) rfl, ?_, ?_, h2.2 k c q hcc hq⟩
  · rw [Nat.add_assoc]; exact e 1 _ (by decide) rfl
  · rw [Nat.add_assoc]; exact e 2 _ (by decide) rfl
/-- An own list of numbers. -/
def QO (base : Nat) (W : World) (v : Value) (qs : List Rat) : Prop := ∃ cs, W.ownsRow base 65 3 v qs.length (flat QEl.cells cs) ∧ QL W cs qs
theorem QO.nil (base : Nat) (W : World) : QO base W (.slice none 0 0) [] := ⟨[], ⟨rfl, Or.inl ⟨rfl, rfl⟩⟩, rfl, fun k c q h _ => by simp at h⟩
theorem QO.slice {base : Nat} {W : World} {v : Value} {qs : List Rat} (h : QO base W v qs) : ∃ a c, v = .slice a qs.length c := by
  obtain ⟨cs, h1, _⟩ := h
  exact row_slice h1
theorem ownsRow_below {base size n : Nat} {e : TypeId} {w w' : World} {v : Value} {xs : List Value} (h : w.ownsRow base e size v n xs) (k : Below w.heap.size w w') : w'.ownsRow base e size v n xs := by
  obtain ⟨h1, h2⟩ := h
  refine ⟨h1, h2.imp id ?_⟩
  rintro ⟨g, cap, cur, e1, e2, e3, e4⟩
  exact ⟨g, cap, cur, e1, e2, below_blk k (show Blk w g cur _ from e3) (show Blk w g cur _ from e3).lt, e4⟩
theorem QO.below {base : Nat} {W W' : World} {v : Value} {qs : List Rat} (h : QO base W v qs) (k : Below W.heap.size W W') : QO base W' v qs := by
  obtain ⟨cs, h1, h2⟩ := h
  exact ⟨cs, ownsRow_below h1 k, h2.below k⟩
theorem QO.reads {base : Nat} {W : World} {v : Value} {qs : List Rat} (h : QO base W v qs) (hl : qs.length ≤ 9223372036854775807) : QsV W v qs := by
  obtain ⟨cs, h1, h2⟩ := h
  exact ⟨cs, Reads.of_owns h1 hl, h2⟩
theorem infoQ : (Tryd.prog.info? 65).map (fun i => (i.zero, i.size, i.bytes)) = some (some (.agg #[.bool false, .slice none 0 0, .slice none 0 0]), 3, 56) := by kernel_rfl
theorem QO.app {base : Nat} {W : World} {v : Value} {qs : List Rat} {q : Rat} {c : QEl} {xb : Nat} (h : QO base W v qs) (hb : base ≤ W.heap.size) (hx : Blk W xb c.cells.toArray 65) (hq : QC W c.g (.slice c.na c.n c.nc) (.slice c.da c.dl c.dc) q) (hl : qs.length ≤ 100000) :
    ∃ v' W', (∀ ty, (Builtin.append_ #[75, 75] ty #[v, .slice (some ⟨xb, 0, none⟩) 1 1]).run Tryd.prog W = .ok v' W') ∧ QO base W' v' (qs ++ [q]) ∧ Below base W W' := by
  obtain ⟨i0, hi0, hz0, hz1, hz2⟩ := info_parts infoQ
  obtain ⟨cs, h1, h2⟩ := h
  have key := fun ty => run_append_own (P := Tryd.prog) W base 75 ty 65 i0 _ 3 56 Tryd.underlying75 hi0 hz0 hz1 hz2 rfl (by decide) v qs.length (flat QEl.cells cs) h1 ⟨xb, 0, none⟩ 1 1 c.cells rfl
    (fun j u hj => by rw [add_z]; exact hx.cell j (by rw [List.getElem?_toArray]; exact hj)) (fun u hu => by
      simp only [QEl.cells, List.mem_cons, List.mem_nil_iff, or_false] at hu
      rcases hu with rfl | rfl | rfl <;> rfl) (by unfold maxLen; omega) (by omega) hb
  obtain ⟨v', w', a1, a2, a3, _⟩ := key 0
  refine ⟨v', w', fun ty => a1, ⟨cs ++ [c], ?_, ?_⟩, Below.grown ⟨rfl, rfl, rfl, Nat.le_refl _, fun _ _ => rfl⟩ a3 hb (fun k e => row_own h1 k e)⟩
  · rw [List.length_append, show flat QEl.cells (cs ++ [c]) = flat QEl.cells cs ++ c.cells by simp [flat]]
    exact a2
  · have hs := h2.snoc hq
    rcases h1.2 with ⟨rfl, _⟩ | ⟨g, cap, cur, rfl, e2, e3, _⟩
    · exact hs.below ⟨a3.os, a3.tape, a3.output, a3.size, fun k hk => a3.block k hk (by simp [Value.ownBlock])⟩
    · exact hs.keepT (show Blk W g cur _ from e3) (by decide) ⟨a3.os, a3.tape, a3.output, a3.size, fun k hk hn => a3.block k hk (by simpa [Value.ownBlock] using hn)⟩
/-- An own list of texts. -/
def OS (base : Nat) (W : World) (v : Value) (l : List ByteArray) : Prop := W.ownsRow base 37 1 v l.length (l.map Value.string)
theorem infoR : (Tryd.prog.info? 37).map (fun i => (i.zero, i.size, i.bytes)) = some (some (.string ByteArray.empty), 1, 16) := by kernel_rfl
theorem OS.app {base : Nat} {W : World} {v : Value} {l : List ByteArray} {s : ByteArray} {xb : Nat} (h : OS base W v l) (hb : base ≤ W.heap.size) (hx : Blk W xb #[.string s] 37) (hl : l.length ≤ 100000) :
    ∃ v' W', (∀ ty, (Builtin.append_ #[23, 23] ty #[v, .slice (some ⟨xb, 0, none⟩) 1 1]).run Tryd.prog W = .ok v' W') ∧ OS base W' v' (l ++ [s]) ∧ Below base W W' := by
  obtain ⟨i0, hi0, hz0, hz1, hz2⟩ := info_parts infoR
  have key := fun ty => run_append_own (P := Tryd.prog) W base 23 ty 37 i0 _ 1 16 Tryd.underlying23 hi0 hz0 hz1 hz2 rfl (by decide) v l.length (l.map Value.string) h ⟨xb, 0, none⟩ 1 1 [.string s] rfl
    (fun j u hj => by rw [add_z]; exact hx.cell j (by rw [← Array.getElem?_toList]; exact hj)) (fun u hu => by rw [List.mem_singleton] at hu; subst hu; rfl) (by unfold maxLen; omega) (by omega) hb
  obtain ⟨v', w', a1, a2, a3, _⟩ := key 0
  refine ⟨v', w', fun ty => a1, ?_, Below.grown ⟨rfl, rfl, rfl, Nat.le_refl _, fun _ _ => rfl⟩ a3 hb (fun k e => row_own h k e)⟩
  unfold OS
  rw [List.length_append, List.map_append]; exact a2
set_option maxRecDepth 100000 in
set_option maxHeartbeats 2000000 in
theorem row_c (v : Value) (qs : List Rat) (w : World) (hv : SVal w v (txts qs)) (hf : ∀ q ∈ qs, FitQ q) (hl : qs.length ≤ 10000) :
    Calls Tryd.prog 40 #[v] w fun e w' => (∃ v', e = .returned v' ∧ QO w.heap.size w' v' qs) ∧ Below w.heap.size w w' := by
  have hlen : (txts qs).length = qs.length := by simp [txts]
  obtain ⟨a, cap, rfl⟩ := (show Reads w v (txts qs).length ((txts qs).map Value.string) from hv).slice
  rw [hlen] at hv ⊢
  obtain ⟨n, hN⟩ : ∃ n, qs.length = n := ⟨_, rfl⟩
  have HN := Lib.hid hN
  have HV : Hid (Reads w (.slice a n cap) n ((txts qs).map Value.string)) := by
    show Reads _ _ _ _
    have h : Reads w (.slice a qs.length cap) (txts qs).length ((txts qs).map Value.string) := hv
    rw [hlen, hN] at h; exact h
  have HIN := Lib.hid (fun (q : Rat) (h : q ∈ qs) W => rin_c q W (hf q h))
  rw [hN] at hl ⊢
  clear hv hf hN hlen
  go_enter Tryd.func40, Tryd.ntmps40
  go_wp2_with fail
  go_loopw [8, 3] (fun i ov wr => ∃ k : Nat, k ≤ n ∧ i = .int .i64 k ∧ Hid (QO w.heap.size wr ov (qs.take k)) ∧ Hid (Below w.heap.size w wr)) (fun i _ _ => n - (intOf i).toNat)
  case atStart => exact ⟨0, Nat.zero_le _, rfl, QO.nil _ _, Below.refl _ _⟩
  case round =>
    obtain ⟨k, hk, rfl, ho, hb⟩ := hrel
    obtain ⟨oa, oc, rfl⟩ := ho.out.slice
    have hkl : (qs.take k).length = k := by rw [List.length_take, HN.out]; omega
    rw [hkl] at ho ⊢
    by_cases hlt : k < n
    · obtain ⟨b, off, cap', hvv, _, _, hbl, hc⟩ := (HV.out.below hb.out).addr (by omega)
      simp only [Value.slice.injEq] at hvv
      obtain ⟨rfl, _, rfl⟩ := hvv
      obtain ⟨x, hx⟩ : ∃ x, qs[k]? = some x := ⟨_, List.getElem?_eq_getElem (by rw [HN.out]; exact hlt)⟩
      have x0 : wr.cell? ⟨b, off + k, none⟩ = some (.string (bs (ratT x))) := hc k _ (txts_get hx)
      have HIX := Lib.hid (HIN.out x (List.mem_of_getElem? hx) wr)
      have HTK : Hid (qs.take (k + 1) = qs.take k ++ [x]) := by
        show _ = _
        obtain ⟨h1, h2⟩ := List.getElem?_eq_some_iff.1 hx
        rw [List.take_succ_eq_append_getElem h1, h2]
      generalize bs (ratT x) = T at *
      clear hc hx
      go_wp2_with fail
      refine HIX.out.mono ?_; rintro e w5 ⟨⟨v5, rfl, hq⟩, hb5⟩
      obtain ⟨ig, ia, im, ic, ja, jl, jc, rfl, hi⟩ := hq.op
      have hB5 := hb.out.trans (hb5.mono hb.out.size)
      have O6 := (ho.out.below hb5).below (belowA (Below.refl _ _) (.cells #[.bool ig, .slice ia im ic, .slice ja jl jc] 65))
      have B6 := hB5.alloc hB5.size (.cells #[.bool ig, .slice ia im ic, .slice ja jl jc] 65)
      obtain ⟨v7, W7, hr7, ho7, hb7⟩ := O6.app (c := ⟨ig, ia, im, ic, ja, jl, jc⟩) B6.size (Blk.new w5 _ _) (hi.below (belowA (Below.refl _ _) _)) (by rw [hkl]; omega)
      have H7 : Hid (∀ ty, (Builtin.append_ #[75, 75] ty #[.slice oa k oc, .slice (some ⟨w5.heap.size, 0, none⟩) 1 1]).run Tryd.prog (w5.alloc (.cells #[.bool ig, .slice ia im ic, .slice ja jl jc] 65)) = .ok v7 W7) := hr7
      have O7 := Lib.hid ho7
      have B7 := Lib.hid (B6.trans hb7)
      clear hr7 ho7 hb7 O6 B6 hB5 hi hq hb5 ho hb x0 HIX
      go_wp2_with (at_builtin; refine wpList_append_told rfl (.tmp 12) (.tmp 15) 75 rfl _ _ rfl rfl _ W7 (H7.out _) ?_)
      go_roundw
      case rel => exact ⟨k + 1, hlt, by go_num, by rw [HTK.out]; exact O7.out, B7.out⟩
      case measure => simp [intOf]; omega
    · obtain rfl : k = n := by omega
      have hT : qs.take k = qs := List.take_of_length_le (by rw [HN.out]; exact Nat.le_refl _)
      rw [hT] at ho
      go_wp2_with fail
      go_ret
      exact ⟨⟨_, rfl, ho.out⟩, hb.out⟩
end Go.Proofs.YtkpalfgnfhphjaaDoor
