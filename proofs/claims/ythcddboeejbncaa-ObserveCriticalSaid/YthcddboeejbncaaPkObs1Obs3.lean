/- Lists of rows of numbers: read-only, own; observe.row. observe.Rows. slices.Clone at rows of numbers and at meters. -/
import Derived.Test.YthcddboeejbncaaPzMet6
import Derived.Test.YthcddboeejbncaaPzMat3
import Derived.Test.YthcddboeejbncaaPkLinELinL
import Derived.Lib.Hide
namespace Go.Proofs.Ythcddboeejbncaa
open Go.RowKit

/-- An append of one element to an own list. -/
theorem own_app {base n sz by' xb : Nat} {ST ET : TypeId} {W : World} {v z : Value} {xs news : List Value} {i0 : TypeInfo} (hu : Try.prog.underlying ST = some (.slice ET)) (hi0 : Try.prog.info? ET = some i0) (hz0 : i0.zero = some z) (hz1 : i0.size = sz) (hz2 : i0.bytes = by') (hzs : z.cells.size = sz) (hsz : 0 < sz)
    (h : W.ownsRow base ET sz v n xs) (hb : base ≤ W.heap.size) (hx : Blk W xb news.toArray ET) (hn : news.length = sz) (h1 : ∀ u, u ∈ news → u.oneCell' = true) (hl : n ≤ 100000) (hby : by' ≤ 1000) :
    ∃ v' W', (∀ ty, (Builtin.append_ #[ST, ST] ty #[v, .slice (some ⟨xb, 0, none⟩) 1 1]).run Try.prog W = .ok v' W') ∧ W'.ownsRow base ET sz v' (n + 1) (xs ++ news) ∧ Below base W W' ∧ W.grownBy W' v.ownBlock := by
  have hm : (n + 1) * by' ≤ 100001 * 1000 := Nat.mul_le_mul (by omega) hby
  have key := fun ty => run_append_own (P := Try.prog) W base ST ty ET i0 z sz by' hu hi0 hz0 hz1 hz2 hzs hsz v n xs h ⟨xb, 0, none⟩ 1 1 news (by omega)
    (fun j u hj => by rw [add_z]; exact hx.cell j (by rw [List.getElem?_toArray]; exact hj)) h1 (by unfold maxLen; omega) (by omega) hb
  obtain ⟨v', w', a1, a2, a3, _⟩ := key 0
  exact ⟨v', w', fun ty => a1, a2, Below.grown ⟨rfl, rfl, rfl, Nat.le_refl _, fun _ _ => rfl⟩ a3 hb (fun k e => row_own h k e), a3⟩

/-- A row's slice: its block, its capacity. -/
def rowCell (m : Nat) (r : Nat × Nat) : Value := .slice (some ⟨r.1, 0, none⟩) m r.2
/-- The rows g lie in the blocks rs. -/
def RL (W : World) (m : Nat) (rs : List (Nat × Nat)) (g : List (Nat → Rat)) : Prop := rs.length = g.length ∧ ∀ (k : Nat) r f, rs[k]? = some r → g[k]? = some f → m ≤ r.2 ∧ RowM W r.1 m f
theorem RL.nil (W : World) (m : Nat) : RL W m [] [] := ⟨rfl, fun k r f h => by simp at h⟩
theorem RL.below {W W' : World} {m : Nat} {rs : List (Nat × Nat)} {g : List (Nat → Rat)} (h : RL W m rs g) (k : Below W.heap.size W W') : RL W' m rs g := ⟨h.1, fun j r f h1 h2 => ⟨(h.2 j r f h1 h2).1, (h.2 j r f h1 h2).2.below k⟩⟩
theorem RL.snoc {W : World} {m : Nat} {rs : List (Nat × Nat)} {g : List (Nat → Rat)} {r : Nat × Nat} {f : Nat → Rat} (h : RL W m rs g) (hr : m ≤ r.2) (hf : RowM W r.1 m f) : RL W m (rs ++ [r]) (g ++ [f]) := by
  refine ⟨by simp [h.1], fun k r' f' h1 h2 => ?_⟩
  by_cases hk : k < rs.length
  · rw [List.getElem?_append_left hk] at h1
    rw [List.getElem?_append_left (by rw [← h.1]; exact hk)] at h2
    exact h.2 k r' f' h1 h2
  · rw [List.getElem?_append_right (by omega)] at h1
    rw [List.getElem?_append_right (by rw [← h.1]; omega)] at h2
    rw [← h.1] at h2
    cases e : k - rs.length with
    | zero =>
      rw [e] at h1 h2
      simp at h1 h2
      rw [← h1, ← h2]; exact ⟨hr, hf⟩
    | succ j => rw [e] at h1; simp at h1
theorem rb_ne {W : World} {a b m : Nat} {cs : Array Value} {f : Nat → Rat} (h : RowM W a m f) (k : Blk W b cs 76) : a ≠ b := by
  obtain ⟨cur, h1, _⟩ := h
  intro e; subst e
  have : some (Obj.cells cur 80) = some (Obj.cells cs 76) := h1.symm.trans k
  simp at this
/-- A change of the block that holds the slices. -/
theorem RL.keep {W W' : World} {m b : Nat} {rs : List (Nat × Nat)} {g : List (Nat → Rat)} {cs : Array Value} (h : RL W m rs g) (k : Blk W b cs 76) (hb : But b W W') : RL W' m rs g :=
  ⟨h.1, fun j r f h1 h2 => ⟨(h.2 j r f h1 h2).1, (h.2 j r f h1 h2).2.keepT k (by decide) hb (rb_ne (h.2 j r f h1 h2).2 k)⟩⟩
/-- A list of rows that may be read. -/
def GV (W : World) (v : Value) (m : Nat) (g : List (Nat → Rat)) : Prop := ∃ rs, Reads W v g.length (rs.map (rowCell m)) ∧ RL W m rs g
theorem GV.below {W W' : World} {v : Value} {m : Nat} {g : List (Nat → Rat)} (h : GV W v m g) (k : Below W.heap.size W W') : GV W' v m g := by
  obtain ⟨rs, h1, h2⟩ := h
  exact ⟨rs, h1.below k, h2.below k⟩
theorem GV.at {W : World} {v : Value} {m : Nat} {g : List (Nat → Rat)} (h : GV W v m g) {k : Nat} {f : Nat → Rat} (hf : g[k]? = some f) : ∃ (b off cap rb rc : Nat), v = .slice (some ⟨b, off, none⟩) g.length cap ∧ b < W.heap.size ∧ W.cell? ⟨b, off + k, none⟩ = some (.slice (some ⟨rb, 0, none⟩) m rc) ∧ m ≤ rc ∧ RowM W rb m f := by
  obtain ⟨rs, h1, h2⟩ := h
  obtain ⟨hk, _⟩ := List.getElem?_eq_some_iff.1 hf
  obtain ⟨b, off, cap, hv, _, _, hb, hc⟩ := h1.addr (by omega)
  obtain ⟨⟨rb, rc⟩, hr⟩ : ∃ r, rs[k]? = some r := ⟨_, List.getElem?_eq_getElem (by rw [h2.1]; exact hk)⟩
  obtain ⟨h3, h4⟩ := h2.2 k _ f hr hf
  exact ⟨b, off, cap, rb, rc, hv, hb, hc k _ (by rw [List.getElem?_map, hr]; rfl), h3, h4⟩
/-- An own list of rows. -/
def GO (base : Nat) (W : World) (v : Value) (m : Nat) (g : List (Nat → Rat)) : Prop := ∃ rs, W.ownsRow base 76 1 v g.length (rs.map (rowCell m)) ∧ RL W m rs g
theorem GO.nil (base : Nat) (W : World) (m : Nat) : GO base W (.slice none 0 0) m [] := ⟨[], ⟨rfl, Or.inl ⟨rfl, rfl⟩⟩, RL.nil W m⟩
theorem GO.slice {base : Nat} {W : World} {v : Value} {m : Nat} {g : List (Nat → Rat)} (h : GO base W v m g) : ∃ a c, v = .slice a g.length c := by
  obtain ⟨rs, h1, _⟩ := h
  exact row_slice h1
theorem GO.below {base : Nat} {W W' : World} {v : Value} {m : Nat} {g : List (Nat → Rat)} (h : GO base W v m g) (k : Below W.heap.size W W') : GO base W' v m g := by
  obtain ⟨rs, h1, h2⟩ := h
  exact ⟨rs, ownsRow_below h1 k, h2.below k⟩
theorem GO.reads {base : Nat} {W : World} {v : Value} {m : Nat} {g : List (Nat → Rat)} (h : GO base W v m g) (hl : g.length ≤ 9223372036854775807) : GV W v m g := by
  obtain ⟨rs, h1, h2⟩ := h
  exact ⟨rs, Reads.of_owns h1 hl, h2⟩
theorem GO.mono {base base' : Nat} {W : World} {v : Value} {m : Nat} {g : List (Nat → Rat)} (h : GO base W v m g) (hb : base' ≤ base) : GO base' W v m g := by
  obtain ⟨rs, ⟨h1, h2⟩, h3⟩ := h
  exact ⟨rs, ⟨h1, h2.imp id fun ⟨b, cap, cur, e1, e2, e3⟩ => ⟨b, cap, cur, e1, Nat.le_trans hb e2, e3⟩⟩, h3⟩
theorem GO.nil_cap {base : Nat} {W : World} {v : Value} {m : Nat} {g : List (Nat → Rat)} (h : GO base W v m g) : ∀ k c, v = .slice none k c → c = 0 := by
  obtain ⟨rs, h1, _⟩ := h
  intro k c e
  rcases h1.2 with ⟨h, _⟩ | ⟨_, _, _, h, _⟩
  · rw [h] at e; simp only [Value.slice.injEq] at e; omega
  · rw [h] at e; simp at e
theorem infoG : (Try.prog.info? 76).map (fun i => (i.zero, i.size, i.bytes)) = some (some (.slice none 0 0), 1, 24) := by kernel_rfl
theorem RL.grown {W W' : World} {base n m : Nat} {v : Value} {xs : List Value} {rs : List (Nat × Nat)} {g : List (Nat → Rat)} (h : RL W m rs g) (ho : W.ownsRow base 76 1 v n xs) (a3 : W.grownBy W' v.ownBlock) : RL W' m rs g := by
  rcases ho.2 with ⟨rfl, _⟩ | ⟨b, cap, cur, rfl, e2, e3, _⟩
  · exact h.below ⟨a3.os, a3.tape, a3.output, a3.size, fun k hk => a3.block k hk (by simp [Value.ownBlock])⟩
  · exact h.keep (show Blk W b cur _ from e3) ⟨a3.os, a3.tape, a3.output, a3.size, fun k hk hn => a3.block k hk (by simpa [Value.ownBlock] using hn)⟩
theorem GO.app {base : Nat} {W : World} {v : Value} {m : Nat} {g : List (Nat → Rat)} {r : Nat × Nat} {f : Nat → Rat} {xb : Nat} (h : GO base W v m g) (hb : base ≤ W.heap.size) (hx : Blk W xb #[rowCell m r] 76) (hr : m ≤ r.2) (hf : RowM W r.1 m f) (hl : g.length ≤ 100000) :
    ∃ v' W', (∀ ty, (Builtin.append_ #[73, 73] ty #[v, .slice (some ⟨xb, 0, none⟩) 1 1]).run Try.prog W = .ok v' W') ∧ GO base W' v' m (g ++ [f]) ∧ Below base W W' := by
  obtain ⟨i0, hi0, hz0, hz1, hz2⟩ := info_parts infoG
  obtain ⟨rs, h1, h2⟩ := h
  obtain ⟨v', W', a1, a2, a3, a4⟩ := own_app Try.underlying73 hi0 hz0 hz1 hz2 rfl (by decide) h1 hb (news := [rowCell m r]) hx rfl (fun u hu => by rw [List.mem_singleton] at hu; subst hu; rfl) hl (by decide)
  refine ⟨v', W', a1, ⟨rs ++ [r], ?_, (h2.snoc hr hf).grown h1 a4⟩, a3⟩
  rw [List.length_append, List.map_append]; exact a2
/-- A row without a place: its entries at the given columns. -/
def selR (C : Nat → Rat) (fl : List Int) : Nat → Rat := fun j => C (fl.getD j 0).toNat
theorem RowM.congr {W : World} {rb L : Nat} {f f' : Nat → Rat} (h : RowM W rb L f) (e : ∀ c, c < L → f c = f' c) : RowM W rb L f' := by
  obtain ⟨cur, h1, h2, h3, h4⟩ := h
  exact ⟨cur, h1, h2, h3, fun c hc => by rw [← e c hc]; exact h4 c hc⟩
set_option maxRecDepth 100000 in
set_option maxHeartbeats 2000000 in
theorem orow_c (g m : Nat) (C : Nat → Rat) (fv : Value) (fl : List Int) (w : World) (hg : RowM w g m C) (hv : IVal w fv fl) (hf : ∀ x ∈ fl, 0 ≤ x ∧ x < m) (hl : fl.length ≤ 1000) :
    Calls Try.prog 35 #[.slice (some ⟨g, 0, none⟩) m m, fv] w fun e w' => (∃ b, e = .returned (.slice (some ⟨b, 0, none⟩) fl.length fl.length) ∧ b = w.heap.size ∧ RowM w' b fl.length (selR C fl)) ∧ Below w.heap.size w w' := by
  obtain ⟨a, cap, rfl⟩ := hv.slice
  obtain ⟨n, hN⟩ : ∃ n, fl.length = n := ⟨_, rfl⟩
  have HN := Lib.hid hN
  have HG := Lib.hid hg
  have HF : Hid (∀ (k : Nat) (x : Int), fl[k]? = some x → 0 ≤ x ∧ x < m) := fun k x h => hf x (List.mem_of_getElem? h)
  have HV : Hid (Reads w (.slice a n cap) n (ints fl)) := by show Reads _ _ _ _; rw [← hN]; exact hv
  rw [hN] at hl ⊢
  have R0 := Lib.hid (RowM.zero w n)
  have B0 := Lib.hid (belowA (Below.refl w.heap.size w) (.cells (madeCells #[.bool false, .slice none 0 0, .slice none 0 0] (n * 3)) 80))
  have HMK := Lib.hid (fun W => make_qs n (by omega) W)
  clear hv hN hg hf
  go_enter Try.func35, Try.ntmps35
  go_wp2_with (rw [HMK.out])
  generalize hw1 : w.alloc (.cells (madeCells #[.bool false, .slice none 0 0, .slice none 0 0] (n * 3)) 80) = w1 at *
  clear hw1
  obtain ⟨p, hp⟩ : ∃ p, w.heap.size = p := ⟨_, rfl⟩
  have HP := Lib.hid hp
  rw [hp] at R0 ⊢
  clear hp
  go_loopw [13] (fun i wr => ∃ k : Nat, k ≤ n ∧ i = .int .i64 k ∧ Hid (RowM wr p n (fun j => if j < k then selR C fl j else 0)) ∧ Hid (Below w.heap.size w wr)) (fun i _ => n - (intOf i).toNat)
  case atStart => exact ⟨0, Nat.zero_le _, rfl, R0.out.congr (fun c _ => rfl), B0.out⟩
  case round =>
    clear R0 B0
    obtain ⟨k, hk, rfl, hrow, hb⟩ := hrel
    by_cases hlt : k < n
    · have hkl : k < fl.length := by rw [HN.out]; exact hlt
      obtain ⟨fb, fo, fc, hfv, _, _, hfl, hfc⟩ := (HV.out.below hb.out).addr (by omega)
      simp only [Value.slice.injEq] at hfv
      obtain ⟨rfl, _, rfl⟩ := hfv
      have x0 := hfc k _ (ints_get hkl)
      have hx := HF.out k (fl.getD k 0) (by simp [hkl])
      obtain ⟨c, hc⟩ : ∃ c : Nat, fl.getD k 0 = c := ⟨(fl.getD k 0).toNat, by omega⟩
      rw [hc] at x0 hx
      have hcm : c < m := by omega
      have hci : (c : Int) < (m : Int) := by omega
      have HSE : Hid (selR C fl k = C c) := by show C (fl.getD k 0).toNat = _; rw [hc]; rfl
      obtain ⟨ng, na, nl, nc, da, dl, dc, e0, e1, e2, hqc⟩ := (HG.out.below hb.out).ent hcm
      obtain ⟨_, _, _, _, _, _, _, z0, z1, z2, _⟩ := hrow.out.ent hlt
      have f0 := hrow.out.free (k * 3)
      have f1 := hrow.out.free (k * 3 + 1)
      have f2 := hrow.out.free (k * 3 + 2)
      have hpl := hrow.out.lt
      have HQC := Lib.hid hqc
      have hgl : g < wr.heap.size := (HG.out.below hb.out).lt
      clear hqc hfc hc
      go_wp2_with fail
      go_roundw
      case rel =>
        refine ⟨k + 1, hlt, by go_num, (hrow.out.put hlt HQC.out).congr (fun j hj => ?_), ((hb.out.setCell (p := ⟨p, k * 3, none⟩) ?_ _).setCell (p := ⟨p, k * 3 + 1, none⟩) ?_ _).setCell (p := ⟨p, k * 3 + 2, none⟩) ?_ _⟩
        · show (if j = k then C c else if j < k then selR C fl j else 0) = if j < k + 1 then selR C fl j else 0
          by_cases ej : j = k
          · rw [if_pos ej, ej, if_pos (Nat.lt_succ_self k), HSE.out]
          · rw [if_neg ej]
            by_cases ej2 : j < k
            · rw [if_pos ej2, if_pos (by omega)]
            · rw [if_neg ej2, if_neg (by omega)]
        all_goals (have := HP.out; show w.heap.size ≤ p; omega)
      case measure => simp [intOf]; omega
    · obtain rfl : k = n := by omega
      have HL := HN
      clear HN
      go_wp2_with fail
      go_ret
      exact ⟨⟨p, rfl, HP.out.symm, hrow.out.congr (fun j hj => by rw [if_pos hj])⟩, hb.out⟩
end Go.Proofs.Ythcddboeejbncaa
namespace Go.Proofs.Ythcddboeejbncaa
open Go.RowKit

theorem freeGo_ok (I : List Int) : ∀ (l : List Int) (k : Nat), k + l.length ≤ I.length → ∀ x ∈ freeGo I l k, 0 ≤ x ∧ x < I.length
  | [], _, _, x, h => by simp [freeGo] at h
  | y :: l, k, hk, x, h => by
    simp only [List.length_cons] at hk
    unfold freeGo at h
    split at h
    · rcases List.mem_cons.1 h with rfl | h
      · omega
      · exact freeGo_ok I l (k + 1) (by omega) x h
    · exact freeGo_ok I l (k + 1) (by omega) x h
theorem freeL_ok (I : List Int) : ∀ x ∈ freeL I, 0 ≤ x ∧ x < I.length := freeGo_ok I I 0 (by omega)
theorem freeGo_len (I : List Int) : ∀ (l : List Int) (k : Nat), (freeGo I l k).length ≤ l.length
  | [], _ => Nat.le_refl _
  | y :: l, k => by
    have := freeGo_len I l (k + 1)
    unfold freeGo
    split
    · simp only [List.length_cons]; omega
    · simp only [List.length_cons]; omega
theorem freeL_len (I : List Int) : (freeL I).length ≤ I.length := freeGo_len I I 0
/-- The free buses of a network. -/
def freeE (n : Net) : List Int := freeL (islandsE n)
/-- The row of a meter. -/
def rowE (n : Net) (m : MIt) : Nat → Rat := selR (formE n m).1 (freeE n)
def rowsE (n : Net) (l : List MIt) : List (Nat → Rat) := l.map (rowE n)
theorem field_line (a b c d : Value) (w : World) : (Instr.field 99 (.agg #[a, b, c, d]) 0).run Try.prog w = .ok a w := by kernel_rfl
set_option maxRecDepth 100000 in
set_option maxHeartbeats 4000000 in
theorem rows_c (x0 : NAddr) (n : Net) (tv lv : Value) (l : List MIt) (w : World) (hr : NetR w x0 n) (hok : netE n = 0) (ht : TopV w tv n) (hv : Reads w lv l.length (flat MIt.cells l)) (hmi : ∀ m ∈ l, itemE n m = 0) (hl : l.length ≤ 10000) :
    Calls Try.prog 31 #[x0.val n, tv, lv] w fun e w' => (∃ v, e = .returned v ∧ GO w.heap.size w' v (freeE n).length (rowsE n l)) ∧ Below w.heap.size w w' := by
  have hil : (islandsE n).length ≤ 24 := by
    obtain ⟨m, hm, hm24, _⟩ := cnt_buses (netE_ok hok)
    rw [islands_len hm]; exact hm24
  have HFO := Lib.hid (fun (m : MIt) (h : m ∈ l) W (hW : Below w.heap.size w W) => form_c x0 n tv m W (hr.below hW) hok (ht.below hW) (hmi m h))
  have HRO := Lib.hid (fun g C fv W (h1 : RowM W g (islandsE n).length C) (h2 : IVal W fv (freeE n)) => orow_c g (islandsE n).length C fv (freeE n) W h1 h2 (freeL_ok _) (by have := freeL_len (islandsE n); unfold freeE; omega))
  obtain ⟨a, cap, rfl⟩ := hv.slice
  obtain ⟨N, hN⟩ : ∃ n, l.length = n := ⟨_, rfl⟩
  have HN := Lib.hid hN
  have HV : Hid (Reads w (.slice a N cap) N (flat MIt.cells l)) := by show Reads _ _ _ _; rw [← hN]; exact hv
  obtain ⟨bua, bub, ia, ic, rfl, hb1, hb2⟩ := ht
  have HFR := Lib.hid (fun W (hW : Below w.heap.size w W) => freeOf_c bua ia n.nodes.length bub ic (islandsE n) W (hb2.below hW) (by omega))
  rw [hN] at hl ⊢
  have HRE : Hid (∀ (m : MIt), rowE n m = selR (formE n m).1 (freeE n)) := fun _ => rfl
  have HFE : Hid (freeL (islandsE n) = freeE n) := rfl
  rw [HFE.out] at HFR
  generalize freeE n = FL at *
  generalize (islandsE n).length = il at *
  clear hr hv hN hmi hb1 hb2
  obtain ⟨na, nc, sa, sc, ba, bc, ga, gc, la, lc, ta, tc⟩ := x0
  simp only [NAddr.val] at HFO ⊢
  have NV : Hid (n.nodes.length = n.nodes.length) := rfl
  generalize n.nodes.length = nn at *
  generalize n.sws.length = sn at *
  generalize n.brs.length = bn at *
  generalize n.gens.length = gn at *
  generalize n.loads.length = lon at *
  generalize n.stores.length = tn at *
  have B1 := Lib.hid (belowA (belowA (Below.refl w.heap.size w) (.cells #[.slice na nn nc, .slice sa sn sc, .slice ba bn bc, .slice ga gn gc, .slice la lon lc, .slice ta tn tc] 29)) (.cells #[.slice bua nn bub, .slice ia il ic] 47))
  have KN1 := Lib.hid ((Blk.new w #[.slice na nn nc, .slice sa sn sc, .slice ba bn bc, .slice ga gn gc, .slice la lon lc, .slice ta tn tc] 29).alloc (.cells #[.slice bua nn bub, .slice ia il ic] 47))
  have KT1 := Lib.hid (Blk.new2 w (.cells #[.slice na nn nc, .slice sa sn sc, .slice ba bn bc, .slice ga gn gc, .slice la lon lc, .slice ta tn tc] 29) #[.slice bua nn bub, .slice ia il ic] 47)
  have HF1 := Lib.hid (HFR.out _ B1.out)
  clear HFR NV
  go_enter Try.func31, Try.ntmps31
  go_wp2_with fail
  refine HF1.out.mono ?_; rintro e w2 ⟨⟨fv, rfl, hfv⟩, hb2⟩
  obtain ⟨fa, fc, rfl⟩ := hfv.slice
  have HFV := Lib.hid hfv
  have B2 := Lib.hid (belowT B1.out hb2)
  have KN2 := Lib.hid (below_blk hb2 KN1.out KN1.out.lt)
  have KT2 := Lib.hid (below_blk hb2 KT1.out KT1.out.lt)
  obtain ⟨p, hp⟩ : ∃ p, w.heap.size = p := ⟨_, rfl⟩
  have HP := Lib.hid hp
  rw [hp] at KN2 KT2 ⊢
  clear hb2 hfv B1 KN1 KT1 HF1 hp
  go_wp2_with fail
  go_loopw [15, 8] (fun i ov wr => ∃ k : Nat, k ≤ N ∧ i = .int .i64 k ∧ Hid (GO w2.heap.size wr ov FL.length (rowsE n (l.take k))) ∧ Hid (Below w2.heap.size w2 wr)) (fun i _ _ => N - (intOf i).toNat)
  case atStart => exact ⟨0, Nat.zero_le _, rfl, GO.nil _ _ _, Below.refl _ _⟩
  case round =>
    obtain ⟨k, hk, rfl, ho, hb⟩ := hrel
    obtain ⟨oa, oc, rfl⟩ := ho.out.slice
    by_cases hlt : k < N
    · have hbw := Lib.hid (belowT B2.out hb.out)
      have kn := below_blk hb.out KN2.out KN2.out.lt
      have kt := below_blk hb.out KT2.out KT2.out.lt
      have hfv := Lib.hid (HFV.out.below hb.out)
      obtain ⟨b1, off1, cap1, hvv, _, _, hbl, hc⟩ := (HV.out.below hbw.out).addr (by omega)
      simp only [Value.slice.injEq] at hvv
      obtain ⟨rfl, _, rfl⟩ := hvv
      obtain ⟨x, hx⟩ : ∃ x, l[k]? = some x := ⟨_, List.getElem?_eq_getElem (by rw [HN.out]; exact hlt)⟩
      obtain ⟨x0, x1, x2, x3⟩ := mit_cells hc hx
      have hmem := List.mem_of_getElem? hx
      have HTK : Hid (rowsE n (l.take (k + 1)) = rowsE n (l.take k) ++ [selR (formE n x).1 FL]) := by
        show _ = _
        obtain ⟨h1, h2⟩ := List.getElem?_eq_some_iff.1 hx
        unfold rowsE
        rw [List.take_succ_eq_append_getElem h1, h2, List.map_append, List.map_singleton, HRE.out]
      have hkl : (rowsE n (l.take k)).length = k := by unfold rowsE; rw [List.length_map, List.length_take, HN.out]; omega
      rw [hkl] at ho ⊢
      have B4 := Lib.hid (belowA (Below.refl wr.heap.size wr) (.cells #[.int .i64 x.kind, .string x.name, .string x.value, .int .i64 x.weight] 33))
      have KM := Blk.new wr #[.int .i64 x.kind, .string x.name, .string x.value, .int .i64 x.weight] 33
      have c1 := (kn.alloc (.cells #[.int .i64 x.kind, .string x.name, .string x.value, .int .i64 x.weight] 33))
      have c2 := (kt.alloc (.cells #[.int .i64 x.kind, .string x.name, .string x.value, .int .i64 x.weight] 33))
      have HX := Lib.hid (HFO.out x hmem _ (belowT hbw.out B4.out))
      clear hc hx hmem kn kt
      go_upto_region 6 with fail
      generalize hw3 : wr.alloc (.cells #[.int .i64 x.kind, .string x.name, .string x.value, .int .i64 x.weight] 33) = w3 at *
      clear hw3 x0 x1 x2 x3 hbl
      have n0 := c1.cell 0 rfl
      have n1 := c1.cell 1 rfl
      have n2 := c1.cell 2 rfl
      have n3 := c1.cell 3 rfl
      have n4 := c1.cell 4 rfl
      have n5 := c1.cell 5 rfl
      have t0 := c2.cell 0 rfl
      have t1 := c2.cell 1 rfl
      have m0 := KM.cell 0 rfl
      have m1 := KM.cell 1 rfl
      have m2 := KM.cell 2 rfl
      have m3 := KM.cell 3 rfl
      have hl1 := c1.lt
      have hl2 := c2.lt
      have hl3 := KM.lt
      clear c1 c2 KM
      go_wp2_with fail
      refine HX.out.mono ?_; rintro e w4 ⟨⟨v4, rfl, hlv⟩, hb4⟩
      obtain ⟨g, fg, fna, fn, fnc, fda, fdl, fdc, rfl, hrow, _⟩ := hlv
      have B5 := Lib.hid (belowT B4.out hb4)
      have HRX := Lib.hid (HRO.out g _ (.slice fa FL.length fc) w4 hrow (hfv.out.below B5.out))
      have hfd := field_line (.slice (some ⟨g, 0, none⟩) il il) (.bool fg) (.slice fna fn fnc) (.slice fda fdl fdc) w4
      clear n0 n1 n2 n3 n4 n5 t0 t1 m0 m1 m2 m3 hl1 hl2 hl3 hrow hb4 HX B4
      go_wp2_with fail
      refine HRX.out.mono ?_; rintro e w5 ⟨⟨b, rfl, hbe, hrow⟩, hb5⟩
      have B6 := Lib.hid (belowT B5.out hb5)
      have O6 := (ho.out.below B6.out).below (belowA (Below.refl _ _) (.cells #[.slice (some ⟨b, 0, none⟩) FL.length FL.length] 76))
      have B7 := (hb.out.trans (B6.out.mono hb.out.size)).alloc (Nat.le_trans hb.out.size B6.out.size) (.cells #[.slice (some ⟨b, 0, none⟩) FL.length FL.length] 76)
      obtain ⟨v7, W7, hr7, ho7, hb7⟩ := O6.app (r := (b, FL.length)) (f := selR (formE n x).1 FL) B7.size (Blk.new w5 _ _) (Nat.le_refl _) (hrow.below (belowA (Below.refl _ _) _)) (by rw [hkl]; omega)
      have H7 : Hid (∀ ty, (Builtin.append_ #[73, 73] ty #[.slice oa k oc, .slice (some ⟨w5.heap.size, 0, none⟩) 1 1]).run Try.prog (w5.alloc (.cells #[.slice (some ⟨b, 0, none⟩) FL.length FL.length] 76)) = .ok v7 W7) := hr7
      have O7 := Lib.hid ho7
      have C7 := Lib.hid (B7.trans hb7)
      clear hr7 ho7 hb7 O6 B7 hrow hbe hb5 hfd B6 B5 HRX ho hb hbw hfv
      go_wp2_with (at_builtin; refine wpList_append_told rfl (.tmp 19) (.tmp 27) 73 rfl _ _ rfl rfl _ W7 (H7.out _) ?_)
      go_roundw
      case rel => exact ⟨k + 1, hlt, by go_num, by rw [HTK.out]; exact O7.out, C7.out⟩
      case measure => simp [intOf]; omega
    · obtain rfl : k = N := by omega
      have hT : l.take k = l := List.take_of_length_le (by rw [HN.out]; exact Nat.le_refl _)
      rw [hT] at ho ⊢
      have hz := B2.out.size
      have HR := Lib.hid (ho.out.mono hz)
      have HB := Lib.hid (belowT B2.out hb.out)
      clear ho hb HN
      go_wp2_with fail
      go_ret
      exact ⟨⟨_, rfl, HR.out⟩, HB.out⟩
end Go.Proofs.Ythcddboeejbncaa
namespace Go.Proofs.Ythcddboeejbncaa
open Go.RowKit

/-- What slices.Clone answers. -/
def CloneP (ET sz : Nat) (v : Value) (n : Nat) (cs : List Value) (w : World) (e : Ending) (w' : World) : Prop :=
  ∃ u, e = .returned u ∧ w'.ownsRow w.heap.size ET sz u n cs ∧ ((∃ c, v = .slice none 0 c ∧ u = .slice none 0 0) ∨ (∃ ad c b c', v = .slice (some ad) n c ∧ u = .slice (some ⟨b, 0, none⟩) n c')) ∧ Below w.heap.size w w'
theorem CloneP.some {ET sz n : Nat} {v v' s : Value} {cs : List Value} {w w' : World} (h1 : ∃ ad c, v = .slice (some ad) n c) (h2 : w'.ownsRow w.heap.size ET sz v' (0 + n) ([] ++ cs)) (h3 : v' = .slice none 0 0 ↔ s = .slice none 0 0 ∧ n = 0) (h4 : s ≠ .slice none 0 0) (h5 : Below w.heap.size w w') : CloneP ET sz v n cs w (.returned v') w' := by
  obtain ⟨ad, c, rfl⟩ := h1
  rw [Nat.zero_add, List.nil_append] at h2
  refine ⟨v', rfl, h2, Or.inr ?_, h5⟩
  rcases h2.2 with ⟨h, _⟩ | ⟨g, cap, _, h, _⟩
  · exact absurd (h3.1 h).1 h4
  · exact ⟨ad, c, g, cap, rfl, h⟩
theorem CloneP.nil {ET sz n c : Nat} {v : Value} {cs : List Value} {w : World} (h1 : v = .slice none 0 c) (h2 : n = 0) (h3 : cs.length = n * sz) : CloneP ET sz v n cs w (.returned (.slice none 0 0)) w := by
  subst h1; subst h2
  exact ⟨_, rfl, ⟨h3, Or.inl ⟨rfl, rfl⟩⟩, Or.inl ⟨_, rfl, rfl⟩, Below.refl _ _⟩
set_option maxHeartbeats 2000000 in
theorem cloneQ_c (v : Value) (n : Nat) (cs : List Value) (w : World) (hr : Reads w v n cs) (hfl : cs.length = n * 3) (h1c : ∀ u, u ∈ cs → u.oneCell' = true) (hn : n ≤ 100000) :
    Calls Try.prog 46 #[v] w (CloneP 80 3 v n cs w) := by
  have HCP : Hid (∀ (v' : Value) (w' : World) (s : Value), (∃ ad c, v = .slice (some ad) n c) → w'.ownsRow w.heap.size 80 3 v' (0 + n) ([] ++ cs) → (v' = .slice none 0 0 ↔ s = .slice none 0 0 ∧ n = 0) → s ≠ .slice none 0 0 → Below w.heap.size w w' → CloneP 80 3 v n cs w (.returned v') w') := fun v' w' s h1 h2 h3 h4 h5 => CloneP.some h1 h2 h3 h4 h5
  have HCN : Hid (∀ (c : Nat), v = .slice none 0 c → n = 0 → CloneP 80 3 v n cs w (.returned (.slice none 0 0)) w) := fun c h1 h2 => CloneP.nil h1 h2 hfl
  generalize CloneP 80 3 v n cs w = CP at *
  rcases hr with ⟨rfl, rfl, a, cap, rfl⟩ | ⟨b, off, cap, rfl, h1, h2, h3, h4⟩
  · cases a with
    | none =>
      have qn : ∀ (w : World) (n c : Nat), (binOp .eql 76 (.slice none n c) (.slice none 0 0)).run Try.prog w = .ok (.bool true) w := fun w n c => Lib.run_eql_slice_nil w 76 80 none n c 0 0 Try.underlying76
      clear hn hfl h1c
      go_enter Try.func46, Try.ntmps46
      go_wp2_with (rw [qn])
      exact HCN.out _ rfl trivial
    | some ad =>
      have qn : ∀ (w : World) (n c : Nat), (binOp .eql 76 (.slice (some ad) n c) (.slice none 0 0)).run Try.prog w = .ok (.bool false) w := fun w n c => Lib.run_eql_slice_nil w 76 80 (some ad) n c 0 0 Try.underlying76
      obtain ⟨i0, hi, hz0, hz1, hz2⟩ := info_parts infoQ
      clear hn hfl h1c
      go_enter Try.func46, Try.ntmps46
      go_wp2_with (first | (rw [qn]) | (at_builtin; refine wpList_append_own _ rfl _ _ 76 rfl w.heap.size 80 i0 _ 3 56 Try.underlying76 hi hz0 hz1 hz2 rfl (by decide) _ 0 [] rfl (owns_lit (Blk.new _ _ _) (Nat.le_refl _) 3 0 (Nat.zero_mul _).symm (by decide)) ad 0 cap [] rfl (Nat.zero_mul _).symm (fun j u hj => by simp at hj) (fun u hu => by cases hu) (by unfold maxLen; omega) (by omega) (by simp) ?_; intro v' w3 hown' hgrow3 hnil3))
      exact HCP.out _ _ (.slice (some ⟨w.heap.size, 0, none⟩) 0 0) ⟨_, _, rfl⟩ hown' hnil3 (by simp) (Below.grown (belowA (Below.refl _ w) _) hgrow3 (by simp) (fun j hj => by have : w.heap.size = j := Option.some.inj hj; omega))
  · have qn : ∀ (w : World) (n c : Nat), (binOp .eql 76 (.slice (some ⟨b, off, none⟩) n c) (.slice none 0 0)).run Try.prog w = .ok (.bool false) w := fun w n c => Lib.run_eql_slice_nil w 76 80 (some ⟨b, off, none⟩) n c 0 0 Try.underlying76
    have HC := Lib.hid h4
    have HF := Lib.hid hfl
    have H1 := Lib.hid h1c
    obtain ⟨i0, hi, hz0, hz1, hz2⟩ := info_parts infoQ
    clear h4 hfl h1c
    go_enter Try.func46, Try.ntmps46
    go_wp2_with (first | (rw [qn]) | (at_builtin; refine wpList_append_own _ rfl _ _ 76 rfl w.heap.size 80 i0 _ 3 56 Try.underlying76 hi hz0 hz1 hz2 rfl (by decide) _ 0 [] rfl (owns_lit (Blk.new _ _ _) (Nat.le_refl _) 3 0 (Nat.zero_mul _).symm (by decide)) ⟨b, off, none⟩ n cap cs rfl HF.out (cells_add (fun j u hj => by rw [(belowA (Below.refl _ w) _).cell (by exact h3)]; exact HC.out j u hj)) H1.out (by unfold maxLen; omega) (by omega) (by simp) ?_; intro v' w3 hown' hgrow3 hnil3))
    exact HCP.out _ _ (.slice (some ⟨w.heap.size, 0, none⟩) 0 0) ⟨_, _, rfl⟩ hown' hnil3 (by simp) (Below.grown (belowA (Below.refl _ w) _) hgrow3 (by simp) (fun j hj => by have : w.heap.size = j := Option.some.inj hj; omega))
theorem infoM : (Try.prog.info? 33).map (fun i => (i.zero, i.size, i.bytes)) = some (some (.agg #[.int .i64 0, .string ByteArray.empty, .string ByteArray.empty, .int .i64 0]), 4, 48) := by kernel_rfl
set_option maxHeartbeats 2000000 in
theorem cloneM_c (v : Value) (n : Nat) (cs : List Value) (w : World) (hr : Reads w v n cs) (hfl : cs.length = n * 4) (h1c : ∀ u, u ∈ cs → u.oneCell' = true) (hn : n ≤ 100000) :
    Calls Try.prog 37 #[v] w (CloneP 33 4 v n cs w) := by
  have HCP : Hid (∀ (v' : Value) (w' : World) (s : Value), (∃ ad c, v = .slice (some ad) n c) → w'.ownsRow w.heap.size 33 4 v' (0 + n) ([] ++ cs) → (v' = .slice none 0 0 ↔ s = .slice none 0 0 ∧ n = 0) → s ≠ .slice none 0 0 → Below w.heap.size w w' → CloneP 33 4 v n cs w (.returned v') w') := fun v' w' s h1 h2 h3 h4 h5 => CloneP.some h1 h2 h3 h4 h5
  have HCN : Hid (∀ (c : Nat), v = .slice none 0 c → n = 0 → CloneP 33 4 v n cs w (.returned (.slice none 0 0)) w) := fun c h1 h2 => CloneP.nil h1 h2 hfl
  generalize CloneP 33 4 v n cs w = CP at *
  rcases hr with ⟨rfl, rfl, a, cap, rfl⟩ | ⟨b, off, cap, rfl, h1, h2, h3, h4⟩
  · cases a with
    | none =>
      have qn : ∀ (w : World) (n c : Nat), (binOp .eql 30 (.slice none n c) (.slice none 0 0)).run Try.prog w = .ok (.bool true) w := fun w n c => Lib.run_eql_slice_nil w 30 33 none n c 0 0 Try.underlying30
      clear hn hfl h1c
      go_enter Try.func37, Try.ntmps37
      go_wp2_with (rw [qn])
      exact HCN.out _ rfl trivial
    | some ad =>
      have qn : ∀ (w : World) (n c : Nat), (binOp .eql 30 (.slice (some ad) n c) (.slice none 0 0)).run Try.prog w = .ok (.bool false) w := fun w n c => Lib.run_eql_slice_nil w 30 33 (some ad) n c 0 0 Try.underlying30
      obtain ⟨i0, hi, hz0, hz1, hz2⟩ := info_parts infoM
      clear hn hfl h1c
      go_enter Try.func37, Try.ntmps37
      go_wp2_with (first | (rw [qn]) | (at_builtin; refine wpList_append_own _ rfl _ _ 30 rfl w.heap.size 33 i0 _ 4 48 Try.underlying30 hi hz0 hz1 hz2 rfl (by decide) _ 0 [] rfl (owns_lit (Blk.new _ _ _) (Nat.le_refl _) 4 0 (Nat.zero_mul _).symm (by decide)) ad 0 cap [] rfl (Nat.zero_mul _).symm (fun j u hj => by simp at hj) (fun u hu => by cases hu) (by unfold maxLen; omega) (by omega) (by simp) ?_; intro v' w3 hown' hgrow3 hnil3))
      exact HCP.out _ _ (.slice (some ⟨w.heap.size, 0, none⟩) 0 0) ⟨_, _, rfl⟩ hown' hnil3 (by simp) (Below.grown (belowA (Below.refl _ w) _) hgrow3 (by simp) (fun j hj => by have : w.heap.size = j := Option.some.inj hj; omega))
  · have qn : ∀ (w : World) (n c : Nat), (binOp .eql 30 (.slice (some ⟨b, off, none⟩) n c) (.slice none 0 0)).run Try.prog w = .ok (.bool false) w := fun w n c => Lib.run_eql_slice_nil w 30 33 (some ⟨b, off, none⟩) n c 0 0 Try.underlying30
    have HC := Lib.hid h4
    have HF := Lib.hid hfl
    have H1 := Lib.hid h1c
    obtain ⟨i0, hi, hz0, hz1, hz2⟩ := info_parts infoM
    clear h4 hfl h1c
    go_enter Try.func37, Try.ntmps37
    go_wp2_with (first | (rw [qn]) | (at_builtin; refine wpList_append_own _ rfl _ _ 30 rfl w.heap.size 33 i0 _ 4 48 Try.underlying30 hi hz0 hz1 hz2 rfl (by decide) _ 0 [] rfl (owns_lit (Blk.new _ _ _) (Nat.le_refl _) 4 0 (Nat.zero_mul _).symm (by decide)) ⟨b, off, none⟩ n cap cs rfl HF.out (cells_add (fun j u hj => by rw [(belowA (Below.refl _ w) _).cell (by exact h3)]; exact HC.out j u hj)) H1.out (by unfold maxLen; omega) (by omega) (by simp) ?_; intro v' w3 hown' hgrow3 hnil3))
    exact HCP.out _ _ (.slice (some ⟨w.heap.size, 0, none⟩) 0 0) ⟨_, _, rfl⟩ hown' hnil3 (by simp) (Below.grown (belowA (Below.refl _ w) _) hgrow3 (by simp) (fun j hj => by have : w.heap.size = j := Option.some.inj hj; omega))
end Go.Proofs.Ythcddboeejbncaa
