/- observe.rank. -/
import Derived.Test.YthcddboeejbncaaPkObs1Obs3
namespace Go.Proofs.Ythcddboeejbncaa
open Go.RowKit

/-- The cells of a row. -/
theorem row_cells {W : World} {rb m : Nat} {f : Nat → Rat} (h : RowM W rb m f) : ∃ xs : List Value, xs.length = m * 3 ∧ (∀ j u, xs[j]? = some u → W.cell? ⟨rb, 0 + j, none⟩ = some u) ∧ (∀ u, u ∈ xs → u.oneCell' = true) ∧
    ∀ c, c < m → ∃ ng vn vd, xs[3 * c]? = some (.bool ng) ∧ xs[3 * c + 1]? = some vn ∧ xs[3 * c + 2]? = some vd ∧ QC W ng vn vd (f c) := by
  obtain ⟨cur, h1, _, h3, h4⟩ := h
  have hx : ∀ j, j < m * 3 → (cur.toList.take (m * 3))[j]? = cur[j]? := fun j hj => by rw [List.getElem?_take_of_lt hj, Array.getElem?_toList]
  refine ⟨cur.toList.take (m * 3), by rw [List.length_take, Array.length_toList]; omega, fun j u hj => ?_, fun u hu => ?_, fun c hc => ?_⟩
  · obtain ⟨hl, _⟩ := List.getElem?_eq_some_iff.1 hj
    rw [List.length_take] at hl
    rw [hx j (by omega)] at hj
    rw [Nat.zero_add]; exact h1.cell j hj
  · obtain ⟨j, hj⟩ := List.mem_iff_getElem?.1 hu
    obtain ⟨hl, _⟩ := List.getElem?_eq_some_iff.1 hj
    rw [List.length_take] at hl
    rw [hx j (by omega)] at hj
    obtain ⟨ng, vn, vd, e1, e2, e3, e4⟩ := h4 (j / 3) (by omega)
    obtain ⟨na, nc, da, dl, dc, rfl, rfl, _⟩ := e4.parts
    have hj3 : 3 * (j / 3) = j ∨ 3 * (j / 3) + 1 = j ∨ 3 * (j / 3) + 2 = j := by omega
    rcases hj3 with e | e | e
    · rw [e, hj] at e1; rw [Option.some.inj e1]; rfl
    · rw [e, hj] at e2; rw [Option.some.inj e2]; rfl
    · rw [e, hj] at e3; rw [Option.some.inj e3]; rfl
  · obtain ⟨ng, vn, vd, e1, e2, e3, e4⟩ := h4 c hc
    exact ⟨ng, vn, vd, by rw [hx _ (by omega)]; exact e1, by rw [hx _ (by omega)]; exact e2, by rw [hx _ (by omega)]; exact e3, e4⟩
theorem row_of_owns {W : World} {base b m cap : Nat} {xs : List Value} {f : Nat → Rat} (h : W.ownsRow base 80 3 (.slice (some ⟨b, 0, none⟩) m cap) m xs)
    (he : ∀ c, c < m → ∃ ng vn vd, xs[3 * c]? = some (.bool ng) ∧ xs[3 * c + 1]? = some vn ∧ xs[3 * c + 2]? = some vd ∧ QC W ng vn vd (f c)) : base ≤ b ∧ m ≤ cap ∧ RowM W b m f := by
  rcases h.2 with ⟨e, _⟩ | ⟨g, cap', cur, e, e2, e3, e4, _, e6, e7⟩
  · simp at e
  · simp only [Value.slice.injEq, Option.some.injEq, Addr.mk.injEq, and_true, true_and] at e
    obtain ⟨rfl, rfl⟩ := e
    have hx : ∀ j, j < m * 3 → xs[j]? = cur[j]? := fun j hj => by rw [← e7, List.getElem?_take_of_lt hj, Array.getElem?_toList]
    refine ⟨e2, e4, cur, e3, trivial, by rw [e6]; omega, fun c hc => ?_⟩
    obtain ⟨ng, vn, vd, h1, h2, h3, h4⟩ := he c hc
    exact ⟨ng, vn, vd, by rw [← hx _ (by omega)]; exact h1, by rw [← hx _ (by omega)]; exact h2, by rw [← hx _ (by omega)]; exact h3, h4⟩
theorem cloneRow_c (rb m rc : Nat) (f : Nat → Rat) (w : World) (h : RowM w rb m f) (hrc : m ≤ rc) (hm : m ≤ 1000) :
    Calls Try.prog 46 #[.slice (some ⟨rb, 0, none⟩) m rc] w fun e w' => (∃ b c', e = .returned (.slice (some ⟨b, 0, none⟩) m c') ∧ w.heap.size ≤ b ∧ m ≤ c' ∧ RowM w' b m f) ∧ Below w.heap.size w w' := by
  obtain ⟨xs, h1, h2, h3, h4⟩ := row_cells h
  refine (cloneQ_c _ m xs w (Or.inr ⟨rb, 0, rc, rfl, hrc, by omega, h.lt, h2⟩) h1 h3 (by omega)).mono ?_
  rintro e w' ⟨u, rfl, ho, hu, hb⟩
  rcases hu with ⟨c, hc, _⟩ | ⟨_, _, b, c', _, rfl⟩
  · simp at hc
  · obtain ⟨k1, k2, k3⟩ := row_of_owns (f := f) ho (fun c hc => by
      obtain ⟨ng, vn, vd, e1, e2, e3, e4⟩ := h4 c hc
      exact ⟨ng, vn, vd, e1, e2, e3, e4.below hb⟩)
    exact ⟨⟨b, c', rfl, k1, k2, k3⟩, hb⟩
/-- An own list of own rows, all of them in blocks from base on and below s. -/
def GD (base s : Nat) (W : World) (v : Value) (m : Nat) (g : List (Nat → Rat)) : Prop := ∃ rs, W.ownsRow base 76 1 v g.length (rs.map (rowCell m)) ∧ RL W m rs g ∧ (∀ r ∈ rs, base ≤ r.1 ∧ r.1 < s) ∧ (rs.map (·.1)).Nodup
theorem GD.nil (base s : Nat) (W : World) (m : Nat) : GD base s W (.slice none 0 0) m [] := ⟨[], ⟨rfl, Or.inl ⟨rfl, rfl⟩⟩, RL.nil W m, fun _ h => by simp at h, by simp⟩
theorem GD.slice {base s : Nat} {W : World} {v : Value} {m : Nat} {g : List (Nat → Rat)} (h : GD base s W v m g) : ∃ a c, v = .slice a g.length c := by
  obtain ⟨rs, h1, _⟩ := h
  exact row_slice h1
theorem GD.below {base s : Nat} {W W' : World} {v : Value} {m : Nat} {g : List (Nat → Rat)} (h : GD base s W v m g) (k : Below W.heap.size W W') : GD base s W' v m g := by
  obtain ⟨rs, h1, h2, h3, h4⟩ := h
  exact ⟨rs, ownsRow_below h1 k, h2.below k, h3, h4⟩
theorem GD.mono {base s s' : Nat} {W : World} {v : Value} {m : Nat} {g : List (Nat → Rat)} (h : GD base s W v m g) (hs : s ≤ s') : GD base s' W v m g := by
  obtain ⟨rs, h1, h2, h3, h4⟩ := h
  exact ⟨rs, h1, h2, fun r hr => ⟨(h3 r hr).1, Nat.lt_of_lt_of_le (h3 r hr).2 hs⟩, h4⟩
theorem GD.app {base s s' : Nat} {W : World} {v : Value} {m : Nat} {g : List (Nat → Rat)} {r : Nat × Nat} {f : Nat → Rat} {xb : Nat} (h : GD base s W v m g) (hb : base ≤ W.heap.size) (hx : Blk W xb #[rowCell m r] 76) (hr : m ≤ r.2) (hf : RowM W r.1 m f) (hl : g.length ≤ 100000) (hbs : base ≤ s) (h1 : s ≤ r.1) (h2 : r.1 < s') :
    ∃ v' W', (∀ ty, (Builtin.append_ #[73, 73] ty #[v, .slice (some ⟨xb, 0, none⟩) 1 1]).run Try.prog W = .ok v' W') ∧ GD base s' W' v' m (g ++ [f]) ∧ Below base W W' := by
  obtain ⟨i0, hi0, hz0, hz1, hz2⟩ := info_parts infoG
  obtain ⟨rs, g1, g2, g3, g4⟩ := h
  obtain ⟨v', W', a1, a2, a3, a4⟩ := own_app Try.underlying73 hi0 hz0 hz1 hz2 rfl (by decide) g1 hb (news := [rowCell m r]) hx rfl (fun u hu => by rw [List.mem_singleton] at hu; subst hu; rfl) hl (by decide)
  refine ⟨v', W', a1, ⟨rs ++ [r], ?_, (g2.snoc hr hf).grown g1 a4, fun x hx => ?_, ?_⟩, a3⟩
  · rw [List.length_append, List.map_append]; exact a2
  · rcases List.mem_append.1 hx with hx | hx
    · have := g3 x hx; omega
    · rw [List.mem_singleton] at hx; subst hx; omega
  · rw [List.map_append, List.nodup_append]
    refine ⟨g4, by simp, fun a ha b hb' => ?_⟩
    obtain ⟨x, hx, rfl⟩ := List.mem_map.1 ha
    simp only [List.map_singleton, List.mem_singleton] at hb'
    have := g3 x hx
    omega
/-- As a matrix of the call's own. -/
theorem GD.gm {base s : Nat} {W : World} {v : Value} {m : Nat} {g : List (Nat → Rat)} (h : GD base s W v m g) (hg : 0 < g.length) (hm : m ≤ 1000) : ∃ gb gc rb rc, v = .slice (some ⟨gb, 0, none⟩) g.length gc ∧ GM W base gb g.length m rb rc (fun i => g.getD i (fun _ => 0)) := by
  obtain ⟨rs, h1, h2, h3, h4⟩ := h
  rcases h1.2 with ⟨_, e⟩ | ⟨gb, cap, cur, e, e2, e3, e4, _, e6, e7⟩
  · omega
  · have hx : ∀ i, i < g.length → cur[i]? = (rs.map (rowCell m))[i]? := fun i hi => by rw [← e7, List.getElem?_take_of_lt (by omega), Array.getElem?_toList]
    have hr : ∀ i, i < g.length → ∃ r, rs[i]? = some r ∧ rs.getD i (0, 0) = r := fun i hi => by
      have hi' : i < rs.length := by rw [h2.1]; exact hi
      exact ⟨rs[i], List.getElem?_eq_getElem hi', by simp [hi']⟩
    refine ⟨gb, cap, fun i => (rs.getD i (0, 0)).1, fun i => (rs.getD i (0, 0)).2, e, ⟨⟨cur, e3, trivial, by rw [e6]; omega, fun i hi => ?_⟩, e2, fun i hi => ?_, fun i j hi hj hij he => ?_, fun i hi => ?_, by omega⟩⟩
    · obtain ⟨r, hr1, hr2⟩ := hr i hi
      rw [hx i hi, List.getElem?_map, hr1, hr2]; rfl
    · obtain ⟨r, hr1, hr2⟩ := hr i hi
      have hgi : g[i]? = some g[i] := List.getElem?_eq_getElem hi
      obtain ⟨k1, k2⟩ := h2.2 i r _ hr1 hgi
      rw [hr2]
      exact ⟨(h3 r (List.mem_of_getElem? hr1)).1, rb_ne k2 (show Blk W gb cur _ from e3), k1⟩
    · obtain ⟨r, hr1, hr2⟩ := hr i hi
      obtain ⟨r', hr1', hr2'⟩ := hr j hj
      rw [hr2, hr2'] at he
      have hi1 : (rs.map (·.1))[i]? = some r.1 := by rw [List.getElem?_map, hr1]; rfl
      have hj1 : (rs.map (·.1))[j]? = some r.1 := by rw [List.getElem?_map, hr1', he]; rfl
      obtain ⟨hil, hie⟩ := List.getElem?_eq_some_iff.1 hi1
      obtain ⟨hjl, hje⟩ := List.getElem?_eq_some_iff.1 hj1
      rcases Nat.lt_or_gt_of_ne hij with hlt | hlt
      · exact (List.pairwise_iff_getElem.1 h4) i j hil hjl hlt (hie.trans hje.symm)
      · exact (List.pairwise_iff_getElem.1 h4) j i hjl hil hlt (hje.trans hie.symm)
    · obtain ⟨r, hr1, hr2⟩ := hr i hi
      have hgi : g[i]? = some g[i] := List.getElem?_eq_getElem hi
      obtain ⟨k1, k2⟩ := h2.2 i r _ hr1 hgi
      rw [hr2, show g.getD i (fun _ => 0) = g[i] by simp [hi]]; exact k2
theorem rankL_nil (w : Nat) : Lin.rankL w [] = 0 := by have := (Lin.rankL_le w []).2; simpa using this
theorem rankL_zero (g : List (Nat → Rat)) : Lin.rankL 0 g = 0 := by have := (Lin.rankL_le 0 g).1; omega
set_option maxRecDepth 100000 in
set_option maxHeartbeats 4000000 in
theorem rank_c (v : Value) (m s : Nat) (g : List (Nat → Rat)) (w : World) (hv : GV w v m g) (hm : m ≤ 1000) (hl : g.length ≤ 1000) (hs : ∀ f ∈ g, ∀ c, c < m → sz (f c) ≤ s) (hs5 : 5 ^ (min g.length m) * s ≤ 1000000000000) :
    Calls Try.prog 30 #[v, .int .i64 (m : Int)] w fun e w' => e = .returned (.int .i64 (Lin.rankL m g)) ∧ Below w.heap.size w w' := by
  have HCL := Lib.hid (fun rb rc f W (h : RowM W rb m f) (hrc : m ≤ rc) => cloneRow_c rb m rc f W h hrc hm)
  obtain ⟨a, cap, rfl⟩ : ∃ a c, v = .slice a g.length c := by
    obtain ⟨rs, h1, _⟩ := hv
    exact h1.slice
  obtain ⟨N, hN⟩ : ∃ n, g.length = n := ⟨_, rfl⟩
  have HN := Lib.hid hN
  have HV := Lib.hid hv
  rw [hN] at hl hs5 HV ⊢
  have HS5 := Lib.hid hs5
  have HS := Lib.hid hs
  have HR0 : Hid (∀ k, k = N → (k = 0 ∨ m = 0) → (Lin.rankL m g : Nat) = 0) := fun k hk h => by
    rcases h with h | h
    · have : g = [] := List.eq_nil_of_length_eq_zero (by rw [hN]; omega)
      rw [this]; exact rankL_nil m
    · rw [h]; exact rankL_zero g
  have HRE : Hid (Lin.rankL m g = (echE N m (fun i => g.getD i (fun _ => 0))).2.length) := by show _ = _; unfold Lin.rankL; rw [hN]
  generalize Lin.rankL m g = RK at *
  clear hv hN hs hs5
  go_enter Try.func30, Try.ntmps30
  go_wp2_with fail
  go_loopw [10, 5] (fun i ov wr => ∃ k : Nat, k ≤ N ∧ i = .int .i64 k ∧ Hid (GD w.heap.size wr.heap.size wr ov m (g.take k)) ∧ Hid (Below w.heap.size w wr)) (fun i _ _ => N - (intOf i).toNat)
  case atStart => exact ⟨0, Nat.zero_le _, rfl, GD.nil _ _ _ _, Below.refl _ _⟩
  case round =>
    obtain ⟨k, hk, rfl, ho, hb⟩ := hrel
    obtain ⟨oa, oc, rfl⟩ := ho.out.slice
    have hkl : (g.take k).length = k := by rw [List.length_take, HN.out]; omega
    rw [hkl] at ho ⊢
    by_cases hlt : k < N
    · obtain ⟨x, hx⟩ : ∃ x, g[k]? = some x := ⟨_, List.getElem?_eq_getElem (by rw [HN.out]; exact hlt)⟩
      have HTK : Hid (g.take (k + 1) = g.take k ++ [x]) := by
        show _ = _
        obtain ⟨h1, h2⟩ := List.getElem?_eq_some_iff.1 hx
        rw [List.take_succ_eq_append_getElem h1, h2]
      obtain ⟨b1, off1, cap1, rb, rc, hvv, hbl, x0, hrc, hrow⟩ := (HV.out.below hb.out).at hx
      simp only [Value.slice.injEq] at hvv
      obtain ⟨rfl, hnn, rfl⟩ := hvv
      clear hnn
      have HC := Lib.hid (HCL.out rb rc x wr hrow hrc)
      clear hx hrow HCL
      go_wp2_with fail
      refine HC.out.mono ?_; rintro e w5 ⟨⟨b, c', rfl, hbs, hmc, hr5⟩, hb5⟩
      have O6 := (ho.out.below hb5).below (belowA (Below.refl _ _) (.cells #[.slice (some ⟨b, 0, none⟩) m c'] 76))
      have B7 := (hb.out.trans (hb5.mono hb.out.size)).alloc (Nat.le_trans hb.out.size hb5.size) (.cells #[.slice (some ⟨b, 0, none⟩) m c'] 76)
      have hr6 := hr5.below (belowA (Below.refl _ _) (.cells #[.slice (some ⟨b, 0, none⟩) m c'] 76))
      obtain ⟨v7, W7, hr7, ho7, hb7⟩ := O6.app (r := (b, c')) (f := x) (s' := (w5.alloc (.cells #[.slice (some ⟨b, 0, none⟩) m c'] 76)).heap.size) B7.size (Blk.new w5 _ _) hmc hr6 (by rw [hkl]; omega) hb.out.size hbs hr6.lt
      have H7 : Hid (∀ ty, (Builtin.append_ #[73, 73] ty #[.slice oa k oc, .slice (some ⟨w5.heap.size, 0, none⟩) 1 1]).run Try.prog (w5.alloc (.cells #[.slice (some ⟨b, 0, none⟩) m c'] 76)) = .ok v7 W7) := hr7
      have O7 := Lib.hid (ho7.mono hb7.size)
      have C7 := Lib.hid (B7.trans hb7)
      clear hr7 ho7 hb7 O6 B7 hbs hmc hr5 hr6 hb5 HC ho hb x0 hrc
      go_wp2_with (at_builtin; refine wpList_append_told rfl (.tmp 14) (.tmp 17) 73 rfl _ _ rfl rfl _ W7 (H7.out _) ?_)
      go_roundw
      case rel => exact ⟨k + 1, hlt, by go_num, by rw [HTK.out]; exact O7.out, C7.out⟩
      case measure => simp [intOf]; omega
    · obtain rfl : k = N := by omega
      have hT : g.take k = g := List.take_of_length_le (by rw [HN.out]; exact Nat.le_refl _)
      rw [hT] at ho
      have HO := Lib.hid ho.out
      have HB := Lib.hid hb.out
      clear ho hb HCL
      by_cases hk0 : k = 0
      · have HR := Lib.hid (HR0.out k rfl (Or.inl hk0))
        have q1 : ((k : Int) == 0) = true := by rw [beq_iff_eq]; omega
        clear hk0 HR0 HN
        go_wp2_with fail
        go_ret
        exact ⟨by rw [HR.out]; rfl, HB.out⟩
      · have q1 : ((k : Int) == 0) = false := by rw [beq_eq_false_iff_ne]; omega
        by_cases hm0 : m = 0
        · have HR := Lib.hid (HR0.out k rfl (Or.inr hm0))
          have q2 : ((m : Int) == 0) = true := by rw [beq_iff_eq]; omega
          clear hk0 hm0 HR0 HN
          go_wp2_with fail
          go_ret
          exact ⟨by rw [HR.out]; rfl, HB.out⟩
        · have q2 : ((m : Int) == 0) = false := by rw [beq_eq_false_iff_ne]; omega
          have hkp : 0 < k := by omega
          have h1 := HO.out
          obtain ⟨gb, gc, rb, rc, hv, hgm⟩ := h1.gm (by rw [HN.out]; exact hkp) hm
          rw [HN.out] at hv hgm
          simp only [Value.slice.injEq] at hv
          obtain ⟨rfl, _, rfl⟩ := hv
          have HE := Lib.hid (ech_c w.heap.size gb oc k m m s rb rc _ wr hgm (Nat.le_refl _) (by omega) (by omega) (fun i c hi hc => by
            have hi' : i < g.length := by rw [HN.out]; exact hi
            rw [show g.getD i (fun _ => 0) = g[i] by simp [hi']]
            exact HS.out _ (List.getElem_mem _) c hc) HS5.out)
          have HRB : Hid (∀ b, (b = gb ∨ RS rb k b) → w.heap.size ≤ b) := fun b hb => by
            rcases hb with rfl | ⟨i, hi, rfl⟩
            · exact hgm.gbase
            · exact (hgm.rbase i hi).1
          clear hk0 hm0 HR0 HN h1 hgm HS HS5 hkp
          go_wp2_with fail
          refine HE.out.mono ?_; rintro e w8 ⟨v8, rb', rc', rfl, hir, _, hbs⟩
          obtain ⟨a8, c8, rfl⟩ := row_slice (show w8.ownsRow wr.heap.size 3 1 _ _ _ from hir)
          have HB8 := Lib.hid (HB.out.trans (hbs.toBelow HRB.out HB.out.size))
          clear hir hbs HE
          go_wp2_with fail
          go_ret
          exact ⟨by rw [HRE.out]; rfl, HB8.out⟩
end Go.Proofs.Ythcddboeejbncaa
