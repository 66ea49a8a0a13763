/- The laws ZoneFinds, ZoneReaches walked. -/
import Derived.Test.YtplebibabcdipaaZwk
namespace Go.Proofs.Ytplebibabcdipaa
open Go.RowKit

theorem distE_err {n : Net} {r : ZRel} {p : Plc} (h : (distE n r p).2 ≠ 0) : (distE n r p).1 = 0 := by
  unfold distE at h ⊢
  split
  · rfl
  · rename_i hc
    rw [if_neg hc] at h
    split
    · rename_i hd; rw [if_pos hd] at h; exact absurd rfl h
    · rfl
theorem findE_cases (n : Net) (r : ZRel) (p : Plc) : ((distE n r p).2 ≠ 0 ∧ findE n r p = (0, (distE n r p).2) ∧ (distE n r p).1 = 0) ∨
    ((distE n r p).2 = 0 ∧ findE n r p = (0, 8) ∧ ∀ z ∈ r.zones, 1000 * z.reach < (distE n r p).1) ∨
    ((distE n r p).2 = 0 ∧ ∃ (k : Nat) (z : ZSt), findE n r p = ((k : Int), 0) ∧ r.zones[k]? = some z ∧ (distE n r p).1 ≤ 1000 * z.reach ∧ ∀ j y, j < k → r.zones[j]? = some y → 1000 * y.reach < (distE n r p).1) := by
  by_cases h : (distE n r p).2 = 0
  · right
    unfold findE
    rw [if_neg (fun hn => hn h)]
    rcases idxP_range (fun z : ZSt => decide ((distE n r p).1 ≤ 1000 * z.reach)) r.zones 0 with h1 | ⟨k, z, h1, h2, h3, h4⟩
    · left
      refine ⟨h, if_pos (by rw [h1]; decide), fun z hz => ?_⟩
      have hn := (idxP_neg (fun z : ZSt => decide ((distE n r p).1 ≤ 1000 * z.reach)) r.zones 0 (by decide)).2
      have : ¬ (r.zones.any (fun z : ZSt => decide ((distE n r p).1 ≤ 1000 * z.reach)) = true) := fun ha => by have := hn ha; rw [h1] at this; omega
      have hz2 : ¬ ((distE n r p).1 ≤ 1000 * z.reach) := fun hle => this (List.any_eq_true.2 ⟨z, hz, decide_eq_true hle⟩)
      omega
    · right
      refine ⟨h, k, z, ?_, h2, of_decide_eq_true h3, fun j y hj hy => by have := of_decide_eq_false (h4 j y hj hy); omega⟩
      rw [if_neg (by rw [h1]; omega), h1]
      simp
  · left
    exact ⟨h, by unfold findE; rw [if_pos h], distE_err h⟩
theorem timeE_find (n : Net) (r : ZRel) (p : Plc) : (timeE n r p).2 = (findE n r p).2 := by
  unfold timeE
  split
  · rfl
  · rename_i h; have : (findE n r p).2 = 0 := by simpa using h
    rw [this]
theorem zonesE_mono : ∀ (l : List ZSt) (o : Option ZSt), zonesE o l = 0 → (∀ p, o = some p → ∀ z ∈ l, p.delay ≤ z.delay) ∧ ∀ (i k : Nat) a b, i ≤ k → l[i]? = some a → l[k]? = some b → a.delay ≤ b.delay := by
  intro l
  induction l with
  | nil => intro o _; exact ⟨fun p _ z hz => (by cases hz), fun i k a b _ h _ => (by simp at h)⟩
  | cons y ys ih =>
    intro o h
    have key : zonesE (some y) ys = 0 ∧ ∀ p, o = some p → p.delay ≤ y.delay := by
      cases o with
      | none =>
        unfold zonesE at h
        split at h
        · cases h
        · exact ⟨h, fun p hp => by cases hp⟩
      | some p =>
        unfold zonesE at h
        split at h
        · cases h
        · split at h
          · cases h
          · rename_i ho
            refine ⟨h, fun q hq => ?_⟩
            cases hq
            unfold zOrd at ho
            simp only [Bool.or_eq_true, decide_eq_true_eq] at ho
            omega
    obtain ⟨i1, i2⟩ := ih (some y) key.1
    refine ⟨fun p hp z hz => ?_, fun i k a b hik ha hb => ?_⟩
    · rcases List.mem_cons.1 hz with rfl | hz
      · exact key.2 p hp
      · exact Int.le_trans (key.2 p hp) (i1 y rfl z hz)
    · cases k with
      | zero =>
        have : i = 0 := by omega
        subst this
        rw [ha] at hb; cases hb; exact Int.le_refl _
      | succ k =>
        cases i with
        | zero =>
          simp at ha hb
          subst ha
          exact i1 y rfl b (List.mem_of_getElem? hb)
        | succ i => exact i2 i k a b (by omega) (by simpa using ha) (by simpa using hb)
/-- A place that is farther is in no lower zone, and the relay operates no earlier for it. -/
theorem reaches {n : Net} {r : ZRel} {p q : Plc} (h1 : (distE n r p).2 = 0) (h2 : (distE n r q).2 = 0) (hle : (distE n r p).1 ≤ (distE n r q).1) (h3 : (findE n r q).2 = 0) :
    (findE n r p).2 = 0 ∧ (findE n r p).1 ≤ (findE n r q).1 ∧ (timeE n r p).1 ≤ (timeE n r q).1 := by
  rcases findE_cases n r q with ⟨h, _⟩ | ⟨_, h, _⟩ | ⟨_, k, z, hf, hz, hd, _⟩
  · exact absurd h2 h
  · rw [h] at h3; cases h3
  · rcases findE_cases n r p with ⟨h, _⟩ | ⟨_, _, h⟩ | ⟨_, i, y, hg, hy, hdy, hlow⟩
    · exact absurd h1 h
    · have := h z (List.mem_of_getElem? hz); omega
    · have hik : i ≤ k := by
        rcases Nat.lt_or_ge k i with h | h
        · have := hlow k z h hz; omega
        · exact h
      have hm := (zonesE_mono _ _ (distE_ok h1).1.zs).2 i k y z hik hy hz
      refine ⟨by rw [hg], by rw [hg, hf]; show (i : Int) ≤ k; omega, ?_⟩
      unfold timeE
      rw [hg, hf]
      simp [hy, hz]
      exact hm

set_option maxHeartbeats 4000000 in
set_option maxRecDepth 100000 in
theorem zoneFinds_c (x0 : NAddr) (n : Net) (node rbr : ByteArray) (za : Option Addr) (zc : Nat) (zs : List ZSt) (pbr : ByteArray) (part : Int) (w : World) (hr : NetR w x0 n) (hwf : n.Wf) (hz : Reads w (.slice za zs.length zc) zs.length (flat ZSt.cells zs)) :
    Calls Try.prog 5 #[x0.val n, .agg #[.string node, .string rbr, .slice za zs.length zc], .agg #[.string pbr, .int .i64 part]] w fun e w' => e = .returned (.bool true) ∧ Below w.heap.size w w' := by
  have HD := Lib.hid (fun W (hW : Below w.heap.size w W) => dist_c x0 n node rbr pbr za zc zs part W (hr.below hW) hwf (hz.below hW))
  have HF := Lib.hid (fun W (hW : Below w.heap.size w W) => find_c x0 n node rbr pbr za zc zs part W (hr.below hW) hwf (hz.below hW))
  have hcase := findE_cases n ⟨node, rbr, zs⟩ ⟨pbr, part⟩
  have HOK : Hid ((distE n ⟨node, rbr, zs⟩ ⟨pbr, part⟩).2 = 0 → 1 ≤ zs.length ∧ zs.length ≤ 4 ∧ ∀ z ∈ zs, 1 ≤ z.reach ∧ z.reach ≤ 1000000) := fun h => by
    have hro := (distE_ok h).1
    exact ⟨hro.len.1, hro.len.2, fun z hzz => by have := zBad_range (zonesE_ok _ _ hro.zs z hzz); omega⟩
  generalize distE n ⟨node, rbr, zs⟩ ⟨pbr, part⟩ = D at *
  generalize findE n ⟨node, rbr, zs⟩ ⟨pbr, part⟩ = F at *
  obtain ⟨d, dq⟩ := D
  clear hr hwf
  obtain ⟨zn, hzn⟩ : ∃ k, zs.length = k := ⟨_, rfl⟩
  have HZN := Lib.hid hzn
  rw [hzn] at HD HF HOK hz ⊢
  have HZ := Lib.hid hz
  clear hz hzn
  simp only at HD hcase HOK
  obtain ⟨na, nc, sa, sc, ba, bc, ga, gc, la, lc, ta, tc⟩ := x0
  obtain ⟨nl, sws, brs, gens, loads, stores⟩ := n
  simp only [NAddr.val] at HD HF ⊢
  generalize nl.length = nn at *
  generalize sws.length = sn at *
  generalize brs.length = bn at *
  generalize gens.length = gn at *
  generalize loads.length = ln at *
  generalize stores.length = tn at *
  have B1 := belowA (Below.refl w.heap.size w) (.cells #[.slice na nn nc, .slice sa sn sc, .slice ba bn bc, .slice ga gn gc, .slice la ln lc, .slice ta tn tc] 29)
  have K1 := Blk.new w #[.slice na nn nc, .slice sa sn sc, .slice ba bn bc, .slice ga gn gc, .slice la ln lc, .slice ta tn tc] 29
  generalize hW1 : w.alloc (.cells #[.slice na nn nc, .slice sa sn sc, .slice ba bn bc, .slice ga gn gc, .slice la ln lc, .slice ta tn tc] 29) = W1 at *
  have B2 := belowA B1 (.cells #[.string node, .string rbr, .slice za zn zc] 44)
  have K2 := K1.alloc (.cells #[.string node, .string rbr, .slice za zn zc] 44)
  have L2 := Blk.new W1 #[.string node, .string rbr, .slice za zn zc] 44
  generalize hW2 : W1.alloc (.cells #[.string node, .string rbr, .slice za zn zc] 44) = W2 at *
  have B3 := Lib.hid (belowA B2 (.cells #[.string pbr, .int .i64 part] 31))
  have K3 := Lib.hid (K2.alloc (.cells #[.string pbr, .int .i64 part] 31))
  have L3 := Lib.hid (L2.alloc (.cells #[.string pbr, .int .i64 part] 31))
  have M3 := Lib.hid (Blk.new W2 #[.string pbr, .int .i64 part] 31)
  generalize hW3 : W2.alloc (.cells #[.string pbr, .int .i64 part] 31) = W3 at *
  clear B1 K1 B2 K2 L2
  go_enter Try.func5, Try.ntmps5
  go_wp2_with fail
  refine (zoneWorks_c W3).mono ?_; rintro e w4 ⟨rfl, hb4⟩
  have B4 := Lib.hid (belowT B3.out hb4)
  have K4 := Lib.hid (below_blk hb4 K3.out K3.out.lt)
  have L4 := Lib.hid (below_blk hb4 L3.out L3.out.lt)
  have M4 := Lib.hid (below_blk hb4 M3.out M3.out.lt)
  clear hb4 B3 K3 L3 M3
  have x0 := K4.out.cell 0 rfl
  have x1 := K4.out.cell 1 rfl
  have x2 := K4.out.cell 2 rfl
  have x3 := K4.out.cell 3 rfl
  have x4 := K4.out.cell 4 rfl
  have x5 := K4.out.cell 5 rfl
  have r0 := L4.out.cell 0 rfl
  have r1 := L4.out.cell 1 rfl
  have r2 := L4.out.cell 2 rfl
  have p0 := M4.out.cell 0 rfl
  have p1 := M4.out.cell 1 rfl
  go_wp2_with fail
  refine (HD.out _ B4.out).mono ?_; rintro e w5 ⟨rfl, hb4⟩
  clear x0 x1 x2 x3 x4 x5 r0 r1 r2 p0 p1
  have B5 := Lib.hid (belowT B4.out hb4)
  have K5 := Lib.hid (below_blk hb4 K4.out K4.out.lt)
  have L5 := Lib.hid (below_blk hb4 L4.out L4.out.lt)
  have M5 := Lib.hid (below_blk hb4 M4.out M4.out.lt)
  clear hb4 B4 K4 L4 M4
  have B4 := B5
  have K4 := K5
  have L4 := L5
  have M4 := M5
  clear B5 K5 L5 M5
  have x0 := K4.out.cell 0 rfl
  have x1 := K4.out.cell 1 rfl
  have x2 := K4.out.cell 2 rfl
  have x3 := K4.out.cell 3 rfl
  have x4 := K4.out.cell 4 rfl
  have x5 := K4.out.cell 5 rfl
  have r0 := L4.out.cell 0 rfl
  have r1 := L4.out.cell 1 rfl
  have r2 := L4.out.cell 2 rfl
  have p0 := M4.out.cell 0 rfl
  have p1 := M4.out.cell 1 rfl
  go_wp2_with fail
  refine (HF.out _ B4.out).mono ?_; rintro e w6 ⟨rfl, hb4⟩
  clear x0 x1 x2 x3 x4 x5 r0 r1 r2 p0 p1
  have B5 := Lib.hid (belowT B4.out hb4)
  have K5 := Lib.hid (below_blk hb4 K4.out K4.out.lt)
  have L5 := Lib.hid (below_blk hb4 L4.out L4.out.lt)
  have M5 := Lib.hid (below_blk hb4 M4.out M4.out.lt)
  clear hb4 B4 K4 L4 M4
  have B4 := B5
  have K4 := K5
  have L4 := L5
  have M4 := M5
  clear B5 K5 L5 M5
  clear HD HF
  rcases hcase with ⟨h1, h2, h3⟩ | ⟨h1, h2, h3⟩ | ⟨h1, k, z, h2, h3, h4, h5⟩
  · have g1 : (dq != 0) = true := by simp [h1]
    subst h2 h3
    clear h1
    go_wp2_with fail
    go_ret
    exact ⟨rfl, B4.out⟩
  · subst h1 h2
    obtain ⟨n1, n2, n3⟩ := HOK.out rfl
    obtain ⟨q, rfl⟩ : ∃ q, zn = q + 1 := ⟨zn - 1, by omega⟩
    obtain ⟨y, hy⟩ : ∃ y, zs[q]? = some y := ⟨_, List.getElem?_eq_getElem (by rw [HZN.out]; omega)⟩
    have hym := List.mem_of_getElem? hy
    have hyr := n3 y hym
    have hyd := h3 y hym
    obtain ⟨zg, zoff, zcap', zvv, _, _, hzgl, hzc⟩ := (HZ.out.below B4.out).addr (by omega)
    simp only [Value.slice.injEq] at zvv
    obtain ⟨rfl, _, rfl⟩ := zvv
    obtain ⟨d0, d1⟩ := zst_cells hzc hy
    obtain ⟨re, de⟩ := y
    simp only at hyr hyd d0 d1
    have hw := IntWalk.i64_in (1000 * re) (by omega)
    have hw2 : IntKind.i64.wrap (((q + 1 : Nat) : Int) - 1) = (q : Int) := by rw [IntWalk.i64_in _ (by omega)]; omega
    have g2 : decide (1000 * re < d) = true := decide_eq_true hyd
    have hq : q < q + 1 := Nat.lt_succ_self _
    have r2 := L4.out.cell 2 rfl
    clear h3 n3 hzc hy hym
    go_wp2_with fail
    go_ret
    exact ⟨rfl, B4.out⟩
  · subst h1 h2
    obtain ⟨n1, n2, n3⟩ := HOK.out rfl
    have hkz : k < zn := by rw [← HZN.out]; exact (List.getElem?_eq_some_iff.1 h3).1
    have hzr := n3 z (List.mem_of_getElem? h3)
    obtain ⟨zg, zoff, zcap', zvv, _, _, hzgl, hzc⟩ := (HZ.out.below B4.out).addr (by omega)
    simp only [Value.slice.injEq] at zvv
    obtain ⟨rfl, _, rfl⟩ := zvv
    obtain ⟨d0, d1⟩ := zst_cells hzc h3
    obtain ⟨re, de⟩ := z
    simp only at hzr h4 d0 d1
    have hw := IntWalk.i64_in (1000 * re) (by omega)
    have g2 : decide (d ≤ 1000 * re) = true := decide_eq_true h4
    have g3 : decide ((0 : Int) ≤ (k : Int)) = true := decide_eq_true (by omega)
    have g4 : decide ((k : Int) < (zn : Int)) = true := decide_eq_true (by omega)
    have r2 := L4.out.cell 2 rfl
    cases k with
    | zero =>
      simp only [Nat.zero_mul, Nat.add_zero] at d0 d1
      clear h5 n3 hzc h3
      go_wp2_with fail
      go_ret
      exact ⟨rfl, B4.out⟩
    | succ j =>
      obtain ⟨y, hy⟩ : ∃ y, zs[j]? = some y := ⟨_, List.getElem?_eq_getElem (by rw [HZN.out]; omega)⟩
      have hyr := n3 y (List.mem_of_getElem? hy)
      have hyd := h5 j y (Nat.lt_succ_self _) hy
      obtain ⟨e0, e1⟩ := zst_cells hzc hy
      obtain ⟨pe, pd⟩ := y
      simp only at hyr hyd e0 e1
      have hw3 := IntWalk.i64_in (1000 * pe) (by omega)
      have hw2 : IntKind.i64.wrap (((j + 1 : Nat) : Int) - 1) = (j : Int) := by rw [IntWalk.i64_in _ (by omega)]; omega
      have g5 : decide (1000 * pe < d) = true := decide_eq_true hyd
      have g6 : (((j + 1 : Nat) : Int) == 0) = false := by simp; omega
      have hjl : j < zn := by omega
      clear h5 n3 hzc h3 hy
      go_wp2_with fail
      go_ret
      exact ⟨rfl, B4.out⟩
end Go.Proofs.Ytplebibabcdipaa
