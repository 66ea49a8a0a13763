/- observe.Areas: the closure that tells whether two buses are in one area. -/
import Derived.Test.YthcddboeejbncaaPkObs7LinO
import Derived.Deep.QuietTactic
import Derived.BigQuiet
namespace Go.Proofs.Ythcddboeejbncaa
open Go.RowKit

/-- The difference of two buses. -/
def dV (i k : Nat) : Nat → Rat := setR (setR (fun _ => 0) i ((1 : Int) : Rat)) k ((-1 : Int) : Rat)
def dRow (n : Net) (i k : Nat) : Nat → Rat := selR (dV i k) (freeE n)
def sameE (n : Net) (l : List MIt) (i k : Nat) : Bool := ((islandsE n).getD i 0 == (islandsE n).getD k 0) && decide (Lin.rankL (freeE n).length (rowsE n l ++ [dRow n i k]) = rankE n l)
theorem dRow_sz (n : Net) (i k c : Nat) : sz (dRow n i k c) ≤ 2000 := by
  unfold dRow selR dV setR
  have h1 := sz_i 1 (by decide) (by decide)
  have h2 := sz_i (-1) (by decide) (by decide)
  have h3 := sz_zero
  show sz (if _ then _ else if _ then _ else 0) ≤ _
  split
  · omega
  · split
    · omega
    · omega
theorem some_ne (a : Addr) (n c : Nat) : ∀ k c', Value.slice (some a) n c = .slice none k c' → c' = 0 := fun _ _ h => by simp at h
/-- A list of one row that a literal has just made. -/
theorem GV.one {w : World} {b m : Nat} {f : Nat → Rat} (h : RowM w b m f) (o : Obj) : GV ((w.alloc (.cells #[.slice (some ⟨b, 0, none⟩) m m] 76)).alloc o) (.slice (some ⟨w.heap.size, 0, none⟩) 1 1) m [f] := by
  have k := (Blk.new w #[.slice (some ⟨b, 0, none⟩) m m] 76).alloc o
  refine ⟨[(b, m)], Or.inr ⟨w.heap.size, 0, 1, rfl, Nat.le_refl _, by simp, k.lt, fun j u hj => ?_⟩, rfl, fun j r f' h1 h2 => ?_⟩
  · rw [Nat.zero_add]
    exact k.cell j (by rw [← Array.getElem?_toList]; exact hj)
  · cases j with
    | zero => simp at h1 h2; subst h1; subst h2; exact ⟨Nat.le_refl _, h.below (belowA (belowA (Below.refl _ _) _) _)⟩
    | succ j => simp at h1
set_option maxRecDepth 100000 in
set_option maxHeartbeats 8000000 in
theorem same_c (n : Net) (l : List MIt) (i k tb gb fb wb hb N gl : Nat) (bua ia ga fa : Option Addr) (bun bub ic gc fc : Nat) (w : World) (hok : netE n = 0) (hmi : ∀ m ∈ l, itemE n m = 0) (hn : n.nodes.length ≤ 8) (hl : l.length ≤ 64)
    (hN : (islandsE n).length = N) (hi : i < N) (hk : k < N) (hv : IVal w (.slice ia N ic) (islandsE n)) (hg : GV w (.slice ga gl gc) (freeE n).length (rowsE n l)) (hgn : ∀ k c, Value.slice ga gl gc = .slice none k c → c = 0) (hf : IVal w (.slice fa (freeE n).length fc) (freeE n))
    (hB : Hid (Blk w tb #[.slice bua bun bub, .slice ia N ic] 47 ∧ Blk w gb #[.slice ga gl gc] 73 ∧ Blk w fb #[.slice fa (freeE n).length fc] 39 ∧ Blk w wb #[.int .i64 ((freeE n).length : Int)] 3 ∧ Blk w hb #[.int .i64 (rankE n l : Int)] 3)) :
    Calls Try.prog 33 #[.int .i64 (i : Int), .int .i64 (k : Int), .pointer (some ⟨tb, 0, none⟩), .pointer (some ⟨gb, 0, none⟩), .pointer (some ⟨fb, 0, none⟩), .pointer (some ⟨wb, 0, none⟩), .pointer (some ⟨hb, 0, none⟩)] w fun e w' => e = .returned (.bool (sameE n l i k)) ∧ Below w.heap.size w w' := by
  have hil8 := il_le (netE_ok hok)
  have HRO := Lib.hid (fun g C W (h1 : RowM W g N C) (h2 : IVal W (.slice fa (freeE n).length fc) (freeE n)) => orow_c g N C (.slice fa (freeE n).length fc) (freeE n) W h1 h2 (by rw [← hN]; exact freeL_ok _) (by have := freeL_len (islandsE n); unfold freeE; omega))
  have HCN := Lib.hid (fun b v1 v2 g2 W (h0 : Blk W b #[v1, v2] 73) (h1 : GV W v1 (freeE n).length (rowsE n l)) (h2 : GV W v2 (freeE n).length g2) (hn1 : ∀ k c, v1 = .slice none k c → c = 0) (hn2 : ∀ k c, v2 = .slice none k c → c = 0) (hl2 : g2.length ≤ 10000) => concat_c b (freeE n).length v1 v2 (rowsE n l) g2 W h0 h1 h2 hn1 hn2 (by rw [rowsE_len]; omega) hl2)
  have HRK := Lib.hid (fun v W (hv : GV W v (freeE n).length (rowsE n l ++ [dRow n i k])) => rankSub_c n l (rowsE n l ++ [dRow n i k]) v W hok hmi hn (by rw [List.length_append, rowsE_len]; simp; omega) (fun f hf => by
    rcases List.mem_append.1 hf with h | h
    · exact Or.inl h
    · rw [List.mem_singleton] at h; subst h; exact Or.inr (fun c _ => dRow_sz n i k c)) hv)
  have HSE : Hid (sameE n l i k = (((islandsE n).getD i 0 == (islandsE n).getD k 0) && decide (Lin.rankL (freeE n).length (rowsE n l ++ [dRow n i k]) = rankE n l))) := rfl
  have HDR : Hid (dRow n i k = selR (setR (setR (fun _ => 0) i ((1 : Int) : Rat)) k ((-1 : Int) : Rat)) (freeE n)) := rfl
  have HGN := Lib.hid hgn
  have HG := Lib.hid hg
  have HF := Lib.hid hf
  obtain ⟨ib, io, rfl, hib, hxi, hxk⟩ : ∃ ib io, ia = some ⟨ib, io, none⟩ ∧ ib < w.heap.size ∧ w.cell? ⟨ib, io + i, none⟩ = some (.int .i64 ((islandsE n).getD i 0)) ∧ w.cell? ⟨ib, io + k, none⟩ = some (.int .i64 ((islandsE n).getD k 0)) := by
    obtain ⟨b, off, cap, e, _, _, h1, h2⟩ := (show Reads w (.slice ia N ic) (islandsE n).length (ints (islandsE n)) from hv).addr (by omega)
    simp only [Value.slice.injEq] at e
    exact ⟨b, off, e.1, h1, h2 i _ (ints_get (by omega)), h2 k _ (ints_get (by omega))⟩
  obtain ⟨xi, hxi'⟩ : ∃ x, (islandsE n).getD i 0 = x := ⟨_, rfl⟩
  obtain ⟨xk, hxk'⟩ : ∃ x, (islandsE n).getD k 0 = x := ⟨_, rfl⟩
  rw [hxi'] at hxi HSE
  rw [hxk'] at hxk HSE
  have HXI := Lib.hid hxi
  have HXK := Lib.hid hxk
  have HGO : Hid (∀ b W v, GO b W v (freeE n).length (rowsE n l ++ [dRow n i k]) → GV W v (freeE n).length (rowsE n l ++ [dRow n i k])) := fun b W v h => h.reads (by rw [List.length_append, rowsE_len]; simp; omega)
  generalize sameE n l i k = SE at *
  generalize rankE n l = RK at *
  generalize rowsE n l = G at *
  generalize hdr : dRow n i k = DR at *
  clear hdr
  obtain ⟨FE, hFE⟩ : ∃ f, freeE n = f := ⟨_, rfl⟩
  rw [hFE] at HRO HCN HRK HDR HF HG hB HSE HGO
  obtain ⟨FL, hFL⟩ : ∃ f, FE.length = f := ⟨_, rfl⟩
  rw [hFL] at HRO HCN HRK HG hB HSE HGO
  have HF2 : Hid (Reads w (.slice fa FL fc) FL (ints FE)) := by show Reads _ _ _ _; have h : Reads w (.slice fa FE.length fc) FE.length (ints FE) := HF.out; rw [hFL] at h; exact h
  have HMK := make_qs N (by omega)
  have R0 := Lib.hid (RowM.zero w N)
  have B0 := Lib.hid (belowA (Below.refl w.heap.size w) (.cells (madeCells #[.bool false, .slice none 0 0, .slice none 0 0] (N * 3)) 80))
  have c1 := hB.out.1.cell 1 rfl
  have HINT1 := Lib.hid (fun W => int_c 1 W (by omega) (by omega))
  have HINT2 := Lib.hid (fun W => int_c (-1) W (by omega) (by omega))
  have htb := hB.out.1.lt
  have hN24 : N ≤ 24 := by omega
  clear hv hg hgn hf hok hmi hl hil8 hN hxi hxk hxi' hxk' hFE HF hn
  go_enter Try.func33, Try.ntmps33
  go_upto_region 2 with (rw [HMK])
  generalize hw1 : w.alloc (.cells (madeCells #[.bool false, .slice none 0 0, .slice none 0 0] (N * 3)) 80) = w1 at *
  clear hw1
  obtain ⟨p, hp⟩ : ∃ p, w.heap.size = p := ⟨_, rfl⟩
  have HP := Lib.hid hp
  rw [hp] at R0 ⊢
  clear hp c1 htb
  go_wp2_with fail
  refine (HINT1.out w1).mono ?_; rintro e w2 ⟨⟨v2, rfl, hq2⟩, hb2⟩
  obtain ⟨n2, na2, nl2, nc2, da2, dl2, dc2, rfl, h2⟩ := hq2.op
  have H2 := Lib.hid h2
  have B2 := Lib.hid (belowT B0.out hb2)
  have R2 := Lib.hid (R0.out.below hb2)
  clear hb2 hq2 h2 HINT1 R0 B0
  go_wp2_with fail
  refine (HINT2.out w2).mono ?_; rintro e w3 ⟨⟨v3, rfl, hq3⟩, hb3⟩
  obtain ⟨n3, na3, nl3, nc3, da3, dl3, dc3, rfl, h3⟩ := hq3.op
  have H3 := Lib.hid h3
  have H23 := Lib.hid (H2.out.below hb3)
  have B3 := Lib.hid (belowT B2.out hb3)
  have R3 := Lib.hid (R2.out.below hb3)
  clear hb3 hq3 h3 HINT2 R2 B2 H2
  obtain ⟨_, _, _, _, _, _, _, z0, z1, z2, _⟩ := R3.out.ent hi
  have f0 := R3.out.free (i * 3)
  have f1 := R3.out.free (i * 3 + 1)
  have f2 := R3.out.free (i * 3 + 2)
  have R4 := R3.out.put hi H23.out
  obtain ⟨cur3, hcur3⟩ := R3.out.blk
  have Q4 := H3.out.keepT hcur3 (by decide) (but_putQ w3 p (i * 3) n2 (.slice na2 nl2 nc2) (.slice da2 dl2 dc2))
  obtain ⟨_, _, _, _, _, _, _, y0, y1, y2, _⟩ := R4.ent hk
  have g0 := R4.free (k * 3)
  have g1 := R4.free (k * 3 + 1)
  have g2 := R4.free (k * 3 + 2)
  have R5 := Lib.hid (R4.put hk Q4)
  have hpl := R3.out.lt
  have hge : w.heap.size ≤ p := by rw [HP.out]; exact Nat.le_refl _
  have B5 := Lib.hid ((((((B3.out.setCell (p := ⟨p, i * 3, none⟩) hge (.bool n2)).setCell (p := ⟨p, i * 3 + 1, none⟩) hge (.slice na2 nl2 nc2)).setCell (p := ⟨p, i * 3 + 2, none⟩) hge (.slice da2 dl2 dc2)).setCell (p := ⟨p, k * 3, none⟩) hge (.bool n3)).setCell (p := ⟨p, k * 3 + 1, none⟩) hge (.slice na3 nl3 nc3)).setCell (p := ⟨p, k * 3 + 2, none⟩) hge (.slice da3 dl3 dc3))
  unfold putQ at y0 y1 y2 g0 g1 g2
  clear R4 Q4 hcur3 H3 H23 hge B3 R3
  go_upto_region 3 with fail
  obtain ⟨w5, hw5⟩ : ∃ W, putQ (putQ w3 p (i * 3) n2 (.slice na2 nl2 nc2) (.slice da2 dl2 dc2)) p (k * 3) n3 (.slice na3 nl3 nc3) (.slice da3 dl3 dc3) = W := ⟨_, rfl⟩
  rw [hw5] at R5
  unfold putQ at hw5
  rw [hw5] at B5 ⊢
  clear hw5 y0 y1 y2 g0 g1 g2 z0 z1 z2 f0 f1 f2 hpl
  have HSC : Hid (∀ W, Below w5.heap.size w5 W → (W.cell? ⟨tb, 1, none⟩ = some (.slice (some ⟨ib, io, none⟩) N ic) ∧ W.cell? ⟨ib, io + i, none⟩ = some (.int .i64 xi) ∧ W.cell? ⟨ib, io + k, none⟩ = some (.int .i64 xk) ∧ W.cell? ⟨gb, 0, none⟩ = some (.slice ga gl gc) ∧ W.cell? ⟨fb, 0, none⟩ = some (.slice fa FL fc) ∧ W.cell? ⟨wb, 0, none⟩ = some (.int .i64 (FL : Int)) ∧ W.cell? ⟨hb, 0, none⟩ = some (.int .i64 (RK : Int)))) := fun W hW => by
    have hA := belowT B5.out hW
    obtain ⟨k1, k2, k3, k4, k5⟩ := hB
    exact ⟨(below_blk hA k1 k1.lt).cell 1 rfl, (hA.cell (p := ⟨ib, io + i, none⟩) hib).trans HXI.out, (hA.cell (p := ⟨ib, io + k, none⟩) hib).trans HXK.out, (below_blk hA k2 k2.lt).cell 0 rfl, (below_blk hA k3 k3.lt).cell 0 rfl, (below_blk hA k4 k4.lt).cell 0 rfl, (below_blk hA k5 k5.lt).cell 0 rfl⟩
  have HLT : Hid (tb < w5.heap.size ∧ ib < w5.heap.size ∧ gb < w5.heap.size ∧ fb < w5.heap.size ∧ wb < w5.heap.size ∧ hb < w5.heap.size) := by
    obtain ⟨k1, k2, k3, k4, k5⟩ := hB
    have hs := B5.out.size
    exact ⟨Nat.lt_of_lt_of_le k1.lt hs, Nat.lt_of_lt_of_le hib hs, Nat.lt_of_lt_of_le k2.lt hs, Nat.lt_of_lt_of_le k3.lt hs, Nat.lt_of_lt_of_le k4.lt hs, Nat.lt_of_lt_of_le k5.lt hs⟩
  have G5 := Lib.hid (HG.out.below B5.out)
  have F5 := Lib.hid (HF2.out.below B5.out)
  clear HXI HXK HG HF2 hib hB
  by_cases hx : xi = xk
  · have q1 : (xi == xk) = true := by rw [beq_iff_eq]; exact hx
    have HSE2 : Hid (SE = decide (Lin.rankL FL (G ++ [DR]) = RK)) := by show _ = _; rw [HSE.out, q1]; rfl
    generalize Lin.rankL FL (G ++ [DR]) = R1 at *
    have E0 := Lib.hid (below_drew0 w5.heap.size w5)
    have HD1 : Hid ([DR].length ≤ 10000) := by show 1 ≤ 10000; decide
    have HROX := Lib.hid (HRO.out p _ w5.drew (R5.out.below E0.out) (show Reads w5.drew _ FE.length (ints FE) by rw [hFL]; exact F5.out.below E0.out))
    rw [← HDR.out] at HROX
    clear hx HSE HRO HDR R5 hFL F5
    go_region_held3 (fun W => (W.cell? ⟨tb, 1, none⟩ = some (.slice (some ⟨ib, io, none⟩) N ic) ∧ W.cell? ⟨ib, io + i, none⟩ = some (.int .i64 xi) ∧ W.cell? ⟨ib, io + k, none⟩ = some (.int .i64 xk) ∧ W.cell? ⟨gb, 0, none⟩ = some (.slice ga gl gc) ∧ W.cell? ⟨fb, 0, none⟩ = some (.slice fa FL fc) ∧ W.cell? ⟨wb, 0, none⟩ = some (.int .i64 (FL : Int)) ∧ W.cell? ⟨hb, 0, none⟩ = some (.int .i64 (RK : Int))))
      (first
        | with_reducible exact HSC.out _ E0.out
        | with_reducible exact HSC.out _ E1.out
        | with_reducible exact HSC.out _ (belowA E1.out _)
        | with_reducible exact HSC.out _ (belowA (belowA E1.out _) _)
        | with_reducible exact HSC.out _ E2.out
        | with_reducible exact HSC.out _ E3.out)
      (first
        | (go_simp; go_at_call 35; ((with_reducible refine HROX.out.mono ?_); rintro e w6 ⟨⟨b6, rfl, -, hr6⟩, hb6⟩; have E1 := Lib.hid (belowT E0.out hb6); have R6 := Lib.hid hr6; clear hb6 hr6))
        | (go_simp; go_at_call 30; ((with_reducible refine (HRK.out v7 _ O7.out).mono ?_); rintro e w8 ⟨rfl, hb8⟩; have E3 := Lib.hid (belowT E2.out hb8); clear hb8))
        | (go_simp; go_at_call 32; ((with_reducible refine (HCN.out (w6.heap.size + 1) (.slice ga gl gc) (.slice (some ⟨w6.heap.size, 0, none⟩) 1 1) [DR] _ (Blk.new2 w6 (.cells #[.slice (some ⟨b6, 0, none⟩) FL FL] 76) #[.slice ga gl gc, .slice (some ⟨w6.heap.size, 0, none⟩) 1 1] 73) ((G5.out.below E1.out).below (belowA (belowA (Below.refl _ _) _) _)) (GV.one R6.out _) HGN.out (some_ne _ 1 1) HD1.out).mono ?_); rintro e w7 ⟨⟨v7, rfl, ho7⟩, hb7⟩; have O7 := Lib.hid (HGO.out _ _ _ ho7); have E2 := Lib.hid (belowT (belowA (belowA E1.out _) _) hb7); clear hb7 ho7)))
    all_goals
      have B8 := Lib.hid (belowT B5.out E3.out)
      have hde : ((R1 : Int) == (RK : Int)) = decide (R1 = RK) := by
        rw [Bool.eq_iff_iff, beq_iff_eq, decide_eq_true_iff]; omega
      have HDE := Lib.hid hde
      clear hde HSC HLT HCN HRK HGO HGN HROX E0 E1 E2 E3 O7 R6 B5 G5
      go_simp
      go_wp2_with fail
      go_ret
      exact ⟨by rw [HSE2.out, ← HDE.out]; rfl, B8.out⟩
  · have q1 : (xi == xk) = false := by rw [beq_eq_false_iff_ne]; exact hx
    have HSE2 : Hid (SE = false) := by show _ = _; rw [HSE.out, q1]; rfl
    obtain ⟨c1, c2, c3, c4, c5, c6, c7⟩ := HSC.out w5 (Below.refl _ _)
    obtain ⟨l1, l2, l3, l4, l5, l6⟩ := HLT.out
    clear hx HSE HRO HDR R5 HSC HLT HCN HRK HGO HGN hFL G5 F5
    go_quiet (fail)
    go_wp2_with fail
    go_ret
    exact ⟨by rw [HSE2.out]; rfl, below_drewN B5.out _⟩
end Go.Proofs.Ythcddboeejbncaa
