/- solve.Echelon. -/
import Derived.Test.YthcddboeejbncaaPzMat2
import Derived.Test.YthcddboeejbncaaPkNetOApp
namespace Go.Proofs.Ythcddboeejbncaa
open Go.RowKit

def findF (M : Nat → Nat → Rat) (k : Nat) : Nat → Nat → Nat
  | 0, i => i
  | f + 1, i => if M i k = 0 then findF M k f (i + 1) else i
def sw (a b i : Nat) : Nat := if i = a then b else if i = b then a else i
def swapM (M : Nat → Nat → Rat) (a b : Nat) : Nat → Nat → Rat := fun i c => M (sw a b i) c
def echF (R : Nat) : Nat → Nat → (Nat → Nat → Rat) → List Int → (Nat → Nat → Rat) × List Int
  | 0, _, M, p => (M, p)
  | f + 1, k, M, p => if p.length < R then (if findF M k (R - p.length) p.length = R then echF R f (k + 1) M p else echF R f (k + 1) (clearM (swapM M p.length (findF M k (R - p.length) p.length)) p.length k) (p ++ [(k : Int)])) else (M, p)
def echE (R n : Nat) (M : Nat → Nat → Rat) : (Nat → Nat → Rat) × List Int := echF R n 0 M []
theorem findF_range (M : Nat → Nat → Rat) (k : Nat) : ∀ f i, i ≤ findF M k f i ∧ findF M k f i ≤ i + f := by
  intro f
  induction f with
  | zero => intro i; exact ⟨Nat.le_refl _, Nat.le_refl _⟩
  | succ f ih =>
    intro i
    unfold findF
    split
    · have := ih (i + 1); omega
    · omega
theorem sw_lt {a b i R : Nat} (ha : a < R) (hb : b < R) (hi : i < R) : sw a b i < R := by unfold sw; split <;> (try split) <;> omega
theorem sw_sw (a b i : Nat) : sw a b (sw a b i) = i := by
  unfold sw
  by_cases h1 : i = a
  · subst h1; simp
  · rw [if_neg h1]
    by_cases h2 : i = b
    · subst h2; simp
    · rw [if_neg h2, if_neg h1, if_neg h2]
theorem noDig_slice (g : Option Addr) (n c : Nat) : ∀ z, Value.slice g n c ≠ .int .u32 z := by intro z; simp
theorem GM.swap {W : World} {base gb R L : Nat} {rb rc : Nat → Nat} {M : Nat → Nat → Rat} (h : GM W base gb R L rb rc M) {a b : Nat} (ha : a < R) (hb : b < R) :
    GM ((W.setCell ⟨gb, a, none⟩ (.slice (some ⟨rb b, 0, none⟩) L (rc b))).setCell ⟨gb, b, none⟩ (.slice (some ⟨rb a, 0, none⟩) L (rc a))) base gb R L (fun i => rb (sw a b i)) (fun i => rc (sw a b i)) (swapM M a b) := by
  obtain ⟨cur, h1, h2, h3, h4⟩ := h.gblk
  have hbu : But gb W ((W.setCell ⟨gb, a, none⟩ (.slice (some ⟨rb b, 0, none⟩) L (rc b))).setCell ⟨gb, b, none⟩ (.slice (some ⟨rb a, 0, none⟩) L (rc a))) := ((But.refl gb W).set a _).set b _
  refine ⟨⟨(cur.setIfInBounds a (.slice (some ⟨rb b, 0, none⟩) L (rc b))).setIfInBounds b (.slice (some ⟨rb a, 0, none⟩) L (rc a)), (h1.set a _).set b _, trivial, by simpa using h3, fun i hi => ?_⟩, h.gbase, fun i hi => h.rbase _ (sw_lt ha hb hi), fun i j hi hj hij => h.inj _ _ (sw_lt ha hb hi) (sw_lt ha hb hj) (fun e => hij (by have := congrArg (sw a b) e; rwa [sw_sw, sw_sw] at this)), fun i hi => ?_, h.len⟩
  · by_cases hib : i = b
    · subst hib
      rw [Array.getElem?_setIfInBounds_self_of_lt (by simp; omega)]
      have e : sw a i i = a := by unfold sw; split <;> simp_all
      rw [e]
    · rw [Array.getElem?_setIfInBounds_ne (Ne.symm hib)]
      by_cases hia : i = a
      · subst hia
        rw [Array.getElem?_setIfInBounds_self_of_lt (by omega)]
        have e : sw i b i = b := by unfold sw; simp
        rw [e]
      · rw [Array.getElem?_setIfInBounds_ne (Ne.symm hia)]
        have e : sw a b i = i := by unfold sw; rw [if_neg hia, if_neg hib]
        rw [e]; exact h4 i hi
  · exact (h.row _ (sw_lt ha hb hi)).keepT h1 (by decide) hbu (h.rbase _ (sw_lt ha hb hi)).2.1
/-- A list of ints in a row of the call's own. -/
def IR (B : Nat) (W : World) (v : Value) (p : List Int) : Prop := W.ownsRow B 3 1 v p.length (ints p)
theorem IR.nil (B : Nat) (W : World) : IR B W (.slice none 0 0) [] := ⟨rfl, Or.inl ⟨rfl, rfl⟩⟩
theorem IR.frame {B : Nat} {W W' : World} {v : Value} {p : List Int} (h : IR B W v p) (k : ∀ g, B ≤ g → g < W.heap.size → W'.heap[g]? = W.heap[g]?) : IR B W' v p := by
  obtain ⟨h1, h2⟩ := h
  refine ⟨h1, h2.imp id ?_⟩
  rintro ⟨g, cap, cur, e1, e2, e3, e4⟩
  exact ⟨g, cap, cur, e1, e2, by rw [k g e2 (Array.getElem?_eq_some_iff.1 e3).1]; exact e3, e4⟩
theorem IR.below {B : Nat} {W W' : World} {v : Value} {p : List Int} (h : IR B W v p) (k : Below W.heap.size W W') : IR B W' v p := h.frame fun g _ hg => k.block g hg
theorem IR.buts {B : Nat} {S : Nat → Prop} {W W' : World} {v : Value} {p : List Int} (h : IR B W v p) (k : ButS S W W') (hS : ∀ b, S b → b < B) : IR B W' v p := h.frame fun g hg hl => k.block g hl (fun hs => by have := hS g hs; omega)
theorem IR.app {B : Nat} {W : World} {v : Value} {l : List Int} (h : IR B W v l) (hb : B ≤ W.heap.size) (x : Int) (lb : Nat) (hx : W.cell? ⟨lb, 0, none⟩ = some (.int .i64 x)) (hl : l.length ≤ 100000000) :
    ∃ v' W', (∀ ty, (Builtin.append_ #[39, 39] ty #[v, .slice (some ⟨lb, 0, none⟩) 1 1]).run Try.prog W = .ok v' W') ∧ IR B W' v' (l ++ [x]) ∧ Below B W W' ∧ (Below W.heap.size W W' ∨ ∃ b cs, B ≤ b ∧ Blk W b cs 3 ∧ But b W W') := by
  obtain ⟨i0, hi0, hz0, hz1, hz2⟩ := info_parts infoIntL
  have key := fun ty => run_append_own (P := Try.prog) W B 39 ty 3 i0 (.int .i64 0) 1 8 Try.underlying39 hi0 hz0 hz1 hz2 rfl (by decide) v l.length (ints l) h ⟨lb, 0, none⟩ 1 1 [.int .i64 x] rfl
    (fun j u hj => by
      cases j with
      | zero => simp at hj; subst hj; simpa [Addr.add] using hx
      | succ j => simp at hj) (fun u hu => by rw [List.mem_singleton] at hu; subst hu; rfl) (by unfold maxLen; omega) (by omega) hb
  obtain ⟨v', w', h1, h2, h3, _⟩ := key 0
  refine ⟨v', w', fun ty => h1, ?_, ?_⟩
  · unfold IR
    rw [List.length_append, show ints (l ++ [x]) = ints l ++ [.int .i64 x] by unfold ints; simp]; exact h2
  · refine ⟨Below.grown ⟨rfl, rfl, rfl, Nat.le_refl _, fun _ _ => rfl⟩ h3 hb (fun k e => row_own h k e), ?_⟩
    obtain ⟨_, hv | ⟨g, cap, cur, hv, hg, hh, _⟩⟩ := h
    · refine Or.inl ?_
      rw [hv.1] at h3
      exact ⟨h3.os, h3.tape, h3.output, h3.size, fun k hk => h3.block k hk (by intro e; cases e)⟩
    · refine Or.inr ⟨g, cur, hg, hh, ?_⟩
      rw [hv] at h3
      exact h3
theorem sz_swap {M : Nat → Nat → Rat} {a b R L s : Nat} (h : ∀ i c, i < R → c < L → sz (M i c) ≤ s) (ha : a < R) (hb : b < R) : ∀ i c, i < R → c < L → sz (swapM M a b i c) ≤ s :=
  fun _ c hi hc => h _ c (sw_lt ha hb hi) hc
theorem pow_step {p q s : Nat} (h : p < q) (hq : 5 ^ q * s ≤ 1000000000000) : 5 * (5 ^ p * s) ≤ 1000000000000 ∧ 5 * (5 ^ p * s) = 5 ^ (p + 1) * s := by
  have e : 5 * (5 ^ p * s) = 5 ^ (p + 1) * s := by rw [Nat.pow_succ, Nat.mul_comm (5 ^ p) 5, Nat.mul_assoc]
  refine ⟨?_, e⟩
  rw [e]
  exact Nat.le_trans (Nat.mul_le_mul_right s (Nat.pow_le_pow_right (by omega) h)) hq
set_option maxRecDepth 100000 in
set_option maxHeartbeats 8000000 in
theorem ech_c (base gb gc R L n s : Nat) (rb rc : Nat → Nat) (M : Nat → Nat → Rat) (w : World) (hg : GM w base gb R L rb rc M) (hn : n ≤ L) (hR : R ≤ 1000000) (hL : L ≤ 1000000)
    (hs : ∀ i c, i < R → c < L → sz (M i c) ≤ s) (hs5 : 5 ^ (min R n) * s ≤ 1000000000000) :
    Calls Try.prog 47 #[.slice (some ⟨gb, 0, none⟩) R gc, .int .i64 n] w fun e w' => ∃ v rb' rc', e = .returned v ∧ IR w.heap.size w' v (echE R n M).2 ∧ GM w' base gb R L rb' rc' (echE R n M).1 ∧ ButS (fun b => b = gb ∨ RS rb R b) w w' := by
  obtain ⟨⟨EM, EP⟩, hE⟩ : ∃ e, echE R n M = e := ⟨_, rfl⟩
  rw [hE]
  have HE0 : Hid (echF R (n - 0) 0 M [] = (EM, EP)) := hE
  have HG := Lib.hid hg
  have HS := Lib.hid hs
  have HS5 := Lib.hid hs5
  have HLT : Hid (∀ b, (b = gb ∨ RS rb R b) → b < w.heap.size) := fun b h => by
    rcases h with rfl | ⟨i, hi, rfl⟩
    · exact hg.glt
    · exact hg.rlt hi
  clear hE hs hg hs5
  go_enter Try.func47, Try.ntmps47
  go_wp2_with fail
  go_loopw [6, 5] (fun kv pv wr => ∃ (k : Nat) (p : List Int) (M' : Nat → Nat → Rat) (rb' rc' : Nat → Nat), k ≤ n ∧ kv = .int .i64 k ∧ p.length ≤ k ∧ p.length ≤ R ∧ Hid (echF R (n - k) k M' p = (EM, EP)) ∧ Hid (∀ i c, i < R → c < L → sz (M' i c) ≤ 5 ^ p.length * s) ∧ Hid (IR w.heap.size wr pv p) ∧ Hid (GM wr base gb R L rb' rc' M') ∧ Hid (∀ b, RS rb' R b → RS rb R b) ∧ Hid (ButS (fun b => b = gb ∨ RS rb R b) w wr)) (fun kv _ _ => n - (intOf kv).toNat)
  case atStart => exact ⟨0, [], M, rb, rc, Nat.zero_le _, rfl, Nat.le_refl _, Nat.zero_le _, HE0, fun i c hi hc => by have := HS.out i c hi hc; simpa using this, IR.nil _ _, HG.out, fun b h => h, ButS.refl _ _⟩
  case round =>
    clear HE0
    obtain ⟨k, p, M', rb', rc', hk, rfl, hpk, hpR, he, hsz, hir, hgm, hrs, hbs⟩ := hrel
    obtain ⟨pa, pc, rfl⟩ := row_slice (show World.ownsRow _ _ _ _ _ _ _ from hir.out)
    by_cases hlt : k < n
    · by_cases hpl : p.length < R
      · obtain ⟨m, hm⟩ : ∃ m, p.length = m := ⟨_, rfl⟩
        have HMM := Lib.hid hm
        obtain ⟨I, hI⟩ : ∃ I, findF M' k (R - m) m = I := ⟨_, rfl⟩
        have HI0 : Hid (findF M' k (R - m) m = I) := hI
        have hIr := findF_range M' k (R - m) m
        rw [hI] at hIr
        rw [show n - k = (n - (k + 1)) + 1 by omega] at he
        have HE1 : Hid (echF R (n - (k + 1) + 1) k M' p = (EM, EP)) := he.out
        rw [hm] at hpk hpl hpR hsz ⊢
        have hkL : k < L := by omega
        clear hI he hm
        obtain ⟨W1, rfl⟩ : ∃ W, W = wr := ⟨_, rfl⟩
        go_wp2_with fail
        go_loopw [8] (fun iv wq => ∃ i : Nat, m ≤ i ∧ i ≤ R ∧ iv = .int .i64 i ∧ Hid (findF M' k (R - i) i = I) ∧ Hid (Below W1.heap.size W1 wq)) (fun iv _ => R - (intOf iv).toNat)
        case atStart => exact ⟨m, Nat.le_refl _, hpR, rfl, HI0, Below.refl _ _⟩
        case round =>
          obtain ⟨i, him, hiR, rfl, hfi, hbq⟩ := hrel
          by_cases hiL : i < R
          · have g2 := Lib.hid (hgm.out.below hbq.out)
            have hri := g2.out.rowCell hiL
            obtain ⟨xn, xna, xnl, xnc, xda, xdl, xdc, x0, x1, x2, hqx⟩ := g2.out.ent hiL hkL
            have HSG := Lib.hid (sign_c _ _ _ _ wr hqx)
            obtain ⟨F, hF⟩ : ∃ q, M' i k = q := ⟨_, rfl⟩
            have HFE := Lib.hid hF
            rw [hF] at HSG
            obtain ⟨r, hr⟩ : ∃ r, rb' i = r := ⟨_, rfl⟩
            obtain ⟨rcap, hrc⟩ : ∃ r, rc' i = r := ⟨_, rfl⟩
            have HRI := Lib.hid hr
            have HRCI := Lib.hid hrc
            rw [hr, hrc] at hri
            rw [hr] at x0 x1 x2
            clear hF hqx hr hrc
            have hsgs : (F = 0 ∧ signR F = 0) ∨ (F ≠ 0 ∧ signR F ≠ 0) := by
              by_cases h : F = 0
              · exact Or.inl ⟨h, if_pos h⟩
              · refine Or.inr ⟨h, ?_⟩
                unfold signR; rw [if_neg h]; split <;> decide
            obtain ⟨sg1, hsgE⟩ : ∃ x, signR F = x := ⟨_, rfl⟩
            rw [hsgE] at HSG hsgs
            clear hsgE
            rcases hsgs with ⟨hf0, hsg⟩ | ⟨hf0, hsg⟩
            · subst hsg
              have HFI : Hid (findF M' k (R - (i + 1)) (i + 1) = I) := by
                show _ = _
                rw [← hfi.out, show R - i = (R - (i + 1)) + 1 by omega]
                conv => rhs; unfold findF
                rw [if_pos (by rw [HFE.out]; exact hf0)]
              clear hf0 hfi
              go_wp2_with fail
              refine HSG.out.mono ?_; rintro e w2 ⟨rfl, hb2⟩
              have HB2 := Lib.hid (belowT hbq.out hb2)
              clear hb2 hbq
              go_wp2_with fail
              go_roundw
              case rel => exact ⟨i + 1, by omega, hiL, by go_num, HFI, HB2⟩
              case measure => (simp [intOf] <;> omega)
            · have q2 : (sg1 == 0) = false := by rw [beq_eq_false_iff_ne]; exact hsg
              have HII : Hid (I = i) := by
                show _ = _
                rw [← hfi.out, show R - i = (R - (i + 1)) + 1 by omega]
                unfold findF
                rw [if_neg (by rw [HFE.out]; exact hf0)]
              have q3 : ((i : Int) == R) = false := by rw [beq_eq_false_iff_ne]; omega
              clear hf0 hfi hsg hIr
              go_wp2_with fail
              refine HSG.out.mono ?_; rintro e w2 ⟨rfl, hb2⟩
              have HB2 := Lib.hid (belowT hbq.out hb2)
              have G3 := Lib.hid (g2.out.below hb2)
              clear hb2 hbq g2 hri x0 x1 x2 HSG
              have c1 := G3.out.rowCell hiL
              have c2 := G3.out.rowCell hpl
              rw [HRI.out, HRCI.out] at c1
              obtain ⟨gcur, gk1, _, gk3, _⟩ := G3.out.gblk
              have hgm2 := (gk1.set m (.slice (some ⟨r, 0, none⟩) L rcap))
              obtain ⟨X, hX⟩ : ∃ X, (gcur.setIfInBounds m (.slice (some ⟨r, 0, none⟩) L rcap))[i]? = some X := ⟨_, Array.getElem?_eq_getElem (by simp; omega)⟩
              have c3 := hgm2.cell i hX
              have c4 := hgm2.free i
              clear hgm2 hX gk3
              have hf1 := gk1.free i
              have hf2 := gk1.free m
              have hgl := gk1.lt
              clear gk1
              go_wp2_with fail
              go_region
              all_goals
                have hg5 := (G3.out.swap hpl hiL)
                rw [HRI.out, HRCI.out] at hg5
                have G5 := Lib.hid (hg5.below (below_drew0 _ _))
                have hwl : w.heap.size ≤ W1.heap.size := hbs.out.size
                have hgw : gb < w.heap.size := HLT.out gb (Or.inl rfl)
                have hgb2 : gb < w2.heap.size := G3.out.glt
                have HBS5 : Hid (ButS (fun b => b = gb ∨ RS rb R b) w ((w2.setCell ⟨gb, m, none⟩ (.slice (some ⟨r, 0, none⟩) L rcap)).setCell ⟨gb, i, none⟩ (.slice (some ⟨rb' m, 0, none⟩) L (rc' m))).drew) :=
                  (((hbs.out.below HB2.out).set (a := ⟨gb, m, none⟩) (Or.inl (Or.inl rfl)) _).set (a := ⟨gb, i, none⟩) (Or.inl (Or.inl rfl)) _).below (below_drew0 _ _)
                have HIR5 : Hid (IR w.heap.size ((w2.setCell ⟨gb, m, none⟩ (.slice (some ⟨r, 0, none⟩) L rcap)).setCell ⟨gb, i, none⟩ (.slice (some ⟨rb' m, 0, none⟩) L (rc' m))).drew (.slice pa p.length pc) p) :=
                  ((hir.out.below HB2.out).frame (W' := (w2.setCell ⟨gb, m, none⟩ (.slice (some ⟨r, 0, none⟩) L rcap)).setCell ⟨gb, i, none⟩ (.slice (some ⟨rb' m, 0, none⟩) L (rc' m))) (fun g hg _ => by rw [Below.heap_setCell _ _ _ _ (show g ≠ gb by omega), Below.heap_setCell _ _ _ _ (show g ≠ gb by omega)])).below (below_drew0 _ _)
                have HRS5 : Hid (∀ b, RS (fun j => rb' (sw m i j)) R b → RS rb R b) := fun b ⟨j, hj, e⟩ => hrs.out b ⟨sw m i j, sw_lt hpl hiL hj, e⟩
                generalize ((w2.setCell ⟨gb, m, none⟩ (.slice (some ⟨r, 0, none⟩) L rcap)).setCell ⟨gb, i, none⟩ (.slice (some ⟨rb' m, 0, none⟩) L (rc' m))).drew = W5 at *
                have hps := pow_step (p := m) (q := min R n) (s := s) (by omega) HS5.out
                have HCL := Lib.hid (clear_c base gb gc R L m k (5 ^ m * s) _ _ _ W5 G5.out hpl hkL hR hL (sz_swap hsz.out hpl hiL) hps.1)
                have HSZ6 : Hid (∀ i' c, i' < R → c < L → sz (clearM (swapM M' m i) m k i' c) ≤ 5 ^ (m + 1) * s) := fun i' c hi' hc => by
                  have := sz_clear (sz_swap hsz.out hpl hiL) hpl hkL i' c hi' hc
                  rw [hps.2] at this; exact this
                have HEN : Hid (echF R (n - (k + 1)) (k + 1) (clearM (swapM M' m i) m k) (p ++ [(k : Int)]) = (EM, EP)) := by
                  have h1 := HE1.out
                  unfold echF at h1
                  rw [HMM.out, HI0.out, if_pos hpl, if_neg (by rw [HII.out]; omega), HII.out] at h1
                  exact h1
                rw [HMM.out] at HIR5
                have HRL : Hid (∀ b, RS (fun j => rb' (sw m i j)) R b → b < w.heap.size) := fun b hb => HLT.out b (Or.inr (HRS5.out b hb))
                clear hg5 c1 c2 c3 c4 hf1 hf2 hgl hps G3 hir hgm hbs HB2 HE1 hrs hsz HRI HRCI hgb2 G5
                go_simp
                go_wp2_with fail
                refine HCL.out.mono ?_; rintro e w6 ⟨rfl, hg6, hb6⟩
                have G6 := Lib.hid hg6
                have HBS6 := Lib.hid (HBS5.out.trans (hb6.mono (fun b h => Or.inr (HRS5.out b h))))
                have HIR6 := Lib.hid (IR.buts (show IR w.heap.size W5 (.slice pa m pc) p from HIR5.out) hb6 HRL.out)
                clear hg6 hb6 HCL HBS5 HIR5
                have hw6 : w.heap.size ≤ w6.heap.size := HBS6.out.size
                obtain ⟨v7, W7, hap, hir7, hb7, hcase⟩ := IR.app (HIR6.out.below (belowA (Below.refl _ _) (.cells #[.int .i64 (k : Int)] 3))) (by rw [World.size_alloc]; omega) (k : Int) w6.heap.size ((Blk.new _ _ _).cell 0 rfl) (by rw [HMM.out]; omega)
                have HAP := Lib.hid hap
                have HIR7 := Lib.hid hir7
                have hb7' : Below w.heap.size w6 W7 := ((Below.refl _ _).alloc hw6 _).trans hb7
                have hg6a := G6.out.below (belowA (Below.refl _ _) (.cells #[.int .i64 (k : Int)] 3))
                have G7 : Hid (GM W7 base gb R L (fun j => rb' (sw m i j)) (fun j => rc' (sw m i j)) (clearM (swapM M' m i) m k)) := by
                  rcases hcase with hc | ⟨b, cs, hB, hblk, hbut⟩
                  · exact hg6a.below hc
                  · exact hg6a.keepT hblk (by decide) hbut (by omega) (fun j hj e => by have h := HRL.out _ ⟨j, hj, rfl⟩; simp only at h e; omega)
                have HBS7 : Hid (ButS (fun b => b = gb ∨ RS rb R b) w W7) := HBS6.out.above hb7'
                clear hap hir7 hb7 hb7' G6 HIR6 HBS6 hcase hg6a
                go_wp2_with (at_builtin; refine wpList_append_told rfl (.tmp 63) (.tmp 65) 39 rfl _ _ rfl rfl v7 W7 (HAP.out _) ?_)
                go_roundw
                case rel => exact ⟨k + 1, p ++ [(k : Int)], clearM (swapM M' m i) m k, _, _, hlt, by go_num, by simp [HMM.out]; omega, by simp [HMM.out]; omega, HEN, by show ∀ _, _; rw [show (p ++ [(k : Int)]).length = m + 1 by simp [HMM.out]]; exact HSZ6.out, HIR7, G7, HRS5, HBS7⟩
                case measure => (simp [intOf] <;> omega)
          · obtain rfl : R = i := by omega
            have HII : Hid (I = R) := by
              show _ = _
              rw [← hfi.out, Nat.sub_self]; rfl
            have HEN : Hid (echF R (n - (k + 1)) (k + 1) M' p = (EM, EP)) := by
              have h1 := HE1.out
              unfold echF at h1
              rw [HMM.out, HI0.out, if_pos hpl, if_pos HII.out] at h1
              exact h1
            have HIR5 := Lib.hid (hir.out.below hbq.out)
            have HG5 := Lib.hid (hgm.out.below hbq.out)
            have HBS5 := Lib.hid (hbs.out.below hbq.out)
            have HPK : Hid (p.length ≤ k + 1 ∧ p.length ≤ R) := ⟨by rw [HMM.out]; omega, by rw [HMM.out]; omega⟩
            have HSZ5 : Hid (∀ i c, i < R → c < L → sz (M' i c) ≤ 5 ^ p.length * s) := by show ∀ _, _; rw [HMM.out]; exact hsz.out
            rw [HMM.out] at HIR5
            clear hfi hir hgm hbs hbq HE1 hIr hsz
            go_wp2_with fail
            go_roundw
            case rel => exact ⟨k + 1, p, M', rb', rc', hlt, by go_num, HPK.out.1, HPK.out.2, HEN, HSZ5, HIR5, HG5, hrs, HBS5⟩
            case measure => (simp [intOf] <;> omega)
      · have hpe : Hid ((M', p) = (EM, EP)) := by
          show _ = _
          rw [← he.out, show n - k = (n - (k + 1)) + 1 by omega]
          unfold echF
          rw [if_neg hpl]
        have q1 : decide (p.length < R) = false := decide_eq_false hpl
        clear he
        go_wp2_with fail
        go_ret
        have e1 := congrArg Prod.fst hpe.out
        have e2 := congrArg Prod.snd hpe.out
        simp only at e1 e2
        subst e1; subst e2
        exact ⟨_, rb', rc', rfl, hir.out, hgm.out, hbs.out⟩
    · have hpe : Hid ((M', p) = (EM, EP)) := by
        show _ = _
        rw [← he.out, show n - k = 0 by omega]; rfl
      clear he
      go_wp2_with fail
      go_ret
      have e1 := congrArg Prod.fst hpe.out
      have e2 := congrArg Prod.snd hpe.out
      simp only at e1 e2
      subst e1; subst e2
      exact ⟨_, rb', rc', rfl, hir.out, hgm.out, hbs.out⟩
end Go.Proofs.Ythcddboeejbncaa
