/- solve.clear. -/
import Derived.Test.YthcddboeejbncaaPkMet2Mat1
import Derived.Test.YthcddboeejbncaaPkRat5Bal6
namespace Go.Proofs.Ythcddboeejbncaa
open Go.RowKit

def scaleTo (M : Nat → Nat → Rat) (t : Nat) (B : Rat) (j : Nat) : Nat → Nat → Rat := fun i c => if i = t ∧ c < j then M t c / B else M i c
def scaleM (M : Nat → Nat → Rat) (t k : Nat) : Nat → Nat → Rat := fun i c => if i = t then M t c / M t k else M i c
def elimM (M : Nat → Nat → Rat) (t k : Nat) : Nat → Nat → Rat := fun i c => if i = t ∨ M i k = 0 then M i c else M i c - M i k * M t c
def clearM (M : Nat → Nat → Rat) (t k : Nat) : Nat → Nat → Rat := elimM (scaleM M t k) t k
def elimTo (M : Nat → Nat → Rat) (t k : Nat) (i c : Nat) : Nat → Nat → Rat := fun i' c' => if i' < i ∨ (i' = i ∧ c' < c) then elimM M t k i' c' else M i' c'
theorem sz_scale {M : Nat → Nat → Rat} {t k R L s : Nat} (h : ∀ i c, i < R → c < L → sz (M i c) ≤ s) (ht : t < R) (hk : k < L) : ∀ i c, i < R → c < L → sz (scaleM M t k i c) ≤ 2 * s := by
  intro i c hi hc
  unfold scaleM
  have h1 := h i c hi hc
  split
  · have := sz_quo (M t c) (M t k)
    have h2 := h t c ht hc
    have h3 := h t k ht hk
    omega
  · omega
theorem sz_clear {M : Nat → Nat → Rat} {t k R L s : Nat} (h : ∀ i c, i < R → c < L → sz (M i c) ≤ s) (ht : t < R) (hk : k < L) : ∀ i c, i < R → c < L → sz (clearM M t k i c) ≤ 5 * s := by
  intro i c hi hc
  have hs : 1 ≤ s := by have := sz_pos (M i c); have := h i c hi hc; omega
  unfold clearM elimM
  have h2 := sz_scale h ht hk
  split
  · have := h2 i c hi hc; omega
  · rename_i hn
    have hit : i ≠ t := fun e => hn (Or.inl e)
    have e1 : scaleM M t k i c = M i c := if_neg hit
    have e2 : scaleM M t k i k = M i k := if_neg hit
    rw [e1, e2]
    have a1 := h i c hi hc
    have a2 := h i k hi hk
    have a3 := h2 t c ht hc
    have a4 := sz_mul (M i k) (scaleM M t k t c)
    have a5 := sz_sub (M i c) (M i k * scaleM M t k t c)
    omega
set_option maxRecDepth 100000 in
set_option maxHeartbeats 8000000 in
theorem clear_c (base gb gc R L t k s : Nat) (rb rc : Nat → Nat) (M : Nat → Nat → Rat) (w : World) (hg : GM w base gb R L rb rc M) (ht : t < R) (hk : k < L) (hR : R ≤ 1000000) (hL : L ≤ 1000000)
    (hs : ∀ i c, i < R → c < L → sz (M i c) ≤ s) (hs5 : 5 * s ≤ 1000000000000) :
    Calls Try.prog 64 #[.slice (some ⟨gb, 0, none⟩) R gc, .int .i64 t, .int .i64 k] w fun e w' => e = .returned (.tuple #[]) ∧ GM w' base gb R L rb rc (clearM M t k) ∧ ButS (RS rb R) w w' := by
  have HG := Lib.hid hg
  have HRB := Lib.hid hg.rbase
  obtain ⟨bn, bna, bnl, bnc, bda, bdl, bdc, hx0, hx1, hx2, hqb⟩ := hg.ent ht hk
  have hrt := hg.rowCell ht
  have HSZ := Lib.hid hs
  obtain ⟨B, hB⟩ : ∃ b, M t k = b := ⟨_, rfl⟩
  have HBE := Lib.hid hB
  rw [hB] at hqb
  have HQB := Lib.hid hqb
  have K1 := Lib.hid (Blk.new w #[.bool bn, .slice bna bnl bnc, .slice bda bdl bdc] 80)
  have B1 := Lib.hid ((ButS.refl (RS rb R) w).alloc (.cells #[.bool bn, .slice bna bnl bnc, .slice bda bdl bdc] 80))
  have G1 := Lib.hid (hg.below (belowA (Below.refl _ _) (.cells #[.bool bn, .slice bna bnl bnc, .slice bda bdl bdc] 80)))
  have Q1 := Lib.hid (hqb.below (belowA (Below.refl _ _) (.cells #[.bool bn, .slice bna bnl bnc, .slice bda bdl bdc] 80)))
  have HRT := Lib.hid (hg.rlt ht)
  have hgl := hg.glt
  obtain ⟨r, hr⟩ : ∃ r, rb t = r := ⟨_, rfl⟩
  obtain ⟨rcap, hrc⟩ : ∃ r, rc t = r := ⟨_, rfl⟩
  have HR := Lib.hid hr
  have HRC := Lib.hid hrc
  rw [hr] at hx0 hx1 hx2 hrt HRT
  rw [hrc] at hrt
  have hsz5 : 5 * s ≤ 1000000000000 := hs5
  clear hs hB hqb hg hr hrc hs5
  go_enter Try.func64, Try.ntmps64
  go_wp2_with fail
  generalize w.alloc (.cells #[.bool bn, .slice bna bnl bnc, .slice bda bdl bdc] 80) = w1 at *
  have hbb := K1.out.lt
  obtain ⟨bb, hbbE⟩ : ∃ b, w.heap.size = b := ⟨_, rfl⟩
  have HBB := Lib.hid hbbE
  have HRBB : Hid (∀ i, i < R → rb i ≠ bb) := fun i hi e => by have := HG.out.rlt hi; omega
  rw [hbbE] at K1 hgl HRT hbb ⊢
  clear hx0 hx1 hx2 hrt hbbE
  go_loopw [23] (fun iv wr => ∃ c : Nat, c ≤ L ∧ iv = .int .i64 c ∧ Hid (GM wr base gb R L rb rc (scaleTo M t B c)) ∧ Hid (Blk wr bb #[.bool bn, .slice bna bnl bnc, .slice bda bdl bdc] 80) ∧ Hid (QC wr bn (.slice bna bnl bnc) (.slice bda bdl bdc) B) ∧ Hid (ButS (RS rb R) w wr)) (fun iv _ => L - (intOf iv).toNat)
  case atStart => exact ⟨0, Nat.zero_le _, rfl, G1.out.congr (fun i c _ _ => by unfold scaleTo; rw [if_neg (by omega)]), K1, Q1, B1⟩
  case round =>
    clear K1 Q1 G1 B1
    obtain ⟨c, hc, rfl, hgm, hkb, hqb, hbl⟩ := hrel
    by_cases hlt : c < L
    · have hrc := hgm.out.rowCell ht
      rw [HR.out, HRC.out] at hrc
      obtain ⟨xn, xna, xnl, xnc, xda, xdl, xdc, x0, x1, x2, hqx⟩ := hgm.out.ent ht hlt
      have hxe : scaleTo M t B c t c = M t c := if_neg (by omega)
      rw [hxe] at hqx
      rw [HR.out] at x0 x1 x2
      have hfr := fun j => hgm.out.free ht j
      rw [HR.out] at hfr
      have HQU : Hid (∀ W, Below wr.heap.size wr W → Calls Try.prog 79 #[.agg #[.bool xn, .slice xna xnl xnc, .slice xda xdl xdc], .agg #[.bool bn, .slice bna bnl bnc, .slice bda bdl bdc]] W fun e w' => (∃ v, e = .returned v ∧ QV w' v (M t c / B)) ∧ Below W.heap.size W w') := fun W hW => rquo_c _ _ _ _ _ _ _ _ W (hqx.below hW) (hqb.out.below hW) (by have := HSZ.out t c ht hlt; omega) (by have := HSZ.out t k ht hk; rw [HBE.out] at this; omega)
      have HSC : Hid (∀ W, Below wr.heap.size wr W → (W.cell? ⟨gb, t, none⟩ = some (.slice (some ⟨r, 0, none⟩) L rcap) ∧ W.cell? ⟨bb, 0, none⟩ = some (.bool bn) ∧ W.cell? ⟨bb, 1, none⟩ = some (.slice bna bnl bnc) ∧ W.cell? ⟨bb, 2, none⟩ = some (.slice bda bdl bdc))) := fun W hW => by
        have k1 := (hgm.out.below hW).rowCell ht
        rw [HR.out, HRC.out] at k1
        have k2 := below_blk hW hkb.out hkb.out.lt
        exact ⟨k1, k2.cell 0 rfl, k2.cell 1 rfl, k2.cell 2 rfl⟩
      have HSS : Hid (∀ w2 W', But r w2 W' → Below wr.heap.size wr w2 → (W'.cell? ⟨gb, t, none⟩ = some (.slice (some ⟨r, 0, none⟩) L rcap) ∧ W'.cell? ⟨bb, 0, none⟩ = some (.bool bn) ∧ W'.cell? ⟨bb, 1, none⟩ = some (.slice bna bnl bnc) ∧ W'.cell? ⟨bb, 2, none⟩ = some (.slice bda bdl bdc))) := fun w2 W' hb hW => by
        obtain ⟨k1, k2, k3, k4⟩ := HSC.out w2 hW
        have n1 := (HRB.out t ht).2.1
        have n2 := HRBB.out t ht
        rw [HR.out] at n1 n2
        have g1 := (hgm.out.below hW).glt
        have g2 := (below_blk hW hkb.out hkb.out.lt).lt
        have e1 := hb.block gb g1 (by intro e; injection e with e; exact n1 e.symm)
        have e2 := hb.block bb g2 (by intro e; injection e with e; exact n2 e.symm)
        exact ⟨by rw [World.cell?_of_block (w := w2) e1]; exact k1, by rw [World.cell?_of_block (w := w2) e2]; exact k2, by rw [World.cell?_of_block (w := w2) e2]; exact k3, by rw [World.cell?_of_block (w := w2) e2]; exact k4⟩
      have E0 := Lib.hid (below_drew0 wr.heap.size wr)
      have hlc : c < 1000000 := by omega
      have q1 : M t c / B = M t c / B := rfl
      obtain ⟨T, hT⟩ : ∃ q, M t c / B = q := ⟨_, rfl⟩
      have HTE := Lib.hid hT
      rw [hT] at HQU
      clear hT q1 hqx hxe
      go_wp2_with fail
      rw [show Op.load 80 (.tmp 36) = hideLoad 80 (.tmp 36) from rfl]
      go_region_held3 (fun W => (W.cell? ⟨gb, t, none⟩ = some (.slice (some ⟨r, 0, none⟩) L rcap) ∧ W.cell? ⟨bb, 0, none⟩ = some (.bool bn) ∧ W.cell? ⟨bb, 1, none⟩ = some (.slice bna bnl bnc) ∧ W.cell? ⟨bb, 2, none⟩ = some (.slice bda bdl bdc)))
        (first
          | exact HSC.out _ E0.out
          | exact HSC.out _ E1.out
          | exact HSF.out)
        (first
          | (go_simp; go_at_call 79; ((with_reducible refine (HQU.out _ E0.out).mono ?_); rintro e w2 ⟨⟨v2, rfl, rg, rn, rd, rfl, hqc⟩, hb2⟩; obtain ⟨ra, rca, rda, rdl, rdc, rfl, rfl, _⟩ := hqc.parts; have E1 := Lib.hid (belowT E0.out hb2); have HQC := Lib.hid hqc; obtain ⟨rl, hrl⟩ : ∃ l, ln T.num.natAbs = l := ⟨_, rfl⟩; rw [hrl] at HQC ⊢; have gm2 := hgm.out.below E1.out; have HGM2 := Lib.hid gm2; obtain ⟨_, _, _, _, _, _, _, y0, y1, y2, _⟩ := gm2.ent ht hlt; rw [HR.out] at y0 y1 y2; have f0 := gm2.free ht (c * 3); have f1 := gm2.free ht (c * 3 + 1); have f2 := gm2.free ht (c * 3 + 2); rw [HR.out] at f0 f1 f2; have HSF := Lib.hid (HSS.out w2 _ (but_putQ w2 r (c * 3) rg (.slice ra rl rca) (.slice rda rdl rdc)) E1.out); clear hb2 hqc hrl gm2)))
      all_goals
        have hgp := (HGM2.out.put ht hlt HQC.out)
        rw [HR.out] at hgp
        have HGP : Hid (GM (putQ w2 r (c * 3) rg (.slice ra rl rca) (.slice rda rdl rdc)) base gb R L rb rc (scaleTo M t B (c + 1))) := hgp.congr (fun i' c' _ _ => by
          unfold setM scaleTo
          by_cases h1 : i' = t ∧ c' = c
          · rw [if_pos h1, if_pos ⟨h1.1, by omega⟩, h1.2]; exact HTE.out.symm
          · rw [if_neg h1]
            by_cases h2 : i' = t ∧ c' < c
            · rw [if_pos h2, if_pos ⟨h2.1, by omega⟩]
            · rw [if_neg h2, if_neg (by omega)])
        obtain ⟨rcur, rk1, _, _⟩ := HGM2.out.row t ht
        rw [HR.out] at rk1
        have HKB := Lib.hid ((but_putQ w2 r (c * 3) rg (.slice ra rl rca) (.slice rda rdl rdc)).blk (below_blk E1.out hkb.out hkb.out.lt) (by have := HRBB.out t ht; rw [HR.out] at this; exact fun e => this e.symm))
        have HQB2 := Lib.hid (QC.put (b := r) (o := c * 3) (ng := rg) (vn := .slice ra rl rca) (vd := .slice rda rdl rdc) (hqb.out.below E1.out) rk1 (by decide))
        have hbr : RS rb R r := ⟨t, ht, HR.out⟩
        have HBL := Lib.hid ((((hbl.out.below E1.out).set (a := ⟨r, c * 3, none⟩) (Or.inl hbr) (.bool rg)).set (a := ⟨r, c * 3 + 1, none⟩) (Or.inl hbr) (.slice ra rl rca)).set (a := ⟨r, c * 3 + 2, none⟩) (Or.inl hbr) (.slice rda rdl rdc))
        clear hgp rk1 hgm hkb hqb hbl HQU HSC HSS x0 x1 x2 y0 y1 y2 f0 f1 f2 hrc hfr HGM2 HSF HQC E0 E1
        go_simp
        go_wp2_with fail
        go_roundw
        case rel => exact ⟨c + 1, hlt, by go_num, HGP, HKB, HQB2, HBL⟩
        case measure => (simp [intOf] <;> omega)
    · obtain rfl : L = c := by omega
      have HM1 : Hid (GM wr base gb R L rb rc (scaleM M t k)) := hgm.out.congr (fun i' c' _ hc' => by
        unfold scaleTo scaleM
        by_cases h1 : i' = t
        · rw [if_pos ⟨h1, hc'⟩, if_pos h1, HBE.out]
        · rw [if_neg (fun h => h1 h.1), if_neg h1])
      have HB1 := Lib.hid hbl.out
      have HSZ2 := Lib.hid (sz_scale HSZ.out ht hk)
      obtain ⟨M1, hM1⟩ : ∃ m, scaleM M t k = m := ⟨_, rfl⟩
      have HM1E := Lib.hid hM1
      rw [hM1] at HM1 HSZ2
      clear hgm hkb hqb hbl hM1 HRBB HRT hgl hbb
      go_wp2_with fail
      go_loopw [44] (fun iv wq => ∃ i : Nat, i ≤ R ∧ iv = .int .i64 i ∧ Hid (GM wq base gb R L rb rc (elimTo M1 t k i 0)) ∧ Hid (ButS (RS rb R) w wq)) (fun iv _ => R - (intOf iv).toNat)
      case atStart => exact ⟨0, Nat.zero_le _, rfl, HM1.out.congr (fun i c _ _ => by unfold elimTo; rw [if_neg (by omega)]), HB1⟩
      case round =>
        clear HM1 HB1
        obtain ⟨i, hi, rfl, hgm, hbl⟩ := hrel
        by_cases hlt : i < R
        · have hri := hgm.out.rowCell hlt
          obtain ⟨fn, fna, fnl, fnc, fda, fdl, fdc, f0, f1, f2, hqf⟩ := hgm.out.ent hlt hk
          have hfe : elimTo M1 t k i 0 i k = M1 i k := if_neg (by omega)
          rw [hfe] at hqf
          obtain ⟨r, hr⟩ : ∃ r, rb i = r := ⟨_, rfl⟩
          obtain ⟨rcap, hrc⟩ : ∃ r, rc i = r := ⟨_, rfl⟩
          have HRI := Lib.hid hr
          have HRCI := Lib.hid hrc
          rw [hr] at f0 f1 f2 hri
          rw [hrc] at hri
          have hgl := hgm.out.glt
          have hrl := hgm.out.rlt hlt
          rw [hr] at hrl
          have HRBB : Hid (∀ j, j < R → rb j ≠ wr.heap.size) := fun j hj e => by have := hgm.out.rlt hj; omega
          have K2 := Lib.hid (Blk.new wr #[.bool fn, .slice fna fnl fnc, .slice fda fdl fdc] 80)
          have B2 := Lib.hid (hbl.out.alloc (.cells #[.bool fn, .slice fna fnl fnc, .slice fda fdl fdc] 80))
          have G2 := Lib.hid (hgm.out.below (belowA (Below.refl _ _) (.cells #[.bool fn, .slice fna fnl fnc, .slice fda fdl fdc] 80)))
          have Q2 := Lib.hid (hqf.below (belowA (Below.refl _ _) (.cells #[.bool fn, .slice fna fnl fnc, .slice fda fdl fdc] 80)))
          clear hr hrc hqf hfe hgm hbl
          by_cases hit : i = t
          · have q1 : ((i : Int) == t) = true := by rw [beq_iff_eq]; omega
            have HG3 : Hid (GM _ base gb R L rb rc (elimTo M1 t k (i + 1) 0)) := G2.out.congr (fun i' c' _ _ => by
              unfold elimTo
              by_cases h1 : i' < i ∨ i' = i ∧ c' < 0
              · rw [if_pos h1, if_pos (by omega)]
              · rw [if_neg h1]
                by_cases h2 : i' = i
                · rw [if_pos (by omega)]; unfold elimM; rw [if_pos (Or.inl (by omega))]
                · rw [if_neg (by omega)])
            clear hit
            go_wp2_with fail
            go_roundw
            case rel => exact ⟨i + 1, hlt, by go_num, HG3, B2⟩
            case measure => (simp [intOf] <;> omega)
          · have q1 : ((i : Int) == t) = false := by rw [beq_eq_false_iff_ne]; omega
            have HSG := Lib.hid (sign_c fn (.slice fna fnl fnc) (.slice fda fdl fdc) (M1 i k) _ Q2.out)
            obtain ⟨F, hF⟩ : ∃ q, M1 i k = q := ⟨_, rfl⟩
            have HFE := Lib.hid hF
            rw [hF] at HSG Q2
            clear hF
            by_cases hf0 : F = 0
            · have hsg : signR F = 0 := if_pos hf0
              rw [hsg] at HSG
              have HG3 : Hid (GM _ base gb R L rb rc (elimTo M1 t k (i + 1) 0)) := G2.out.congr (fun i' c' _ _ => by
                unfold elimTo
                by_cases h1 : i' < i ∨ i' = i ∧ c' < 0
                · rw [if_pos h1, if_pos (by omega)]
                · rw [if_neg h1]
                  by_cases h2 : i' = i
                  · rw [if_pos (by omega)]; unfold elimM; rw [if_pos (Or.inr (by rw [h2, HFE.out]; exact hf0))]
                  · rw [if_neg (by omega)])
              clear hit hf0 hsg
              go_wp2_with fail
              refine HSG.out.mono ?_; rintro e w3 ⟨rfl, hb3⟩
              have HG4 := Lib.hid (HG3.out.below hb3)
              have HB4 := Lib.hid (B2.out.below hb3)
              clear hb3
              go_wp2_with fail
              go_roundw
              case rel => exact ⟨i + 1, hlt, by go_num, HG4, HB4⟩
              case measure => (simp [intOf] <;> omega)
            · have hsg : signR F ≠ 0 := by unfold signR; rw [if_neg hf0]; split <;> decide
              obtain ⟨sg1, hsgE⟩ : ∃ x, signR F = x := ⟨_, rfl⟩
              rw [hsgE] at HSG hsg
              have q2 : (sg1 == 0) = false := by rw [beq_eq_false_iff_ne]; exact hsg
              clear hsgE hsg
              go_wp2_with fail
              refine HSG.out.mono ?_; rintro e w3 ⟨rfl, hb3⟩
              have G3 := Lib.hid (G2.out.below hb3)
              have K3 := Lib.hid (below_blk hb3 K2.out K2.out.lt)
              have Q3 := Lib.hid (Q2.out.below hb3)
              have B3 := Lib.hid (B2.out.below hb3)
              have hx3 : rb i < w3.heap.size := G3.out.rlt hlt
              obtain ⟨fb, hfb⟩ : ∃ b, wr.heap.size = b := ⟨_, rfl⟩
              rw [hfb] at K3 HRBB ⊢
              clear hb3 hfb G2 K2 Q2 B2 HSG f0 f1 f2 hri hrl hgl hx3
              have hri := G3.out.rowCell hlt
              rw [HRI.out, HRCI.out] at hri
              go_wp2_with fail
              go_loopw [67] (fun iv wq => ∃ c : Nat, c ≤ L ∧ iv = .int .i64 c ∧ Hid (GM wq base gb R L rb rc (elimTo M1 t k i c)) ∧ Hid (Blk wq fb #[.bool fn, .slice fna fnl fnc, .slice fda fdl fdc] 80) ∧ Hid (QC wq fn (.slice fna fnl fnc) (.slice fda fdl fdc) F) ∧ Hid (ButS (RS rb R) w wq)) (fun iv _ => L - (intOf iv).toNat)
              case atStart => exact ⟨0, Nat.zero_le _, rfl, G3.out, K3, Q3, B3⟩
              case round =>
                clear G3 K3 Q3 B3 hri
                obtain ⟨c, hc, rfl, hgm, hkb, hqb, hbl⟩ := hrel
                by_cases hlc : c < L
                · have hri := hgm.out.rowCell hlt
                  rw [HRI.out, HRCI.out] at hri
                  have hrt := hgm.out.rowCell ht
                  obtain ⟨r2, hr2⟩ : ∃ r, rb t = r := ⟨_, rfl⟩
                  obtain ⟨r2c, hr2c⟩ : ∃ r, rc t = r := ⟨_, rfl⟩
                  have HR2 := Lib.hid hr2
                  have HR2C := Lib.hid hr2c
                  rw [hr2, hr2c] at hrt
                  obtain ⟨xn, xna, xnl, xnc, xda, xdl, xdc, x0, x1, x2, hqx⟩ := hgm.out.ent hlt hlc
                  obtain ⟨yn, yna, ynl, ync, yda, ydl, ydc, y0, y1, y2, hqy⟩ := hgm.out.ent ht hlc
                  have hxe : elimTo M1 t k i c i c = M1 i c := if_neg (by omega)
                  have hye : elimTo M1 t k i c t c = M1 t c := by
                    unfold elimTo
                    split
                    · unfold elimM; rw [if_pos (Or.inl rfl)]
                    · rfl
                  rw [hxe] at hqx
                  rw [hye] at hqy
                  rw [HRI.out] at x0 x1 x2
                  rw [hr2] at y0 y1 y2
                  have hrr : r ≠ r2 := by
                    have := hgm.out.inj i t hlt ht hit
                    rw [HRI.out, hr2] at this; exact this
                  have HMU : Hid (∀ W, Below wr.heap.size wr W → Calls Try.prog 81 #[.agg #[.bool fn, .slice fna fnl fnc, .slice fda fdl fdc], .agg #[.bool yn, .slice yna ynl ync, .slice yda ydl ydc]] W fun e w' => (∃ v, e = .returned v ∧ QV w' v (F * M1 t c)) ∧ Below W.heap.size W w') := fun W hW => rmul_c _ _ _ _ _ _ _ _ W (hqb.out.below hW) (hqy.below hW) (by have := HSZ2.out i k hlt hk; rw [HFE.out] at this; omega) (by have := HSZ2.out t c ht hlc; omega)
                  have hszm : sz (F * M1 t c) ≤ 1000000000000 := by
                    have a1 := sz_mul F (M1 t c)
                    have a2 := HSZ2.out i k hlt hk
                    rw [HFE.out] at a2
                    have a3 := HSZ2.out t c ht hlc
                    omega
                  have hszx : sz (M1 i c) ≤ 1000000000000 := by have := HSZ2.out i c hlt hlc; omega
                  obtain ⟨P, hP⟩ : ∃ q, F * M1 t c = q := ⟨_, rfl⟩
                  have HPE := Lib.hid hP
                  rw [hP] at HMU hszm
                  have HSU : Hid (∀ g vn vd W, Below wr.heap.size wr W → QC W g vn vd P → Calls Try.prog 80 #[.agg #[.bool xn, .slice xna xnl xnc, .slice xda xdl xdc], .agg #[.bool g, vn, vd]] W fun e w' => (∃ v, e = .returned v ∧ QV w' v (M1 i c - P)) ∧ Below W.heap.size W w') := fun g vn vd W hW hv => rsub_c _ _ _ _ _ _ _ _ W (hqx.below hW) hv hszx hszm
                  obtain ⟨T, hT⟩ : ∃ q, M1 i c - P = q := ⟨_, rfl⟩
                  have HTE := Lib.hid hT
                  rw [hT] at HSU
                  have HSC : Hid (∀ W, Below wr.heap.size wr W → (W.cell? ⟨gb, t, none⟩ = some (.slice (some ⟨r2, 0, none⟩) L r2c) ∧ W.cell? ⟨gb, i, none⟩ = some (.slice (some ⟨r, 0, none⟩) L rcap) ∧ W.cell? ⟨fb, 0, none⟩ = some (.bool fn) ∧ W.cell? ⟨fb, 1, none⟩ = some (.slice fna fnl fnc) ∧ W.cell? ⟨fb, 2, none⟩ = some (.slice fda fdl fdc) ∧ W.cell? ⟨r2, c * 3, none⟩ = some (.bool yn) ∧ W.cell? ⟨r2, c * 3 + 1, none⟩ = some (.slice yna ynl ync) ∧ W.cell? ⟨r2, c * 3 + 2, none⟩ = some (.slice yda ydl ydc))) := fun W hW => by
                    have g2 := hgm.out.below hW
                    have k1 := g2.rowCell ht
                    have k2 := g2.rowCell hlt
                    rw [HR2.out, HR2C.out] at k1
                    rw [HRI.out, HRCI.out] at k2
                    have k3 := below_blk hW hkb.out hkb.out.lt
                    have hr2l := hgm.out.rlt ht
                    rw [HR2.out] at hr2l
                    refine ⟨k1, k2, k3.cell 0 rfl, k3.cell 1 rfl, k3.cell 2 rfl, ?_, ?_, ?_⟩
                    · rw [hW.cell (p := ⟨r2, c * 3, none⟩) hr2l]; exact y0
                    · rw [hW.cell (p := ⟨r2, c * 3 + 1, none⟩) hr2l]; exact y1
                    · rw [hW.cell (p := ⟨r2, c * 3 + 2, none⟩) hr2l]; exact y2
                  have HSS : Hid (∀ w2 W', But r w2 W' → Below wr.heap.size wr w2 → (W'.cell? ⟨gb, t, none⟩ = some (.slice (some ⟨r2, 0, none⟩) L r2c) ∧ W'.cell? ⟨gb, i, none⟩ = some (.slice (some ⟨r, 0, none⟩) L rcap) ∧ W'.cell? ⟨fb, 0, none⟩ = some (.bool fn) ∧ W'.cell? ⟨fb, 1, none⟩ = some (.slice fna fnl fnc) ∧ W'.cell? ⟨fb, 2, none⟩ = some (.slice fda fdl fdc) ∧ W'.cell? ⟨r2, c * 3, none⟩ = some (.bool yn) ∧ W'.cell? ⟨r2, c * 3 + 1, none⟩ = some (.slice yna ynl ync) ∧ W'.cell? ⟨r2, c * 3 + 2, none⟩ = some (.slice yda ydl ydc))) := fun w2 W' hb hW => by
                    obtain ⟨k1, k2, k3, k4, k5, k6, k7, k8⟩ := HSC.out w2 hW
                    have n1 := (HRB.out i hlt).2.1
                    have n2 := HRBB.out i hlt
                    rw [HRI.out] at n1 n2
                    have g1 := (hgm.out.below hW).glt
                    have g2 := (below_blk hW hkb.out hkb.out.lt).lt
                    have g3 := (hgm.out.below hW).rlt ht
                    rw [HR2.out] at g3
                    have e1 := hb.block gb g1 (by intro e; injection e with e; exact n1 e.symm)
                    have e2 := hb.block fb g2 (by intro e; injection e with e; exact n2 e.symm)
                    have e3 := hb.block r2 g3 (by intro e; injection e with e; exact hrr e.symm)
                    exact ⟨by rw [World.cell?_of_block (w := w2) e1]; exact k1, by rw [World.cell?_of_block (w := w2) e1]; exact k2, by rw [World.cell?_of_block (w := w2) e2]; exact k3, by rw [World.cell?_of_block (w := w2) e2]; exact k4, by rw [World.cell?_of_block (w := w2) e2]; exact k5, by rw [World.cell?_of_block (w := w2) e3]; exact k6, by rw [World.cell?_of_block (w := w2) e3]; exact k7, by rw [World.cell?_of_block (w := w2) e3]; exact k8⟩
                  have E0 := Lib.hid (below_drew0 wr.heap.size wr)
                  have hlc1 : c < 1000000 := by omega
                  clear hT hP hqx hqy hxe hye hr2 hr2c hri hrt
                  go_wp2_with fail
                  rw [show Op.load 80 (.tmp 80) = hideLoad 80 (.tmp 80) from rfl]
                  go_region_held3 (fun W => (W.cell? ⟨gb, t, none⟩ = some (.slice (some ⟨r2, 0, none⟩) L r2c) ∧ W.cell? ⟨gb, i, none⟩ = some (.slice (some ⟨r, 0, none⟩) L rcap) ∧ W.cell? ⟨fb, 0, none⟩ = some (.bool fn) ∧ W.cell? ⟨fb, 1, none⟩ = some (.slice fna fnl fnc) ∧ W.cell? ⟨fb, 2, none⟩ = some (.slice fda fdl fdc) ∧ W.cell? ⟨r2, c * 3, none⟩ = some (.bool yn) ∧ W.cell? ⟨r2, c * 3 + 1, none⟩ = some (.slice yna ynl ync) ∧ W.cell? ⟨r2, c * 3 + 2, none⟩ = some (.slice yda ydl ydc)))
                    (first
                      | exact HSC.out _ E0.out
                      | exact HSC.out _ E1.out
                      | exact HSC.out _ E2.out
                      | exact HSF.out)
                    (first
                      | (go_simp; go_at_call 81; ((with_reducible refine (HMU.out _ E0.out).mono ?_); rintro e w2 ⟨⟨v2, rfl, pg, pn, pd, rfl, hpc⟩, hb2⟩; obtain ⟨pa, pca, pda, pdl, pdc, rfl, rfl, _⟩ := hpc.parts; have E1 := Lib.hid (belowT E0.out hb2); have HPC := Lib.hid hpc; obtain ⟨pl, hpl⟩ : ∃ l, ln P.num.natAbs = l := ⟨_, rfl⟩; rw [hpl] at HPC ⊢; have hx1l := hgm.out.rlt hlt; rw [HRI.out] at hx1l; have z0 : w2.cell? ⟨r, c * 3, none⟩ = some (.bool xn) := (E1.out.cell (p := ⟨r, c * 3, none⟩) hx1l).trans x0; have z1 : w2.cell? ⟨r, c * 3 + 1, none⟩ = some (.slice xna xnl xnc) := (E1.out.cell (p := ⟨r, c * 3 + 1, none⟩) hx1l).trans x1; have z2 : w2.cell? ⟨r, c * 3 + 2, none⟩ = some (.slice xda xdl xdc) := (E1.out.cell (p := ⟨r, c * 3 + 2, none⟩) hx1l).trans x2; clear hb2 hpc hpl))
                      | (go_simp; go_at_call 80; ((with_reducible refine (HSU.out _ _ _ _ E1.out HPC.out).mono ?_); rintro e w4 ⟨⟨v4, rfl, rg, rn, rd, rfl, hqc⟩, hb4⟩; obtain ⟨ra, rca, rda, rdl, rdc, rfl, rfl, _⟩ := hqc.parts; have E2 := Lib.hid (belowT E1.out hb4); have HQC := Lib.hid hqc; obtain ⟨rl, hrl⟩ : ∃ l, ln T.num.natAbs = l := ⟨_, rfl⟩; rw [hrl] at HQC ⊢; have gm2 := hgm.out.below E2.out; have HGM2 := Lib.hid gm2; obtain ⟨_, _, _, _, _, _, _, u0, u1, u2, _⟩ := gm2.ent hlt hlc; rw [HRI.out] at u0 u1 u2; have f0 := gm2.free hlt (c * 3); have f1 := gm2.free hlt (c * 3 + 1); have f2 := gm2.free hlt (c * 3 + 2); rw [HRI.out] at f0 f1 f2; have HSF := Lib.hid (HSS.out w4 _ (but_putQ w4 r (c * 3) rg (.slice ra rl rca) (.slice rda rdl rdc)) E2.out); clear hb4 hqc hrl gm2)))
                  all_goals
                    have hgp := (HGM2.out.put hlt hlc HQC.out)
                    rw [HRI.out] at hgp
                    have HGP : Hid (GM (putQ w4 r (c * 3) rg (.slice ra rl rca) (.slice rda rdl rdc)) base gb R L rb rc (elimTo M1 t k i (c + 1))) := hgp.congr (fun i' c' _ _ => by
                      unfold setM elimTo
                      by_cases h1 : i' = i ∧ c' = c
                      · rw [if_pos h1, if_pos (Or.inr ⟨h1.1, by omega⟩), h1.1, h1.2]
                        unfold elimM
                        rw [if_neg (by rw [HFE.out]; exact fun h => h.elim hit hf0), HFE.out, HPE.out, HTE.out]
                      · rw [if_neg h1]
                        by_cases h2 : i' < i ∨ i' = i ∧ c' < c
                        · rw [if_pos h2, if_pos (by omega)]
                        · rw [if_neg h2, if_neg (by omega)])
                    obtain ⟨rcur, rk1, _, _⟩ := HGM2.out.row i hlt
                    rw [HRI.out] at rk1
                    have HKB := Lib.hid ((but_putQ w4 r (c * 3) rg (.slice ra rl rca) (.slice rda rdl rdc)).blk (below_blk E2.out hkb.out hkb.out.lt) (by have := HRBB.out i hlt; rw [HRI.out] at this; exact fun e => this e.symm))
                    have HQB2 := Lib.hid (QC.put (b := r) (o := c * 3) (ng := rg) (vn := .slice ra rl rca) (vd := .slice rda rdl rdc) (hqb.out.below E2.out) rk1 (by decide))
                    have hbr : RS rb R r := ⟨i, hlt, HRI.out⟩
                    have HBL := Lib.hid ((((hbl.out.below E2.out).set (a := ⟨r, c * 3, none⟩) (Or.inl hbr) (.bool rg)).set (a := ⟨r, c * 3 + 1, none⟩) (Or.inl hbr) (.slice ra rl rca)).set (a := ⟨r, c * 3 + 2, none⟩) (Or.inl hbr) (.slice rda rdl rdc))
                    clear hgp rk1 hgm hkb hqb hbl HMU HSU HSC HSS x0 x1 x2 y0 y1 y2 u0 u1 u2 f0 f1 f2 HGM2 HSF HQC HPC E0 E1 E2 hit hf0 z0 z1 z2 hx1l
                    go_simp
                    go_wp2_with fail
                    go_roundw
                    case rel => exact ⟨c + 1, hlc, by go_num, HGP, HKB, HQB2, HBL⟩
                    case measure => (simp [intOf] <;> omega)
                · obtain rfl : L = c := by omega
                  have HG3 : Hid (GM _ base gb R L rb rc (elimTo M1 t k (i + 1) 0)) := hgm.out.congr (fun i' c' _ _ => by
                    unfold elimTo
                    by_cases h1 : i' < i ∨ i' = i ∧ c' < L
                    · rw [if_pos h1, if_pos (by omega)]
                    · rw [if_neg h1, if_neg (by omega)])
                  have HBE2 := Lib.hid hbl.out
                  clear hgm hkb hqb hbl hit hf0
                  go_wp2_with fail
                  go_roundw
                  case rel => exact ⟨i + 1, hlt, by go_num, HG3, HBE2⟩
                  case measure => (simp [intOf] <;> omega)
        · obtain rfl : R = i := by omega
          have HG3 : Hid (GM wr base gb R L rb rc (clearM M t k)) := hgm.out.congr (fun i' c' hi' _ => by
            unfold elimTo clearM
            rw [if_pos (Or.inl hi'), HM1E.out])
          have HBE2 := Lib.hid hbl.out
          clear hgm hbl
          go_wp2_with fail
          go_end0
          exact ⟨rfl, HG3.out, HBE2.out⟩
end Go.Proofs.Ythcddboeejbncaa
