/- nat.minus, nat.plus. -/
import Derived.Test.YtkpalfgnfhphjaaDoorNat7
namespace Go.Proofs.YtkpalfgnfhphjaaDoor
open Go.RowKit

theorem RO.set {base : Nat} {w : World} {g n c : Nat} {l : List Int} (h : RO base w (.slice (some ⟨g, 0, none⟩) n c) l) (hl : l.length = n) (i : Nat) (x : Int) : RO base (w.setCell ⟨g, i, none⟩ (.int .u32 x)) (.slice (some ⟨g, 0, none⟩) n c) (l.set i x) := by
  subst hl
  obtain ⟨h1, hv | ⟨g', cap, cur, hv, h2, h3, h4, h5, h6, h7⟩⟩ := h
  · cases hv.1
  · cases hv
    unfold RO
    rw [List.length_set]
    refine ⟨by rw [u32s_len]; simp, Or.inr ⟨g, c, cur.setIfInBounds i (.int .u32 x), rfl, h2, (show Blk w g cur _ from h3).set i _, h4, h5, by simpa using h6, ?_⟩⟩
    rw [Array.toList_setIfInBounds, u32s_set, ← h7, List.take_set]
def minusI (U B : List Int) (k : Nat) (q : Int) (i : Nat) (ds : List Int) (c br : Int) : Prop :=
  ds.length = U.length ∧ DgOk ds ∧ (∀ j, j < k ∨ k + i ≤ j → ds.getD j 0 = U.getD j 0) ∧ val ds = val U - q * val (B.take i) * pw k + (c + br) * pw (k + i)
theorem minus_alg {V W q X p r c c' br br' t y u d m p' : Int} (ht : t = c + q * y) (hq : t = 1000000000 * c' + m) (hd : d = u - m - br + 1000000000 * br') (hp : r = p * p') (h : V = W - q * X * p + (c + br) * r) : V + (d - u) * r = W - q * (X + p' * y) * p + (c' + br') * (1000000000 * r) := by
  grind
theorem minusI.step {U B : List Int} {k i : Nat} {q c br br' t d : Int} {ds : List Int} (h : minusI U B k q i ds c br) (hk : k + i < U.length) (ht : t = c + q * B.getD i 0) (h0 : 0 ≤ d) (h1 : d < 1000000000) (hd : d = U.getD (k + i) 0 - t % 1000000000 - br + 1000000000 * br') : minusI U B k q (i + 1) (ds.set (k + i) d) (t / 1000000000) br' := by
  obtain ⟨e1, e2, e3, e4⟩ := h
  refine ⟨by simp [e1], e2.set _ h0 h1, fun j hj => ?_, ?_⟩
  · rw [getD_set _ _ _ _ (by omega), if_neg (by omega)]; exact e3 j (by omega)
  · rw [val_set _ _ _ (by omega), e3 _ (Or.inr (Nat.le_refl _)), show k + (i + 1) = (k + i) + 1 by omega, pw_succ, val_take_next]
    exact minus_alg ht (by omega) hd (pw_add k i) e4
def plusI (U B : List Int) (k : Nat) (i : Nat) (ds : List Int) (c : Int) : Prop :=
  ds.length = U.length ∧ DgOk ds ∧ (∀ j, j < k ∨ k + i ≤ j → ds.getD j 0 = U.getD j 0) ∧ val ds = val U + val (B.take i) * pw k - c * pw (k + i)
theorem plus_alg {V W X p r c c' y u t m p' : Int} (ht : t = u + c + y) (hq : t = 1000000000 * c' + m) (hp : r = p * p') (h : V = W + X * p - c * r) : V + (m - u) * r = W + (X + p' * y) * p - c' * (1000000000 * r) := by
  grind
theorem plusI.step {U B : List Int} {k i : Nat} {c t : Int} {ds : List Int} (h : plusI U B k i ds c) (hk : k + i < U.length) (ht : t = U.getD (k + i) 0 + c + B.getD i 0) : plusI U B k (i + 1) (ds.set (k + i) (t % 1000000000)) (t / 1000000000) := by
  obtain ⟨e1, e2, e3, e4⟩ := h
  refine ⟨by simp [e1], e2.set _ (by omega) (by omega), fun j hj => ?_, ?_⟩
  · rw [getD_set _ _ _ _ (by omega), if_neg (by omega)]; exact e3 j (by omega)
  · rw [val_set _ _ _ (by omega), e3 _ (Or.inr (Nat.le_refl _)), show k + (i + 1) = (k + i) + 1 by omega, pw_succ, val_take_next]
    exact plus_alg ht (by omega) (pw_add k i) e4
theorem NV.but {g : Nat} {w w' : World} {va : Option Addr} {n c b : Nat} (h : NV w (.slice va n c) b) (k : But g w w') (hs : ∀ a, va = some a → a.block ≠ g) : NV w' (.slice va n c) b :=
  ⟨Reads.but h.1 k (fun a len cap e => hs a (by cases e; rfl)), fun g' off len cap e hl => by
    obtain ⟨cur, hc⟩ := h.2 g' off len cap e hl
    injection e with e1
    exact ⟨cur, k.blk hc (hs ⟨g', off, none⟩ e1)⟩⟩
set_option maxRecDepth 100000 in
set_option maxHeartbeats 4000000 in
theorem nminus_c (base g n c : Nat) (U : List Int) (vb : Option Addr) (cb b k : Nat) (q : Int) (w : World) (hr : RO base w (.slice (some ⟨g, 0, none⟩) n c) U) (hUl : U.length = n) (hd : DgOk U) (hb : NV w (.slice vb (ln b) cb) b) (hs : ∀ a, vb = some a → a.block ≠ g) (hk : k + ln b < n) (hq0 : 0 ≤ q) (hq1 : q < 1000000000) (hn : n ≤ 90000000000000) :
    Calls Tryd.prog 79 #[.slice (some ⟨g, 0, none⟩) n c, .slice vb (ln b) cb, .int .i64 k, .int .u64 q] w fun e w' =>
      (∃ U' br, e = .returned (.bool (decide (0 < br))) ∧ 0 ≤ br ∧ br ≤ 1 ∧ minusI U (dg b) k q (ln b + 1) U' 0 br ∧ RO base w' (.slice (some ⟨g, 0, none⟩) n c) U') ∧ But g w w' := by
  obtain ⟨m, hm⟩ : ∃ m, ln b = m := ⟨_, rfl⟩
  obtain ⟨B, hBE⟩ : ∃ A, dg b = A := ⟨_, rfl⟩
  have HBE := Lib.hid hBE
  have HDB : Hid (DgOk B) := hBE ▸ dg_ok b
  have HM := Lib.hid hm
  have HB := Lib.hid hb
  have HR := Lib.hid hr
  have HUL := Lib.hid hUl
  have HDU := Lib.hid hd
  have HS := Lib.hid hs
  rw [hm] at hk HB ⊢
  rw [hBE]
  clear hm hb hBE hr hUl hd hs
  go_enter Tryd.func79, Tryd.ntmps79
  go_wp2_with fail
  go_loopw [11, 10, 9] (fun ii cc bb wr => ∃ (i : Nat) (ds : List Int) (ca br : Int), i ≤ m + 1 ∧ ii = .int .i64 i ∧ cc = .int .u64 ca ∧ bb = .int .i64 br ∧ 0 ≤ ca ∧ ca < 1000000000 ∧ Hid (i = m + 1 → ca = 0) ∧ 0 ≤ br ∧ br ≤ 1 ∧ Hid (minusI U B k q i ds ca br) ∧ Hid (RO base wr (.slice (some ⟨g, 0, none⟩) n c) ds) ∧ Hid (But g w wr)) (fun ii _ _ _ => m + 1 - (intOf ii).toNat)
  case atStart => exact ⟨0, U, 0, 0, Nat.zero_le _, rfl, rfl, rfl, by omega, by omega, fun _ => rfl, by omega, by omega, ⟨rfl, HDU.out, fun _ _ => rfl, by simp [val]⟩, HR, But.refl _ _⟩
  case round =>
    obtain ⟨i, ds, ca, br, hi, rfl, rfl, rfl, hc0, hc1, hcz, hb0, hb1, hI, hr, hb⟩ := hrel
    by_cases hlt : i ≤ m
    · have hon : k + i < n := by omega
      obtain ⟨o, ho⟩ : ∃ o, ds.getD (k + i) 0 = o := ⟨_, rfl⟩
      obtain ⟨g', e1, _, hcl, hfz⟩ := (show RO base wr (.slice (some ⟨g, 0, none⟩) ds.length c) ds by rw [hI.out.1, HUL.out]; exact hr.out).cell (j := k + i) (by rw [hI.out.1, HUL.out]; exact hon)
      cases e1
      rw [ho] at hcl
      have hou : U.getD (k + i) 0 = o := by rw [← ho]; exact (hI.out.2.2.1 _ (Or.inr (Nat.le_refl _))).symm
      have hob := hI.out.2.1.getD (k + i)
      rw [ho] at hob
      clear ho
      have e1 : ((k : Int) + i).toNat = k + i := by omega
      by_cases hlm : i < m
      · obtain ⟨g2, o2, c2, e2, _, x2⟩ := (HB.out.but hb.out HS.out).at HM.out (j := i) hlm
        cases e2
        obtain ⟨y, hy⟩ : ∃ y, B.getD i 0 = y := ⟨_, rfl⟩
        rw [HBE.out, hy] at x2
        have HY := Lib.hid hy
        have hyb := HDB.out.getD i
        rw [hy] at hyb
        clear hy
        have hmr := mul_range hq0 hq1 hyb.1 hyb.2
        by_cases hneg : o - (ca + q * y) % 1000000000 - br < 0
        · have q2 : decide (o - (ca + q * y) % 1000000000 - br < 0) = true := decide_eq_true hneg
          have HI' := Lib.hid (hI.out.step (t := (ca + q * y)) (br' := 1) (by rw [HUL.out]; omega) (by rw [HY.out] <;> omega) (show 0 ≤ (o - (ca + q * y) % 1000000000 - br + 1000000000) by omega) (show (o - (ca + q * y) % 1000000000 - br + 1000000000) < 1000000000 by omega) (by rw [hou]; omega))
          have HR' : Hid (RO base (wr.setCell ⟨g, k + i, none⟩ (.int .u32 ((o - (ca + q * y) % 1000000000 - br + 1000000000)))) (.slice (some ⟨g, 0, none⟩) n c) _) := hr.out.set (by rw [hI.out.1, HUL.out]) (k + i) ((o - (ca + q * y) % 1000000000 - br + 1000000000))
          have HB' := Lib.hid (hb.out.set (k + i) (.int .u32 ((o - (ca + q * y) % 1000000000 - br + 1000000000))))
          have hcb : 0 ≤ (ca + q * y) / 1000000000 ∧ (ca + q * y) / 1000000000 < 1000000000 := by omega
          have hce : i + 1 = m + 1 → (ca + q * y) / 1000000000 = 0 := fun h => by omega
          have HCB := Lib.hid hcb
          have HCE := Lib.hid hce
          clear hI hb hr hou hcb hce
          go_wp2_with fail
          go_roundw
          case rel => exact ⟨i + 1, _, (ca + q * y) / 1000000000, 1, by omega, by go_num, rfl, rfl, HCB.out.1, HCB.out.2, HCE, by omega, by omega, HI', HR', HB'⟩
          case measure => (simp [intOf] <;> omega)
        · have q2 : decide (o - (ca + q * y) % 1000000000 - br < 0) = false := decide_eq_false hneg
          have HI' := Lib.hid (hI.out.step (t := (ca + q * y)) (br' := 0) (by rw [HUL.out]; omega) (by rw [HY.out] <;> omega) (show 0 ≤ (o - (ca + q * y) % 1000000000 - br) by omega) (show (o - (ca + q * y) % 1000000000 - br) < 1000000000 by omega) (by rw [hou]; omega))
          have HR' : Hid (RO base (wr.setCell ⟨g, k + i, none⟩ (.int .u32 ((o - (ca + q * y) % 1000000000 - br)))) (.slice (some ⟨g, 0, none⟩) n c) _) := hr.out.set (by rw [hI.out.1, HUL.out]) (k + i) ((o - (ca + q * y) % 1000000000 - br))
          have HB' := Lib.hid (hb.out.set (k + i) (.int .u32 ((o - (ca + q * y) % 1000000000 - br))))
          have hcb : 0 ≤ (ca + q * y) / 1000000000 ∧ (ca + q * y) / 1000000000 < 1000000000 := by omega
          have hce : i + 1 = m + 1 → (ca + q * y) / 1000000000 = 0 := fun h => by omega
          have HCB := Lib.hid hcb
          have HCE := Lib.hid hce
          clear hI hb hr hou hcb hce
          go_wp2_with fail
          go_roundw
          case rel => exact ⟨i + 1, _, (ca + q * y) / 1000000000, 0, by omega, by go_num, rfl, rfl, HCB.out.1, HCB.out.2, HCE, by omega, by omega, HI', HR', HB'⟩
          case measure => (simp [intOf] <;> omega)
      · have HY : Hid (B.getD i 0 = 0) := by
          show _ = _
          rw [List.getD_eq_getElem?_getD, List.getElem?_eq_none (by rw [← HBE.out]; show ln _ ≤ i; rw [HM.out]; omega)]; rfl
        by_cases hneg : o - ca % 1000000000 - br < 0
        · have q2 : decide (o - ca % 1000000000 - br < 0) = true := decide_eq_true hneg
          have HI' := Lib.hid (hI.out.step (t := ca) (br' := 1) (by rw [HUL.out]; omega) (by rw [HY.out] <;> omega) (show 0 ≤ (o - ca % 1000000000 - br + 1000000000) by omega) (show (o - ca % 1000000000 - br + 1000000000) < 1000000000 by omega) (by rw [hou]; omega))
          have HR' : Hid (RO base (wr.setCell ⟨g, k + i, none⟩ (.int .u32 ((o - ca % 1000000000 - br + 1000000000)))) (.slice (some ⟨g, 0, none⟩) n c) _) := hr.out.set (by rw [hI.out.1, HUL.out]) (k + i) ((o - ca % 1000000000 - br + 1000000000))
          have HB' := Lib.hid (hb.out.set (k + i) (.int .u32 ((o - ca % 1000000000 - br + 1000000000))))
          have hcb : 0 ≤ ca / 1000000000 ∧ ca / 1000000000 < 1000000000 := by omega
          have hce : i + 1 = m + 1 → ca / 1000000000 = 0 := fun h => by omega
          have HCB := Lib.hid hcb
          have HCE := Lib.hid hce
          clear hI hb hr hou hcb hce
          go_wp2_with fail
          go_roundw
          case rel => exact ⟨i + 1, _, ca / 1000000000, 1, by omega, by go_num, rfl, rfl, HCB.out.1, HCB.out.2, HCE, by omega, by omega, HI', HR', HB'⟩
          case measure => (simp [intOf] <;> omega)
        · have q2 : decide (o - ca % 1000000000 - br < 0) = false := decide_eq_false hneg
          have HI' := Lib.hid (hI.out.step (t := ca) (br' := 0) (by rw [HUL.out]; omega) (by rw [HY.out] <;> omega) (show 0 ≤ (o - ca % 1000000000 - br) by omega) (show (o - ca % 1000000000 - br) < 1000000000 by omega) (by rw [hou]; omega))
          have HR' : Hid (RO base (wr.setCell ⟨g, k + i, none⟩ (.int .u32 ((o - ca % 1000000000 - br)))) (.slice (some ⟨g, 0, none⟩) n c) _) := hr.out.set (by rw [hI.out.1, HUL.out]) (k + i) ((o - ca % 1000000000 - br))
          have HB' := Lib.hid (hb.out.set (k + i) (.int .u32 ((o - ca % 1000000000 - br))))
          have hcb : 0 ≤ ca / 1000000000 ∧ ca / 1000000000 < 1000000000 := by omega
          have hce : i + 1 = m + 1 → ca / 1000000000 = 0 := fun h => by omega
          have HCB := Lib.hid hcb
          have HCE := Lib.hid hce
          clear hI hb hr hou hcb hce
          go_wp2_with fail
          go_roundw
          case rel => exact ⟨i + 1, _, ca / 1000000000, 0, by omega, by go_num, rfl, rfl, HCB.out.1, HCB.out.2, HCE, by omega, by omega, HI', HR', HB'⟩
          case measure => (simp [intOf] <;> omega)
    · obtain rfl : i = m + 1 := by omega
      obtain rfl : ca = 0 := hcz.out rfl
      go_wp2_with fail
      go_ret
      exact ⟨⟨ds, br, rfl, hb0, hb1, hI.out, hr.out⟩, hb.out⟩
set_option maxRecDepth 100000 in
set_option maxHeartbeats 4000000 in
theorem nplus_c (base g n c : Nat) (U : List Int) (vb : Option Addr) (cb b k : Nat) (w : World) (hr : RO base w (.slice (some ⟨g, 0, none⟩) n c) U) (hUl : U.length = n) (hd : DgOk U) (hb : NV w (.slice vb (ln b) cb) b) (hs : ∀ a, vb = some a → a.block ≠ g) (hk : k + ln b < n) (hn : n ≤ 90000000000000) :
    Calls Tryd.prog 80 #[.slice (some ⟨g, 0, none⟩) n c, .slice vb (ln b) cb, .int .i64 k] w fun e w' =>
      (∃ U' br, e = .returned (.tuple #[]) ∧ 0 ≤ br ∧ br ≤ 1 ∧ plusI U (dg b) k (ln b + 1) U' br ∧ RO base w' (.slice (some ⟨g, 0, none⟩) n c) U') ∧ But g w w' := by
  obtain ⟨m, hm⟩ : ∃ m, ln b = m := ⟨_, rfl⟩
  obtain ⟨B, hBE⟩ : ∃ A, dg b = A := ⟨_, rfl⟩
  have HBE := Lib.hid hBE
  have HDB : Hid (DgOk B) := hBE ▸ dg_ok b
  have HM := Lib.hid hm
  have HB := Lib.hid hb
  have HR := Lib.hid hr
  have HUL := Lib.hid hUl
  have HDU := Lib.hid hd
  have HS := Lib.hid hs
  rw [hm] at hk HB ⊢
  rw [hBE]
  clear hm hb hBE hr hUl hd hs
  go_enter Tryd.func80, Tryd.ntmps80
  go_wp2_with fail
  go_loopw [7, 6] (fun ii cc wr => ∃ (i : Nat) (ds : List Int) (ca : Int), i ≤ m + 1 ∧ ii = .int .i64 i ∧ cc = .int .u32 ca ∧ 0 ≤ ca ∧ ca ≤ 1 ∧ Hid (plusI U B k i ds ca) ∧ Hid (RO base wr (.slice (some ⟨g, 0, none⟩) n c) ds) ∧ Hid (But g w wr)) (fun ii _ _ => m + 1 - (intOf ii).toNat)
  case atStart => exact ⟨0, U, 0, Nat.zero_le _, rfl, rfl, by omega, by omega, ⟨rfl, HDU.out, fun _ _ => rfl, by simp [val]⟩, HR, But.refl _ _⟩
  case round =>
    obtain ⟨i, ds, ca, hi, rfl, rfl, hc0, hc1, hI, hr, hb⟩ := hrel
    by_cases hlt : i ≤ m
    · have hon : k + i < n := by omega
      obtain ⟨o, ho⟩ : ∃ o, ds.getD (k + i) 0 = o := ⟨_, rfl⟩
      obtain ⟨g', e1, _, hcl, hfz⟩ := (show RO base wr (.slice (some ⟨g, 0, none⟩) ds.length c) ds by rw [hI.out.1, HUL.out]; exact hr.out).cell (j := k + i) (by rw [hI.out.1, HUL.out]; exact hon)
      cases e1
      rw [ho] at hcl
      have hou : U.getD (k + i) 0 = o := by rw [← ho]; exact (hI.out.2.2.1 _ (Or.inr (Nat.le_refl _))).symm
      have hob := hI.out.2.1.getD (k + i)
      rw [ho] at hob
      clear ho
      have e1 : ((k : Int) + i).toNat = k + i := by omega
      by_cases hlm : i < m
      · obtain ⟨g2, o2, c2, e2, _, x2⟩ := (HB.out.but hb.out HS.out).at HM.out (j := i) hlm
        cases e2
        obtain ⟨y, hy⟩ : ∃ y, B.getD i 0 = y := ⟨_, rfl⟩
        rw [HBE.out, hy] at x2
        have HY := Lib.hid hy
        have hyb := HDB.out.getD i
        rw [hy] at hyb
        clear hy
        have HI' := Lib.hid (hI.out.step (t := (o + ca + y)) (by rw [HUL.out]; omega) (by rw [HY.out, hou] <;> omega))
        have HR' : Hid (RO base (wr.setCell ⟨g, k + i, none⟩ (.int .u32 ((o + ca + y) % 1000000000))) (.slice (some ⟨g, 0, none⟩) n c) _) := hr.out.set (by rw [hI.out.1, HUL.out]) (k + i) ((o + ca + y) % 1000000000)
        have HB' := Lib.hid (hb.out.set (k + i) (.int .u32 ((o + ca + y) % 1000000000)))
        have hcb : 0 ≤ (o + ca + y) / 1000000000 ∧ (o + ca + y) / 1000000000 ≤ 1 := by omega
        have HCB := Lib.hid hcb
        clear hI hb hr hou hcb
        go_wp2_with fail
        go_roundw
        case rel => exact ⟨i + 1, _, (o + ca + y) / 1000000000, by omega, by go_num, rfl, HCB.out.1, HCB.out.2, HI', HR', HB'⟩
        case measure => (simp [intOf] <;> omega)
      · have HY : Hid (B.getD i 0 = 0) := by
          show _ = _
          rw [List.getD_eq_getElem?_getD, List.getElem?_eq_none (by rw [← HBE.out]; show ln _ ≤ i; rw [HM.out]; omega)]; rfl
        have HI' := Lib.hid (hI.out.step (t := (o + ca)) (by rw [HUL.out]; omega) (by rw [HY.out, hou] <;> omega))
        have HR' : Hid (RO base (wr.setCell ⟨g, k + i, none⟩ (.int .u32 ((o + ca) % 1000000000))) (.slice (some ⟨g, 0, none⟩) n c) _) := hr.out.set (by rw [hI.out.1, HUL.out]) (k + i) ((o + ca) % 1000000000)
        have HB' := Lib.hid (hb.out.set (k + i) (.int .u32 ((o + ca) % 1000000000)))
        have hcb : 0 ≤ (o + ca) / 1000000000 ∧ (o + ca) / 1000000000 ≤ 1 := by omega
        have HCB := Lib.hid hcb
        clear hI hb hr hou hcb
        go_wp2_with fail
        go_roundw
        case rel => exact ⟨i + 1, _, (o + ca) / 1000000000, by omega, by go_num, rfl, HCB.out.1, HCB.out.2, HI', HR', HB'⟩
        case measure => (simp [intOf] <;> omega)
    · obtain rfl : i = m + 1 := by omega
      go_wp2_with fail
      go_end0
      exact ⟨⟨ds, ca, rfl, hc0, hc1, hI.out, hr.out⟩, hb.out⟩
end Go.Proofs.YtkpalfgnfhphjaaDoor
