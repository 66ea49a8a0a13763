/- nat.minus, nat.plus. Division of naturals: a round. -/
import Derived.Test.YthcddboeejbncaaPkNat5Nat7
import Derived.Test.YthcddboeejbncaaPkTxt3NatD
namespace Go.Proofs.Ythcddboeejbncaa
open Go.RowKit

theorem RO.set {base : Nat} {w : World} {g n c : Nat} {l : List Int} (h : RO base w (.slice (some ⟨g, 0, none⟩) n c) l) (hl : l.length = n) (i : Nat) (x : Int) : RO base (w.setCell ⟨g, i, none⟩ (.int .u32 x)) (.slice (some ⟨g, 0, none⟩) n c) (l.set i x) := by
  subst hl
  obtain ⟨h1, hv | ⟨g', cap, cur, hv, h2, h3, h4, h5, h6, h7⟩⟩ := h
  · cases hv.1
  · cases hv
    unfold RO
    rw [List.length_set]
    refine ⟨by rw [u32s_len]; simp, Or.inr ⟨g, c, cur.setIfInBounds i (.int .u32 x), rfl, h2, (show Blk w g cur _ from h3).set i _, h4, h5, by simpa using h6, ?_⟩⟩
    rw [Array.toList_setIfInBounds, u32s_set, ← h7, List.take_set]
def minusI (U B : List Int) (k : Nat) (q : Int) (i : Nat) (ds : List Int) (c br : Int) : Prop :=
  ds.length = U.length ∧ DgOk ds ∧ (∀ j, j < k ∨ k + i ≤ j → ds.getD j 0 = U.getD j 0) ∧ val ds = val U - q * val (B.take i) * pw k + (c + br) * pw (k + i)
theorem minus_alg {V W q X p r c c' br br' t y u d m p' : Int} (ht : t = c + q * y) (hq : t = 1000000000 * c' + m) (hd : d = u - m - br + 1000000000 * br') (hp : r = p * p') (h : V = W - q * X * p + (c + br) * r) : V + (d - u) * r = W - q * (X + p' * y) * p + (c' + br') * (1000000000 * r) := by
  grind
theorem minusI.step {U B : List Int} {k i : Nat} {q c br br' t d : Int} {ds : List Int} (h : minusI U B k q i ds c br) (hk : k + i < U.length) (ht : t = c + q * B.getD i 0) (h0 : 0 ≤ d) (h1 : d < 1000000000) (hd : d = U.getD (k + i) 0 - t % 1000000000 - br + 1000000000 * br') : minusI U B k q (i + 1) (ds.set (k + i) d) (t / 1000000000) br' := by
  obtain ⟨e1, e2, e3, e4⟩ := h
  refine ⟨by simp [e1], e2.set _ h0 h1, fun j hj => ?_, ?_⟩
  · rw [getD_set _ _ _ _ (by omega), if_neg (by omega)]; exact e3 j (by omega)
  · rw [val_set _ _ _ (by omega), e3 _ (Or.inr (Nat.le_refl _)), show k + (i + 1) = (k + i) + 1 by omega, pw_succ, val_take_next]
    exact minus_alg ht (by omega) hd (pw_add k i) e4
def plusI (U B : List Int) (k : Nat) (i : Nat) (ds : List Int) (c : Int) : Prop :=
  ds.length = U.length ∧ DgOk ds ∧ (∀ j, j < k ∨ k + i ≤ j → ds.getD j 0 = U.getD j 0) ∧ val ds = val U + val (B.take i) * pw k - c * pw (k + i)
theorem plus_alg {V W X p r c c' y u t m p' : Int} (ht : t = u + c + y) (hq : t = 1000000000 * c' + m) (hp : r = p * p') (h : V = W + X * p - c * r) : V + (m - u) * r = W + (X + p' * y) * p - c' * (1000000000 * r) := by
  grind
theorem plusI.step {U B : List Int} {k i : Nat} {c t : Int} {ds : List Int} (h : plusI U B k i ds c) (hk : k + i < U.length) (ht : t = U.getD (k + i) 0 + c + B.getD i 0) : plusI U B k (i + 1) (ds.set (k + i) (t % 1000000000)) (t / 1000000000) := by
  obtain ⟨e1, e2, e3, e4⟩ := h
  refine ⟨by simp [e1], e2.set _ (by omega) (by omega), fun j hj => ?_, ?_⟩
  · rw [getD_set _ _ _ _ (by omega), if_neg (by omega)]; exact e3 j (by omega)
  · rw [val_set _ _ _ (by omega), e3 _ (Or.inr (Nat.le_refl _)), show k + (i + 1) = (k + i) + 1 by omega, pw_succ, val_take_next]
    exact plus_alg ht (by omega) (pw_add k i) e4
theorem NV.but {g : Nat} {w w' : World} {va : Option Addr} {n c b : Nat} (h : NV w (.slice va n c) b) (k : But g w w') (hs : ∀ a, va = some a → a.block ≠ g) : NV w' (.slice va n c) b :=
  ⟨Reads.but h.1 k (fun a len cap e => hs a (by cases e; rfl)), fun g' off len cap e hl => by
    obtain ⟨cur, hc⟩ := h.2 g' off len cap e hl
    injection e with e1
    exact ⟨cur, k.blk hc (hs ⟨g', off, none⟩ e1)⟩⟩
set_option maxRecDepth 100000 in
set_option maxHeartbeats 4000000 in
theorem nminus_c (base g n c : Nat) (U : List Int) (vb : Option Addr) (cb b k : Nat) (q : Int) (w : World) (hr : RO base w (.slice (some ⟨g, 0, none⟩) n c) U) (hUl : U.length = n) (hd : DgOk U) (hb : NV w (.slice vb (ln b) cb) b) (hs : ∀ a, vb = some a → a.block ≠ g) (hk : k + ln b < n) (hq0 : 0 ≤ q) (hq1 : q < 1000000000) (hn : n ≤ 90000000000000) :
    Calls Try.prog 98 #[.slice (some ⟨g, 0, none⟩) n c, .slice vb (ln b) cb, .int .i64 k, .int .u64 q] w fun e w' =>
      (∃ U' br, e = .returned (.bool (decide (0 < br))) ∧ 0 ≤ br ∧ br ≤ 1 ∧ minusI U (dg b) k q (ln b + 1) U' 0 br ∧ RO base w' (.slice (some ⟨g, 0, none⟩) n c) U') ∧ But g w w' := by
  obtain ⟨m, hm⟩ : ∃ m, ln b = m := ⟨_, rfl⟩
  obtain ⟨B, hBE⟩ : ∃ A, dg b = A := ⟨_, rfl⟩
  have HBE := Lib.hid hBE
  have HDB : Hid (DgOk B) := hBE ▸ dg_ok b
  have HM := Lib.hid hm
  have HB := Lib.hid hb
  have HR := Lib.hid hr
  have HUL := Lib.hid hUl
  have HDU := Lib.hid hd
  have HS := Lib.hid hs
  rw [hm] at hk HB ⊢
  rw [hBE]
  clear hm hb hBE hr hUl hd hs
  go_enter Try.func98, Try.ntmps98
  go_wp2_with fail
  go_loopw [11, 10, 9] (fun ii cc bb wr => ∃ (i : Nat) (ds : List Int) (ca br : Int), i ≤ m + 1 ∧ ii = .int .i64 i ∧ cc = .int .u64 ca ∧ bb = .int .i64 br ∧ 0 ≤ ca ∧ ca < 1000000000 ∧ Hid (i = m + 1 → ca = 0) ∧ 0 ≤ br ∧ br ≤ 1 ∧ Hid (minusI U B k q i ds ca br) ∧ Hid (RO base wr (.slice (some ⟨g, 0, none⟩) n c) ds) ∧ Hid (But g w wr)) (fun ii _ _ _ => m + 1 - (intOf ii).toNat)
  case atStart => exact ⟨0, U, 0, 0, Nat.zero_le _, rfl, rfl, rfl, by omega, by omega, fun _ => rfl, by omega, by omega, ⟨rfl, HDU.out, fun _ _ => rfl, by simp [val]⟩, HR, But.refl _ _⟩
  case round =>
    obtain ⟨i, ds, ca, br, hi, rfl, rfl, rfl, hc0, hc1, hcz, hb0, hb1, hI, hr, hb⟩ := hrel
    by_cases hlt : i ≤ m
    · have hon : k + i < n := by omega
      obtain ⟨o, ho⟩ : ∃ o, ds.getD (k + i) 0 = o := ⟨_, rfl⟩
      obtain ⟨g', e1, _, hcl, hfz⟩ := (show RO base wr (.slice (some ⟨g, 0, none⟩) ds.length c) ds by rw [hI.out.1, HUL.out]; exact hr.out).cell (j := k + i) (by rw [hI.out.1, HUL.out]; exact hon)
      cases e1
      rw [ho] at hcl
      have hou : U.getD (k + i) 0 = o := by rw [← ho]; exact (hI.out.2.2.1 _ (Or.inr (Nat.le_refl _))).symm
      have hob := hI.out.2.1.getD (k + i)
      rw [ho] at hob
      clear ho
      have e1 : ((k : Int) + i).toNat = k + i := by omega
      by_cases hlm : i < m
      · obtain ⟨g2, o2, c2, e2, _, x2⟩ := (HB.out.but hb.out HS.out).at HM.out (j := i) hlm
        cases e2
        obtain ⟨y, hy⟩ : ∃ y, B.getD i 0 = y := ⟨_, rfl⟩
        rw [HBE.out, hy] at x2
        have HY := Lib.hid hy
        have hyb := HDB.out.getD i
        rw [hy] at hyb
        clear hy
        have hmr := mul_range hq0 hq1 hyb.1 hyb.2
        by_cases hneg : o - (ca + q * y) % 1000000000 - br < 0
        · have q2 : decide (o - (ca + q * y) % 1000000000 - br < 0) = true := decide_eq_true hneg
          have HI' := Lib.hid (hI.out.step (t := (ca + q * y)) (br' := 1) (by rw [HUL.out]; omega) (by rw [HY.out] <;> omega) (show 0 ≤ (o - (ca + q * y) % 1000000000 - br + 1000000000) by omega) (show (o - (ca + q * y) % 1000000000 - br + 1000000000) < 1000000000 by omega) (by rw [hou]; omega))
          have HR' : Hid (RO base (wr.setCell ⟨g, k + i, none⟩ (.int .u32 ((o - (ca + q * y) % 1000000000 - br + 1000000000)))) (.slice (some ⟨g, 0, none⟩) n c) _) := hr.out.set (by rw [hI.out.1, HUL.out]) (k + i) ((o - (ca + q * y) % 1000000000 - br + 1000000000))
          have HB' := Lib.hid (hb.out.set (k + i) (.int .u32 ((o - (ca + q * y) % 1000000000 - br + 1000000000))))
          have hcb : 0 ≤ (ca + q * y) / 1000000000 ∧ (ca + q * y) / 1000000000 < 1000000000 := by omega
          have hce : i + 1 = m + 1 → (ca + q * y) / 1000000000 = 0 := fun h => by omega
          have HCB := Lib.hid hcb
          have HCE := Lib.hid hce
          clear hI hb hr hou hcb hce
          go_wp2_with fail
          go_roundw
          case rel => exact ⟨i + 1, _, (ca + q * y) / 1000000000, 1, by omega, by go_num, rfl, rfl, HCB.out.1, HCB.out.2, HCE, by omega, by omega, HI', HR', HB'⟩
          case measure => (simp [intOf] <;> omega)
        · have q2 : decide (o - (ca + q * y) % 1000000000 - br < 0) = false := decide_eq_false hneg
          have HI' := Lib.hid (hI.out.step (t := (ca + q * y)) (br' := 0) (by rw [HUL.out]; omega) (by rw [HY.out] <;> omega) (show 0 ≤ (o - (ca + q * y) % 1000000000 - br) by omega) (show (o - (ca + q * y) % 1000000000 - br) < 1000000000 by omega) (by rw [hou]; omega))
          have HR' : Hid (RO base (wr.setCell ⟨g, k + i, none⟩ (.int .u32 ((o - (ca + q * y) % 1000000000 - br)))) (.slice (some ⟨g, 0, none⟩) n c) _) := hr.out.set (by rw [hI.out.1, HUL.out]) (k + i) ((o - (ca + q * y) % 1000000000 - br))
          have HB' := Lib.hid (hb.out.set (k + i) (.int .u32 ((o - (ca + q * y) % 1000000000 - br))))
          have hcb : 0 ≤ (ca + q * y) / 1000000000 ∧ (ca + q * y) / 1000000000 < 1000000000 := by omega
          have hce : i + 1 = m + 1 → (ca + q * y) / 1000000000 = 0 := fun h => by omega
          have HCB := Lib.hid hcb
          have HCE := Lib.hid hce
          clear hI hb hr hou hcb hce
          go_wp2_with fail
          go_roundw
          case rel => exact ⟨i + 1, _, (ca + q * y) / 1000000000, 0, by omega, by go_num, rfl, rfl, HCB.out.1, HCB.out.2, HCE, by omega, by omega, HI', HR', HB'⟩
          case measure => (simp [intOf] <;> omega)
      · have HY : Hid (B.getD i 0 = 0) := by
          show _ = _
          rw [List.getD_eq_getElem?_getD, List.getElem?_eq_none (by rw [← HBE.out]; show ln _ ≤ i; rw [HM.out]; omega)]; rfl
        by_cases hneg : o - ca % 1000000000 - br < 0
        · have q2 : decide (o - ca % 1000000000 - br < 0) = true := decide_eq_true hneg
          have HI' := Lib.hid (hI.out.step (t := ca) (br' := 1) (by rw [HUL.out]; omega) (by rw [HY.out] <;> omega) (show 0 ≤ (o - ca % 1000000000 - br + 1000000000) by omega) (show (o - ca % 1000000000 - br + 1000000000) < 1000000000 by omega) (by rw [hou]; omega))
          have HR' : Hid (RO base (wr.setCell ⟨g, k + i, none⟩ (.int .u32 ((o - ca % 1000000000 - br + 1000000000)))) (.slice (some ⟨g, 0, none⟩) n c) _) := hr.out.set (by rw [hI.out.1, HUL.out]) (k + i) ((o - ca % 1000000000 - br + 1000000000))
          have HB' := Lib.hid (hb.out.set (k + i) (.int .u32 ((o - ca % 1000000000 - br + 1000000000))))
          have hcb : 0 ≤ ca / 1000000000 ∧ ca / 1000000000 < 1000000000 := by omega
          have hce : i + 1 = m + 1 → ca / 1000000000 = 0 := fun h => by omega
          have HCB := Lib.hid hcb
          have HCE := Lib.hid hce
          clear hI hb hr hou hcb hce
          go_wp2_with fail
          go_roundw
          case rel => exact ⟨i + 1, _, ca / 1000000000, 1, by omega, by go_num, rfl, rfl, HCB.out.1, HCB.out.2, HCE, by omega, by omega, HI', HR', HB'⟩
          case measure => (simp [intOf] <;> omega)
        · have q2 : decide (o - ca % 1000000000 - br < 0) = false := decide_eq_false hneg
          have HI' := Lib.hid (hI.out.step (t := ca) (br' := 0) (by rw [HUL.out]; omega) (by rw [HY.out] <;> omega) (show 0 ≤ (o - ca % 1000000000 - br) by omega) (show (o - ca % 1000000000 - br) < 1000000000 by omega) (by rw [hou]; omega))
          have HR' : Hid (RO base (wr.setCell ⟨g, k + i, none⟩ (.int .u32 ((o - ca % 1000000000 - br)))) (.slice (some ⟨g, 0, none⟩) n c) _) := hr.out.set (by rw [hI.out.1, HUL.out]) (k + i) ((o - ca % 1000000000 - br))
          have HB' := Lib.hid (hb.out.set (k + i) (.int .u32 ((o - ca % 1000000000 - br))))
          have hcb : 0 ≤ ca / 1000000000 ∧ ca / 1000000000 < 1000000000 := by omega
          have hce : i + 1 = m + 1 → ca / 1000000000 = 0 := fun h => by omega
          have HCB := Lib.hid hcb
          have HCE := Lib.hid hce
          clear hI hb hr hou hcb hce
          go_wp2_with fail
          go_roundw
          case rel => exact ⟨i + 1, _, ca / 1000000000, 0, by omega, by go_num, rfl, rfl, HCB.out.1, HCB.out.2, HCE, by omega, by omega, HI', HR', HB'⟩
          case measure => (simp [intOf] <;> omega)
    · obtain rfl : i = m + 1 := by omega
      obtain rfl : ca = 0 := hcz.out rfl
      go_wp2_with fail
      go_ret
      exact ⟨⟨ds, br, rfl, hb0, hb1, hI.out, hr.out⟩, hb.out⟩
set_option maxRecDepth 100000 in
set_option maxHeartbeats 4000000 in
theorem nplus_c (base g n c : Nat) (U : List Int) (vb : Option Addr) (cb b k : Nat) (w : World) (hr : RO base w (.slice (some ⟨g, 0, none⟩) n c) U) (hUl : U.length = n) (hd : DgOk U) (hb : NV w (.slice vb (ln b) cb) b) (hs : ∀ a, vb = some a → a.block ≠ g) (hk : k + ln b < n) (hn : n ≤ 90000000000000) :
    Calls Try.prog 99 #[.slice (some ⟨g, 0, none⟩) n c, .slice vb (ln b) cb, .int .i64 k] w fun e w' =>
      (∃ U' br, e = .returned (.tuple #[]) ∧ 0 ≤ br ∧ br ≤ 1 ∧ plusI U (dg b) k (ln b + 1) U' br ∧ RO base w' (.slice (some ⟨g, 0, none⟩) n c) U') ∧ But g w w' := by
  obtain ⟨m, hm⟩ : ∃ m, ln b = m := ⟨_, rfl⟩
  obtain ⟨B, hBE⟩ : ∃ A, dg b = A := ⟨_, rfl⟩
  have HBE := Lib.hid hBE
  have HDB : Hid (DgOk B) := hBE ▸ dg_ok b
  have HM := Lib.hid hm
  have HB := Lib.hid hb
  have HR := Lib.hid hr
  have HUL := Lib.hid hUl
  have HDU := Lib.hid hd
  have HS := Lib.hid hs
  rw [hm] at hk HB ⊢
  rw [hBE]
  clear hm hb hBE hr hUl hd hs
  go_enter Try.func99, Try.ntmps99
  go_wp2_with fail
  go_loopw [7, 6] (fun ii cc wr => ∃ (i : Nat) (ds : List Int) (ca : Int), i ≤ m + 1 ∧ ii = .int .i64 i ∧ cc = .int .u32 ca ∧ 0 ≤ ca ∧ ca ≤ 1 ∧ Hid (plusI U B k i ds ca) ∧ Hid (RO base wr (.slice (some ⟨g, 0, none⟩) n c) ds) ∧ Hid (But g w wr)) (fun ii _ _ => m + 1 - (intOf ii).toNat)
  case atStart => exact ⟨0, U, 0, Nat.zero_le _, rfl, rfl, by omega, by omega, ⟨rfl, HDU.out, fun _ _ => rfl, by simp [val]⟩, HR, But.refl _ _⟩
  case round =>
    obtain ⟨i, ds, ca, hi, rfl, rfl, hc0, hc1, hI, hr, hb⟩ := hrel
    by_cases hlt : i ≤ m
    · have hon : k + i < n := by omega
      obtain ⟨o, ho⟩ : ∃ o, ds.getD (k + i) 0 = o := ⟨_, rfl⟩
      obtain ⟨g', e1, _, hcl, hfz⟩ := (show RO base wr (.slice (some ⟨g, 0, none⟩) ds.length c) ds by rw [hI.out.1, HUL.out]; exact hr.out).cell (j := k + i) (by rw [hI.out.1, HUL.out]; exact hon)
      cases e1
      rw [ho] at hcl
      have hou : U.getD (k + i) 0 = o := by rw [← ho]; exact (hI.out.2.2.1 _ (Or.inr (Nat.le_refl _))).symm
      have hob := hI.out.2.1.getD (k + i)
      rw [ho] at hob
      clear ho
      have e1 : ((k : Int) + i).toNat = k + i := by omega
      by_cases hlm : i < m
      · obtain ⟨g2, o2, c2, e2, _, x2⟩ := (HB.out.but hb.out HS.out).at HM.out (j := i) hlm
        cases e2
        obtain ⟨y, hy⟩ : ∃ y, B.getD i 0 = y := ⟨_, rfl⟩
        rw [HBE.out, hy] at x2
        have HY := Lib.hid hy
        have hyb := HDB.out.getD i
        rw [hy] at hyb
        clear hy
        have HI' := Lib.hid (hI.out.step (t := (o + ca + y)) (by rw [HUL.out]; omega) (by rw [HY.out, hou] <;> omega))
        have HR' : Hid (RO base (wr.setCell ⟨g, k + i, none⟩ (.int .u32 ((o + ca + y) % 1000000000))) (.slice (some ⟨g, 0, none⟩) n c) _) := hr.out.set (by rw [hI.out.1, HUL.out]) (k + i) ((o + ca + y) % 1000000000)
        have HB' := Lib.hid (hb.out.set (k + i) (.int .u32 ((o + ca + y) % 1000000000)))
        have hcb : 0 ≤ (o + ca + y) / 1000000000 ∧ (o + ca + y) / 1000000000 ≤ 1 := by omega
        have HCB := Lib.hid hcb
        clear hI hb hr hou hcb
        go_wp2_with fail
        go_roundw
        case rel => exact ⟨i + 1, _, (o + ca + y) / 1000000000, by omega, by go_num, rfl, HCB.out.1, HCB.out.2, HI', HR', HB'⟩
        case measure => (simp [intOf] <;> omega)
      · have HY : Hid (B.getD i 0 = 0) := by
          show _ = _
          rw [List.getD_eq_getElem?_getD, List.getElem?_eq_none (by rw [← HBE.out]; show ln _ ≤ i; rw [HM.out]; omega)]; rfl
        have HI' := Lib.hid (hI.out.step (t := (o + ca)) (by rw [HUL.out]; omega) (by rw [HY.out, hou] <;> omega))
        have HR' : Hid (RO base (wr.setCell ⟨g, k + i, none⟩ (.int .u32 ((o + ca) % 1000000000))) (.slice (some ⟨g, 0, none⟩) n c) _) := hr.out.set (by rw [hI.out.1, HUL.out]) (k + i) ((o + ca) % 1000000000)
        have HB' := Lib.hid (hb.out.set (k + i) (.int .u32 ((o + ca) % 1000000000)))
        have hcb : 0 ≤ (o + ca) / 1000000000 ∧ (o + ca) / 1000000000 ≤ 1 := by omega
        have HCB := Lib.hid hcb
        clear hI hb hr hou hcb
        go_wp2_with fail
        go_roundw
        case rel => exact ⟨i + 1, _, (o + ca) / 1000000000, by omega, by go_num, rfl, HCB.out.1, HCB.out.2, HI', HR', HB'⟩
        case measure => (simp [intOf] <;> omega)
    · obtain rfl : i = m + 1 := by omega
      go_wp2_with fail
      go_end0
      exact ⟨⟨ds, ca, rfl, hc0, hc1, hI.out, hr.out⟩, hb.out⟩
end Go.Proofs.Ythcddboeejbncaa
namespace Go.Proofs.Ythcddboeejbncaa

theorem same_outside {l l' : List Int} {j s : Nat} (hl : l'.length = l.length) (h : ∀ i, i < j ∨ j + s ≤ i → l'.getD i 0 = l.getD i 0) : l'.take j = l.take j ∧ l'.drop (j + s) = l.drop (j + s) := by
  constructor
  · apply List.ext_getElem
    · simp [hl]
    · intro i h1 h2
      simp only [List.length_take] at h1 h2
      have := h i (Or.inl (by omega))
      simp only [List.getElem_take]
      rw [List.getD_eq_getElem?_getD, List.getD_eq_getElem?_getD, List.getElem?_eq_getElem (by omega), List.getElem?_eq_getElem (by omega)] at this
      exact this
  · apply List.ext_getElem
    · simp [hl]
    · intro i h1 h2
      simp only [List.length_drop] at h1 h2
      have := h (j + s + i) (Or.inr (by omega))
      simp only [List.getElem_drop]
      rw [List.getD_eq_getElem?_getD, List.getD_eq_getElem?_getD, List.getElem?_eq_getElem (by omega), List.getElem?_eq_getElem (by omega)] at this
      exact this
/-- What is above the window is nothing, so the window's value is what is left. -/
theorem window_lt {l : List Int} {j s : Nat} (hd : DgOk l) (hl : j + s ≤ l.length) (hz : val (l.drop (j + s)) = 0) : 0 ≤ val (l.drop j) ∧ val (l.drop j) < pw s ∧ val l = val (l.take j) + pw j * val (l.drop j) := by
  have h1 := val_split l j (by omega)
  have h2 := val_split (l.drop j) s (by rw [List.length_drop]; omega)
  rw [List.drop_drop, hz] at h2
  have h3 := val_lt ((hd.drop j).take s)
  rw [List.length_take, List.length_drop, Nat.min_eq_left (by omega)] at h3
  have h4 := val_nonneg (hd.drop j)
  exact ⟨h4, by omega, h1⟩
theorem cancel_pw {j : Nat} {a b : Int} (h : pw j * a = pw j * b) : a = b := Int.eq_of_mul_eq_mul_left (by have := pw_pos j; omega) h
theorem left_lt {j : Nat} {l : List Int} {V T : Int} (hd : DgOk l) (hj : j ≤ l.length) (h : val l = val (l.take j) + pw j * T) (hT : T < V) : val l < V * pw j := by
  have h1 := val_lt (hd.take j)
  rw [List.length_take, Nat.min_eq_left hj] at h1
  have hp := pw_pos j
  have h2 : pw j * (T + 1) ≤ pw j * V := Int.mul_le_mul_of_nonneg_left (by omega) (by omega)
  have h3 : pw j * (T + 1) = pw j * T + pw j := by grind
  have h4 : V * pw j = pw j * V := by grind
  omega
theorem alg1 {a t p q V X br r s : Int} (h1 : X = a + p * t) (hr : r = p * s) : X - q * V * p + (0 + br) * r = a + p * (t - q * V + br * s) := by grind
theorem alg2 {a t p V X c r s : Int} (h1 : X = a + p * t) (hr : r = p * s) : X + V * p - c * r = a + p * (t + V - c * s) := by grind
theorem set_val_div {ds : List Int} {j m : Nat} {q V X Y U0 p : Int} (hl : ds.length = m) (hj : j < m) (hz : ds.getD j 0 = 0) (hp : pw j = p) (h : val ds * V + X = U0) (hY : Y = X - q * V * p) : val (ds.set j q) * V + Y = U0 := by
  rw [val_set _ _ _ (by omega), hz, hp]; grind
theorem div_sub {U0 V : Int} {m N j n : Nat} {ds U U' B : List Int} {q br : Int} (h : divI U0 V m N (j + 1) ds U) (hVn : V < pw n) (hj : j + n + 1 ≤ N) (hjm : j < m) (hB : val B = V) (hBl : B.length = n)
    (hm : minusI U B j q (n + 1) U' 0 br) (hb0 : 0 ≤ br) (hb1 : br ≤ 1) (hq0 : 0 ≤ q) (hq3 : q < 1000000000) (hq1 : val (U.drop j) < (q + 1) * V) (hq2 : q * V < val (U.drop j) + V) :
    (br = 0 → divI U0 V m N j (ds.set j q) U') ∧ (br = 1 → 1 ≤ q ∧ ∀ U'' c, 0 ≤ c → c ≤ 1 → plusI U' B j (n + 1) U'' c → divI U0 V m N j (ds.set j (q - 1)) U'') := by
  obtain ⟨w1, w2, w3, w4⟩ := div_window h hVn hj
  obtain ⟨e1, e2, e3, e4, e5, e6, e7⟩ := h
  obtain ⟨m1, m2, m3, m4⟩ := hm
  have hp := pw_pos j
  rw [List.take_of_length_le (by omega), hB] at m4
  obtain ⟨s1, s2⟩ := same_outside m1 m3
  rw [← Nat.add_assoc] at s2
  obtain ⟨y0, y1, y2⟩ := window_lt (j := j) (s := n + 1) m2 (by omega) (by rw [← Nat.add_assoc, s2]; exact w3)
  have x2 := val_split U j (by omega)
  have hn1 : pw (j + (n + 1)) = pw j * pw (n + 1) := pw_add _ _
  rw [alg1 x2 hn1, y2, s1] at m4
  have hT : val (U'.drop j) = val (U.drop j) - q * V + br * pw (n + 1) := cancel_pw (Int.add_left_cancel m4)
  refine ⟨fun hbr => ?_, fun hbr => ?_⟩
  · subst hbr
    have hT' : val (U'.drop j) < V := by
      have : (q + 1) * V = q * V + V := by grind
      omega
    refine ⟨by simp [e1], e2.set j hq0 hq3, fun i hi => ?_, by omega, m2, ?_, left_lt m2 (by omega) y2 hT'⟩
    · rw [getD_set _ _ _ _ (by omega), if_neg (by omega)]; exact e3 i (by omega)
    · refine set_val_div e1 hjm (e3 j (by omega)) rfl e6 ?_
      rw [y2, s1, hT, x2]; grind
  · subst hbr
    have hqq : 1 ≤ q := by
      rcases Int.lt_or_le q 1 with h' | h'
      · exfalso
        obtain rfl : q = 0 := by omega
        omega
      · exact h'
    refine ⟨hqq, fun U'' c hc0 hc1 hpl => ?_⟩
    obtain ⟨p1, p2, p3, p4⟩ := hpl
    rw [List.take_of_length_le (by omega), hB] at p4
    obtain ⟨r1, r2⟩ := same_outside p1 p3
    rw [← Nat.add_assoc] at r2
    obtain ⟨z0, z1, z2⟩ := window_lt (j := j) (s := n + 1) p2 (by omega) (by rw [← Nat.add_assoc, r2, s2]; exact w3)
    rw [alg2 y2 hn1, z2, r1] at p4
    have hT2 : val (U''.drop j) = val (U'.drop j) + V - c * pw (n + 1) := cancel_pw (Int.add_left_cancel p4)
    have hpn : pw n ≤ pw (n + 1) := pw_mono (by omega)
    have hc : c = 1 := by
      rcases (show c = 0 ∨ c = 1 by omega) with rfl | rfl
      · exfalso; omega
      · rfl
    subst hc
    have hT3 : val (U''.drop j) = val (U.drop j) - (q - 1) * V := by
      have : (q - 1) * V = q * V - V := by grind
      omega
    have hT' : val (U''.drop j) < V := by
      have : (q - 1) * V = q * V - V := by grind
      omega
    refine ⟨by simp [e1], e2.set j (by omega) (by omega), fun i hi => ?_, by omega, p2, ?_, left_lt p2 (by omega) z2 hT'⟩
    · rw [getD_set _ _ _ _ (by omega), if_neg (by omega)]; exact e3 i (by omega)
    · refine set_val_div e1 hjm (e3 j (by omega)) rfl e6 ?_
      rw [z2, r1, s1, hT3, x2]; grind
theorem getD_drop (l : List Int) (j i : Nat) : (l.drop j).getD i 0 = l.getD (j + i) 0 := by
  simp only [List.getD_eq_getElem?_getD, List.getElem?_drop]
theorem getD_take {l : List Int} {j i : Nat} (h : i < j) : (l.take j).getD i 0 = l.getD i 0 := by
  simp only [List.getD_eq_getElem?_getD, List.getElem?_take]; rw [if_pos h]
/-- The digits in sight of a round. -/
theorem div_sight {U0 V : Int} {m N j p : Nat} {ds U B : List Int} (h : divI U0 V m N (j + 1) ds U) (hB : val B = V) (hBl : B.length = p + 2) (hBd : DgOk B) (hBt : B.getD (p + 1) 0 ≠ 0) (hj : j + (p + 2) + 1 ≤ N) :
    ∃ low lv, QF (val (U.drop j)) V (pw p) (U.getD (j + (p + 2)) 0) (U.getD (j + (p + 1)) 0) (U.getD (j + p) 0) low (B.getD (p + 1) 0) (B.getD p 0) lv := by
  have hVn : V < pw (p + 2) := by rw [← hB, ← hBl]; exact val_lt hBd
  obtain ⟨w1, w2, w3, w4⟩ := div_window h hVn hj
  obtain ⟨e1, e2, e3, e4, e5, e6, e7⟩ := h
  have hl : ((U.drop j).take (p + 2 + 1)).length = p + 3 := by rw [List.length_take, List.length_drop]; omega
  have h1 := val_top3 hl
  have h2 := val_top hBl
  rw [← w4, getD_take (by omega), getD_take (by omega), getD_take (by omega), getD_drop, getD_drop, getD_drop, List.take_take, Nat.min_eq_left (by omega)] at h1
  have a1 := val_nonneg ((e5.drop j).take p)
  have a2 := val_lt ((e5.drop j).take p)
  have b1 := val_nonneg (hBd.take p)
  have b2 := val_lt (hBd.take p)
  rw [List.length_take, List.length_drop, Nat.min_eq_left (by omega)] at a2
  rw [List.length_take, Nat.min_eq_left (by omega)] at b2
  have c1 := e5.getD (j + (p + 2)); have c2 := e5.getD (j + (p + 1)); have c3 := e5.getD (j + p)
  have c4 := hBd.getD (p + 1); have c5 := hBd.getD p
  exact ⟨_, _, pw_pos p, h1, by rw [← hB]; exact h2, a1, a2, b1, b2, c1.1, c2.1, c2.2, c3.1, c3.2, by omega, c4.2, c5.1, c5.2, w2⟩
/-- At the end the row is the remainder. -/
theorem div_end {U0 V : Int} {m N : Nat} {ds U : List Int} (h : divI U0 V m N 0 ds U) : val ds * V + val U = U0 ∧ 0 ≤ val U ∧ val U < V ∧ 0 ≤ val ds := by
  obtain ⟨e1, e2, e3, e4, e5, e6, e7⟩ := h
  rw [pw_zero, Int.mul_one] at e7
  exact ⟨e6, val_nonneg e5, e7, val_nonneg e2⟩
theorem div_result {a b by' q r : Nat} (hb : 0 < b) (hy : 0 < by') (h : q * (b * by') + r = a * by') (hr : r < b * by') : a / b = q ∧ r / by' = a % b := by
  have h1 : by' ∣ r := by
    have h2 : by' ∣ q * (b * by') := ⟨q * b, by rw [Nat.mul_comm by', Nat.mul_assoc]⟩
    exact (Nat.dvd_add_right h2).1 (by rw [h]; exact ⟨a, Nat.mul_comm _ _⟩)
  obtain ⟨t, rfl⟩ := h1
  have h3 : q * b + t = a := by
    apply Nat.eq_of_mul_eq_mul_right hy
    rw [← h, Nat.add_mul, Nat.mul_assoc, Nat.mul_comm t]
  have h4 : t < b := by
    rw [Nat.mul_comm b] at hr
    exact Nat.lt_of_mul_lt_mul_left hr
  subst h3
  rw [Nat.mul_div_cancel_left _ hy]
  constructor
  · rw [Nat.mul_comm, Nat.mul_add_div hb, Nat.div_eq_of_lt h4]; rfl
  · rw [Nat.mul_comm q, Nat.mul_add_mod, Nat.mod_eq_of_lt h4]
end Go.Proofs.Ythcddboeejbncaa
