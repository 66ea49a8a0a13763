/- nat.Add. -/
import Derived.Test.YthcddboeejbncaaPkTxt2Nat3
namespace Go.Proofs.Ythcddboeejbncaa
open Go.RowKit

theorem val_take_next (l : List Int) (k : Nat) : val (l.take (k + 1)) = val (l.take k) + pw k * l.getD k 0 := by
  rcases Nat.lt_or_ge k l.length with h | h
  · exact val_take_succ h
  · rw [List.take_of_length_le (by omega), List.take_of_length_le h, List.getD_eq_getElem?_getD, List.getElem?_eq_none h]; simp
theorem canon {l : List Int} {n : Nat} (hd : DgOk l) (hl : l.length = n + 1) (h : pw n ≤ val l) : l.getD n 0 ≠ 0 := by
  intro h0
  have h1 := val_split l n (by omega)
  have h2 := val_drop (l := l) (k := n) (by omega)
  rw [h0, List.drop_eq_nil_of_le (show l.length ≤ n + 1 by omega)] at h2
  have h3 := val_lt (hd.take n)
  rw [List.length_take, Nat.min_eq_left (by omega)] at h3
  have h4 : val (l.drop n) = 0 := h2
  rw [h4, Int.mul_zero] at h1
  omega
theorem val_snoc (l : List Int) (x : Int) : val (l ++ [x]) = val l + pw l.length * x := by
  rw [val_append]; simp [val]
theorem add_step {V W c d q r p x y : Int} (hd : d = x + c + y) (hq : d = 1000000000 * q + r) (h : V + c * p = W) : (V + p * r) + q * (1000000000 * p) = W + p * x + p * y := by
  grind
theorem take_all {l : List Int} {n : Nat} (h : l.length ≤ n) : l.take n = l := List.take_of_length_le h
theorem dg_take (a : Nat) {n : Nat} (h : ln a ≤ n) : val ((dg a).take n) = a := by rw [take_all h, dg_val]
def addI (A B : List Int) (k : Nat) (ds : List Int) (c : Int) : Prop := ds.length = k ∧ DgOk ds ∧ val ds + c * pw k = val (A.take k) + val (B.take k)
theorem addI.step {A B : List Int} {k : Nat} {ds : List Int} {c : Int} (h : addI A B k ds c) (hA : DgOk A) (hB : DgOk B) {d : Int} (hd : d = A.getD k 0 + c + B.getD k 0) : addI A B (k + 1) (ds ++ [d % 1000000000]) (d / 1000000000) := by
  obtain ⟨e1, e2, e3⟩ := h
  have := hA.getD k; have := hB.getD k
  refine ⟨by simp [e1], e2.append (DgOk.cons (by omega) (by omega) DgOk.nil), ?_⟩
  rw [val_snoc, e1, pw_succ, val_take_next, val_take_next]
  rw [add_step hd (show d = 1000000000 * (d / 1000000000) + d % 1000000000 by omega) e3]
  omega
/-- 'make([]uint32, 0, n)'. -/
theorem make_cap (n : Nat) (hn : n ≤ 70000000000000) (W : World) : ∃ w', (Instr.makeSlice 78 (.int .i64 0) (.int .i64 (n : Int))).run Try.prog W = .ok (.slice (some ⟨W.heap.size, 0, none⟩) 0 n) w' ∧ RO W.heap.size w' (.slice (some ⟨W.heap.size, 0, none⟩) 0 n) [] ∧ Below W.heap.size W w' := by
  obtain ⟨i0, hi0, hz0, hz1, hz2⟩ := info_parts infoU32
  obtain ⟨w', h1, h2, h3⟩ := run_make_own (P := Try.prog) W W.heap.size 78 123 i0 (.int .u32 0) 1 Try.underlying78 hi0 hz0 hz1 .i64 .i64 n (by rw [hz2]; omega) (by unfold maxLen; omega) (Nat.le_refl _)
  exact ⟨w', h1, h2, ⟨h3.os, h3.tape, h3.output, h3.size, fun k hk => h3.block k hk (by intro e; cases e)⟩⟩
set_option maxRecDepth 100000 in
set_option maxHeartbeats 4000000 in
theorem nadd_c (va vb : Value) (a b : Nat) (w : World) (ha : NV w va a) (hb : NV w vb b) (sa : ln a ≤ 30000000000000) (sb : ln b ≤ 30000000000000) :
    Calls Try.prog 93 #[va, vb] w fun e w' => (∃ v', e = .returned v' ∧ NO w.heap.size w' v' (a + b)) ∧ Below w.heap.size w w' := by
  obtain ⟨aa, ca, rfl⟩ := ha.slice
  obtain ⟨ab, cb, rfl⟩ := hb.slice
  by_cases hnm : ln a < ln b
  · obtain ⟨n, hn⟩ : ∃ n, ln b = n := ⟨_, rfl⟩
    obtain ⟨m, hm⟩ : ∃ m, ln a = m := ⟨_, rfl⟩
    obtain ⟨A, hAE⟩ : ∃ A, dg b = A := ⟨_, rfl⟩
    obtain ⟨B, hBE⟩ : ∃ A, dg a = A := ⟨_, rfl⟩
    have HAE := Lib.hid hAE
    have HBE := Lib.hid hBE
    have HDA : Hid (DgOk A) := hAE ▸ dg_ok b
    have HDB : Hid (DgOk B) := hBE ▸ dg_ok a
    have HN := Lib.hid hn
    have HM := Lib.hid hm
    have HA := Lib.hid hb
    have HB := Lib.hid ha
    rw [hn] at sb HA hnm ⊢
    rw [hm] at sa HB hnm ⊢
    clear hn hm ha hb hAE hBE
    have BIG : Hid (0 < n → pw (ln b - 1) ≤ (b : Int)) := fun h => ln_le_pw (Nat.pos_of_ne_zero fun h' => by subst h'; have := HN.out; rw [ln_zero] at this; omega)
    have q0 : decide (m < n) = true := decide_eq_true hnm
    obtain ⟨w1, hmk, ho1, hb1⟩ := make_cap (n + 1) (by omega) w
    rw [show ((n + 1 : Nat) : Int) = (n : Int) + 1 from rfl] at hmk
    have HO1 := Lib.hid ho1
    have HB1 := Lib.hid hb1
    clear ho1 hb1
    go_enter Try.func93, Try.ntmps93
    go_wp2_with (rw [hmk])
    go_loopw [22, 6, 5] (fun i c o wr => ∃ (k : Nat) (ds : List Int) (cc : Int), k ≤ n ∧ i = .int .i64 k ∧ c = .int .u32 cc ∧ 0 ≤ cc ∧ cc ≤ 1 ∧ Hid (addI A B k ds cc) ∧ Hid (RO w.heap.size wr o ds) ∧ Hid (Below w.heap.size w wr)) (fun i _ _ _ => n - (intOf i).toNat)
    case atStart => exact ⟨0, [], 0, Nat.zero_le _, rfl, rfl, by omega, by omega, ⟨rfl, DgOk.nil, rfl⟩, HO1, HB1⟩
    case round =>
      obtain ⟨k, ds, c, hk, rfl, rfl, hc0, hc1, hI, ho, hb⟩ := hrel
      obtain ⟨ad, cd, rfl⟩ := ho.out.slice
      rw [hI.out.1] at ho ⊢
      by_cases hlt : k < n
      · obtain ⟨g1, o1, c1, e1, _, x1⟩ := (HA.out.below hb.out).at HN.out (j := k) hlt
        cases e1
        obtain ⟨x, hx⟩ : ∃ x, A.getD k 0 = x := ⟨_, rfl⟩
        rw [HAE.out, hx] at x1
        have HX := Lib.hid hx
        have hxb := HDA.out.getD k
        rw [hx] at hxb
        clear hx
        by_cases hlm : k < m
        · obtain ⟨g2, o2, c2, e2, _, x2⟩ := (HB.out.below hb.out).at HM.out (j := k) hlm
          cases e2
          obtain ⟨y, hy⟩ : ∃ y, B.getD k 0 = y := ⟨_, rfl⟩
          rw [HBE.out, hy] at x2
          have HY := Lib.hid hy
          have hyb := HDB.out.getD k
          rw [hy] at hyb
          clear hy
          have hD : (x + c + y) = A.getD k 0 + c + B.getD k 0 := by rw [HX.out, HY.out] <;> omega
          obtain ⟨d, hd⟩ : ∃ d, (x + c + y) = d := ⟨_, rfl⟩
          have HI' := Lib.hid (hI.out.step HDA.out HDB.out (hd.symm.trans hD))
          rw [hd] at hD
          have hdb : 0 ≤ d ∧ d < 2000000000 := by have := (HDA.out).getD k; have := (HDB.out).getD k; omega
          obtain ⟨v7, W7, h7, hr7, hb7⟩ := (ho.out.alloc (.cells #[.int .u32 (d % 1000000000)] 123)).app (by rw [World.size_alloc]; have := hb.out.size; omega) _ wr.heap.size ((Blk.new _ _ _).cell 0 rfl) (by have := hI.out.1; omega)
          rw [← hd] at h7
          have H7 := Lib.hid h7
          have HB7 := Lib.hid ((hb.out.alloc hb.out.size _).trans hb7)
          have HR7 := Lib.hid hr7
          have HDD := Lib.hid hd
          clear hd hD h7 hr7 hb7 ho hb hI
          go_wp2_with (at_builtin; refine wpList_append_told rfl (.tmp 42) (.tmp 45) 78 rfl _ _ rfl rfl v7 W7 (H7.out _) ?_)
          go_roundw
          case rel => exact ⟨k + 1, _, d / 1000000000, hlt, by go_num, by rw [← HDD.out], by omega, by omega, HI', HR7, HB7⟩
          case measure => (simp [intOf] <;> omega)
        · have HY : Hid (B.getD k 0 = 0) := by
            show _ = _
            rw [List.getD_eq_getElem?_getD, List.getElem?_eq_none (by rw [← HBE.out]; show ln _ ≤ k; rw [HM.out]; omega)]; rfl
          have hD : (x + c) = A.getD k 0 + c + B.getD k 0 := by rw [HX.out, HY.out] <;> omega
          obtain ⟨d, hd⟩ : ∃ d, (x + c) = d := ⟨_, rfl⟩
          have HI' := Lib.hid (hI.out.step HDA.out HDB.out (hd.symm.trans hD))
          rw [hd] at hD
          have hdb : 0 ≤ d ∧ d < 2000000000 := by have := (HDA.out).getD k; have := (HDB.out).getD k; omega
          obtain ⟨v7, W7, h7, hr7, hb7⟩ := (ho.out.alloc (.cells #[.int .u32 (d % 1000000000)] 123)).app (by rw [World.size_alloc]; have := hb.out.size; omega) _ wr.heap.size ((Blk.new _ _ _).cell 0 rfl) (by have := hI.out.1; omega)
          rw [← hd] at h7
          have H7 := Lib.hid h7
          have HB7 := Lib.hid ((hb.out.alloc hb.out.size _).trans hb7)
          have HR7 := Lib.hid hr7
          have HDD := Lib.hid hd
          clear hd hD h7 hr7 hb7 ho hb hI
          go_wp2_with (at_builtin; refine wpList_append_told rfl (.tmp 42) (.tmp 45) 78 rfl _ _ rfl rfl v7 W7 (H7.out _) ?_)
          go_roundw
          case rel => exact ⟨k + 1, _, d / 1000000000, hlt, by go_num, by rw [← HDD.out], by omega, by omega, HI', HR7, HB7⟩
          case measure => (simp [intOf] <;> omega)
      · obtain rfl : k = n := by omega
        have HS : Hid (val ds + c * pw k = (a + b : Nat)) := by
          show _ = _
          rw [hI.out.2.2, ← HAE.out, ← HBE.out, dg_take _ (by rw [HN.out]; exact Nat.le_refl _), dg_take _ (by rw [HM.out]; omega)]; push_cast; omega
        by_cases hcz : c = 0
        · subst hcz
          have hfin : NO w.heap.size wr (.slice ad k cd) (a + b) := by
            have h1 := HS.out
            rw [Int.zero_mul, Int.add_zero] at h1
            have h3 := ho.out
            rw [← hI.out.1] at h3 ⊢
            refine h3.no hI.out.2.1 ?_ (by rw [h1]; rfl)
            rcases Nat.eq_zero_or_pos k with hk0 | hk0
            · exact Or.inl (List.eq_nil_of_length_eq_zero (by rw [hI.out.1, hk0]))
            · right
              refine canon hI.out.2.1 (by have := hI.out.1; omega) ?_
              rw [h1, hI.out.1]
              have h4 := BIG.out hk0
              rw [HN.out] at h4
              push_cast
              omega
          go_wp2_with fail
          go_ret
          exact ⟨⟨_, rfl, hfin⟩, hb.out⟩
        · obtain rfl : c = 1 := by omega
          obtain ⟨v7, W7, h7, hr7, hb7⟩ := ((show RO _ _ (.slice ad ds.length cd) ds by rw [hI.out.1]; exact ho.out).alloc (.cells #[.int .u32 1] 123)).app (by rw [World.size_alloc]; have := hb.out.size; omega) _ wr.heap.size ((Blk.new _ _ _).cell 0 rfl) (by have := hI.out.1; omega)
          have hfin : NO w.heap.size W7 v7 (a + b) := by
            refine hr7.no (hI.out.2.1.append (DgOk.cons (by omega) (by omega) DgOk.nil)) (Or.inr ?_) ?_
            · simp
            · rw [val_snoc, hI.out.1]
              have h1 := HS.out
              rw [Int.mul_comm (pw k) 1, h1]; rfl
          rw [hI.out.1] at h7
          have HB7 := Lib.hid ((hb.out.alloc hb.out.size _).trans hb7)
          clear hr7 hb7 ho hb hI HS
          go_wp2_with (at_builtin; refine wpList_append_told rfl (.tmp 50) (.tmp 52) 78 rfl _ _ rfl rfl v7 W7 (h7 _) ?_)
          go_ret
          exact ⟨⟨_, rfl, hfin⟩, HB7.out⟩
  · obtain ⟨n, hn⟩ : ∃ n, ln a = n := ⟨_, rfl⟩
    obtain ⟨m, hm⟩ : ∃ m, ln b = m := ⟨_, rfl⟩
    obtain ⟨A, hAE⟩ : ∃ A, dg a = A := ⟨_, rfl⟩
    obtain ⟨B, hBE⟩ : ∃ A, dg b = A := ⟨_, rfl⟩
    have HAE := Lib.hid hAE
    have HBE := Lib.hid hBE
    have HDA : Hid (DgOk A) := hAE ▸ dg_ok a
    have HDB : Hid (DgOk B) := hBE ▸ dg_ok b
    have HN := Lib.hid hn
    have HM := Lib.hid hm
    have HA := Lib.hid ha
    have HB := Lib.hid hb
    rw [hn] at sa HA hnm ⊢
    rw [hm] at sb HB hnm ⊢
    clear hn hm ha hb hAE hBE
    have BIG : Hid (0 < n → pw (ln a - 1) ≤ (a : Int)) := fun h => ln_le_pw (Nat.pos_of_ne_zero fun h' => by subst h'; have := HN.out; rw [ln_zero] at this; omega)
    have q0 : decide (n < m) = false := decide_eq_false hnm
    obtain ⟨w1, hmk, ho1, hb1⟩ := make_cap (n + 1) (by omega) w
    rw [show ((n + 1 : Nat) : Int) = (n : Int) + 1 from rfl] at hmk
    have HO1 := Lib.hid ho1
    have HB1 := Lib.hid hb1
    clear ho1 hb1
    go_enter Try.func93, Try.ntmps93
    go_wp2_with (rw [hmk])
    go_loopw [22, 6, 5] (fun i c o wr => ∃ (k : Nat) (ds : List Int) (cc : Int), k ≤ n ∧ i = .int .i64 k ∧ c = .int .u32 cc ∧ 0 ≤ cc ∧ cc ≤ 1 ∧ Hid (addI A B k ds cc) ∧ Hid (RO w.heap.size wr o ds) ∧ Hid (Below w.heap.size w wr)) (fun i _ _ _ => n - (intOf i).toNat)
    case atStart => exact ⟨0, [], 0, Nat.zero_le _, rfl, rfl, by omega, by omega, ⟨rfl, DgOk.nil, rfl⟩, HO1, HB1⟩
    case round =>
      obtain ⟨k, ds, c, hk, rfl, rfl, hc0, hc1, hI, ho, hb⟩ := hrel
      obtain ⟨ad, cd, rfl⟩ := ho.out.slice
      rw [hI.out.1] at ho ⊢
      by_cases hlt : k < n
      · obtain ⟨g1, o1, c1, e1, _, x1⟩ := (HA.out.below hb.out).at HN.out (j := k) hlt
        cases e1
        obtain ⟨x, hx⟩ : ∃ x, A.getD k 0 = x := ⟨_, rfl⟩
        rw [HAE.out, hx] at x1
        have HX := Lib.hid hx
        have hxb := HDA.out.getD k
        rw [hx] at hxb
        clear hx
        by_cases hlm : k < m
        · obtain ⟨g2, o2, c2, e2, _, x2⟩ := (HB.out.below hb.out).at HM.out (j := k) hlm
          cases e2
          obtain ⟨y, hy⟩ : ∃ y, B.getD k 0 = y := ⟨_, rfl⟩
          rw [HBE.out, hy] at x2
          have HY := Lib.hid hy
          have hyb := HDB.out.getD k
          rw [hy] at hyb
          clear hy
          have hD : (x + c + y) = A.getD k 0 + c + B.getD k 0 := by rw [HX.out, HY.out] <;> omega
          obtain ⟨d, hd⟩ : ∃ d, (x + c + y) = d := ⟨_, rfl⟩
          have HI' := Lib.hid (hI.out.step HDA.out HDB.out (hd.symm.trans hD))
          rw [hd] at hD
          have hdb : 0 ≤ d ∧ d < 2000000000 := by have := (HDA.out).getD k; have := (HDB.out).getD k; omega
          obtain ⟨v7, W7, h7, hr7, hb7⟩ := (ho.out.alloc (.cells #[.int .u32 (d % 1000000000)] 123)).app (by rw [World.size_alloc]; have := hb.out.size; omega) _ wr.heap.size ((Blk.new _ _ _).cell 0 rfl) (by have := hI.out.1; omega)
          rw [← hd] at h7
          have H7 := Lib.hid h7
          have HB7 := Lib.hid ((hb.out.alloc hb.out.size _).trans hb7)
          have HR7 := Lib.hid hr7
          have HDD := Lib.hid hd
          clear hd hD h7 hr7 hb7 ho hb hI
          go_wp2_with (at_builtin; refine wpList_append_told rfl (.tmp 42) (.tmp 45) 78 rfl _ _ rfl rfl v7 W7 (H7.out _) ?_)
          go_roundw
          case rel => exact ⟨k + 1, _, d / 1000000000, hlt, by go_num, by rw [← HDD.out], by omega, by omega, HI', HR7, HB7⟩
          case measure => (simp [intOf] <;> omega)
        · have HY : Hid (B.getD k 0 = 0) := by
            show _ = _
            rw [List.getD_eq_getElem?_getD, List.getElem?_eq_none (by rw [← HBE.out]; show ln _ ≤ k; rw [HM.out]; omega)]; rfl
          have hD : (x + c) = A.getD k 0 + c + B.getD k 0 := by rw [HX.out, HY.out] <;> omega
          obtain ⟨d, hd⟩ : ∃ d, (x + c) = d := ⟨_, rfl⟩
          have HI' := Lib.hid (hI.out.step HDA.out HDB.out (hd.symm.trans hD))
          rw [hd] at hD
          have hdb : 0 ≤ d ∧ d < 2000000000 := by have := (HDA.out).getD k; have := (HDB.out).getD k; omega
          obtain ⟨v7, W7, h7, hr7, hb7⟩ := (ho.out.alloc (.cells #[.int .u32 (d % 1000000000)] 123)).app (by rw [World.size_alloc]; have := hb.out.size; omega) _ wr.heap.size ((Blk.new _ _ _).cell 0 rfl) (by have := hI.out.1; omega)
          rw [← hd] at h7
          have H7 := Lib.hid h7
          have HB7 := Lib.hid ((hb.out.alloc hb.out.size _).trans hb7)
          have HR7 := Lib.hid hr7
          have HDD := Lib.hid hd
          clear hd hD h7 hr7 hb7 ho hb hI
          go_wp2_with (at_builtin; refine wpList_append_told rfl (.tmp 42) (.tmp 45) 78 rfl _ _ rfl rfl v7 W7 (H7.out _) ?_)
          go_roundw
          case rel => exact ⟨k + 1, _, d / 1000000000, hlt, by go_num, by rw [← HDD.out], by omega, by omega, HI', HR7, HB7⟩
          case measure => (simp [intOf] <;> omega)
      · obtain rfl : k = n := by omega
        have HS : Hid (val ds + c * pw k = (a + b : Nat)) := by
          show _ = _
          rw [hI.out.2.2, ← HAE.out, ← HBE.out, dg_take _ (by rw [HN.out]; exact Nat.le_refl _), dg_take _ (by rw [HM.out]; omega)]; push_cast; omega
        by_cases hcz : c = 0
        · subst hcz
          have hfin : NO w.heap.size wr (.slice ad k cd) (a + b) := by
            have h1 := HS.out
            rw [Int.zero_mul, Int.add_zero] at h1
            have h3 := ho.out
            rw [← hI.out.1] at h3 ⊢
            refine h3.no hI.out.2.1 ?_ (by rw [h1]; rfl)
            rcases Nat.eq_zero_or_pos k with hk0 | hk0
            · exact Or.inl (List.eq_nil_of_length_eq_zero (by rw [hI.out.1, hk0]))
            · right
              refine canon hI.out.2.1 (by have := hI.out.1; omega) ?_
              rw [h1, hI.out.1]
              have h4 := BIG.out hk0
              rw [HN.out] at h4
              push_cast
              omega
          go_wp2_with fail
          go_ret
          exact ⟨⟨_, rfl, hfin⟩, hb.out⟩
        · obtain rfl : c = 1 := by omega
          obtain ⟨v7, W7, h7, hr7, hb7⟩ := ((show RO _ _ (.slice ad ds.length cd) ds by rw [hI.out.1]; exact ho.out).alloc (.cells #[.int .u32 1] 123)).app (by rw [World.size_alloc]; have := hb.out.size; omega) _ wr.heap.size ((Blk.new _ _ _).cell 0 rfl) (by have := hI.out.1; omega)
          have hfin : NO w.heap.size W7 v7 (a + b) := by
            refine hr7.no (hI.out.2.1.append (DgOk.cons (by omega) (by omega) DgOk.nil)) (Or.inr ?_) ?_
            · simp
            · rw [val_snoc, hI.out.1]
              have h1 := HS.out
              rw [Int.mul_comm (pw k) 1, h1]; rfl
          rw [hI.out.1] at h7
          have HB7 := Lib.hid ((hb.out.alloc hb.out.size _).trans hb7)
          clear hr7 hb7 ho hb hI HS
          go_wp2_with (at_builtin; refine wpList_append_told rfl (.tmp 50) (.tmp 52) 78 rfl _ _ rfl rfl v7 W7 (h7 _) ?_)
          go_ret
          exact ⟨⟨_, rfl, hfin⟩, HB7.out⟩
end Go.Proofs.Ythcddboeejbncaa
