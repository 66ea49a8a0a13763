/- settings.check. settings.Wrong. settings.Dial. -/
import Derived.Test.YtplebibabcdipaaClr2
import Derived.Deep.CutRange
namespace Go.Proofs.Ytplebibabcdipaa
open Go.RowKit

/-- Pairs of relays as cells. -/
def pairC (x : Int × Int) : List Value := [.int .i64 x.1, .int .i64 x.2]
theorem pair_cells {w : World} {b off : Nat} {l : List (Int × Int)} (h : ∀ j u, (flat pairC l)[j]? = some u → w.cell? ⟨b, off + j, none⟩ = some u) {k : Nat} {x : Int × Int} (hx : l[k]? = some x) :
    w.cell? ⟨b, off + k * 2, none⟩ = some (.int .i64 x.1) ∧ w.cell? ⟨b, off + k * 2 + 1, none⟩ = some (.int .i64 x.2) := by
  have e := fun j u hj hu => Reads.elem (sz := 2) (fun _ => rfl) h hx (j := j) (u := u) hj hu
  exact ⟨e 0 _ (by decide) rfl, by rw [Nat.add_assoc]; exact e 1 _ (by decide) rfl⟩
def crvAll : List CRA → Int
  | [] => 0
  | r :: rs => if r.pts.err ≠ 0 then r.pts.err else crvAll rs
theorem crvAll_drop {l : List CRA} {k : Nat} {x : CRA} (h : l[k]? = some x) : crvAll (l.drop k) = if x.pts.err ≠ 0 then x.pts.err else crvAll (l.drop (k + 1)) := by
  obtain ⟨hk, hx⟩ := List.getElem?_eq_some_iff.1 h
  rw [List.drop_eq_getElem_cons hk, hx]; rfl
def badPair (N : Int) (x : Int × Int) : Bool := decide (min x.1 x.2 < 0) || (decide (N ≤ max x.1 x.2) || (x.1 == x.2))
def pairAll (N : Int) : List (Int × Int) → Int
  | [] => 0
  | x :: xs => if badPair N x = true then 6 else pairAll N xs
theorem pairAll_drop {N : Int} {l : List (Int × Int)} {k : Nat} {x : Int × Int} (h : l[k]? = some x) : pairAll N (l.drop k) = if badPair N x = true then 6 else pairAll N (l.drop (k + 1)) := by
  obtain ⟨hk, hx⟩ := List.getElem?_eq_some_iff.1 h
  rw [List.drop_eq_getElem_cons hk, hx]; rfl
/-- What check answers. -/
def setE (l : List CRA) (ps : List (Int × Int)) : Int := if 24 < l.length ∨ 256 < ps.length then 2 else if crvAll l ≠ 0 then crvAll l else pairAll l.length ps

set_option maxHeartbeats 4000000 in
set_option maxRecDepth 100000 in
theorem setCheck_c (l : List CRA) (ps : List (Int × Int)) (lv pv : Value) (w : World) (hl : CRels w lv l) (hp : Reads w pv ps.length (flat pairC ps)) :
    Calls Try.prog 56 #[lv, pv] w fun e w' => e = .returned (.int .i64 (setE l ps)) ∧ Below w.heap.size w w' := by
  obtain ⟨ra, rc, rfl⟩ := hl.1.slice
  obtain ⟨pa, pc, rfl⟩ := hp.slice
  have HCU : Hid (∀ (x : CRA), x ∈ l → ∀ W, Below w.heap.size w W → Calls Try.prog 47 #[.slice x.ca x.cl x.cc] W fun e w' => e = .returned (.int .i64 x.pts.err) ∧ Below W.heap.size W w') := fun x hx W hW =>
    curveCheck_c _ x.pts W ((hl.2 x hx).below hW)
  have HE : Hid (setE l ps = if 24 < l.length ∨ 256 < ps.length then 2 else if crvAll l ≠ 0 then crvAll l else pairAll l.length ps) := rfl
  have HC0 : Hid (crvAll (l.drop 0) = crvAll l) := rfl
  have HP0 : Hid (pairAll l.length (ps.drop 0) = pairAll l.length ps) := rfl
  have hl1 := hl.1
  generalize setE l ps = E at *
  obtain ⟨N, hN⟩ : ∃ k, l.length = k := ⟨_, rfl⟩
  obtain ⟨M, hM⟩ : ∃ k, ps.length = k := ⟨_, rfl⟩
  have HN := Lib.hid hN
  have HM := Lib.hid hM
  rw [hN] at hl1 HE HP0 ⊢
  rw [hM] at hp HE ⊢
  have HL := Lib.hid hl1
  have HPS := Lib.hid hp
  have hnn : N ≤ 9223372036854775807 := by
    rcases hl1 with ⟨h, _⟩ | ⟨_, _, _, _, _, h, _⟩
    · omega
    · exact h
  have hmm : M ≤ 9223372036854775807 := by
    rcases hp with ⟨h, _⟩ | ⟨_, _, _, _, _, h, _⟩
    · omega
    · exact h
  generalize crvAll l = CA at *
  generalize pairAll N ps = PA at *
  clear hl hl1 hp hN hM
  by_cases h1 : 24 < N
  · have g1 : decide ((24 : Int) < (N : Int)) = true := decide_eq_true (by omega)
    have HR := Lib.hid (HE.out.trans (if_pos (Or.inl h1)))
    have B0 : Hid (Below w.heap.size w w) := Below.refl _ _
    clear h1 HE
    go_enter Try.func56, Try.ntmps56
    go_wp2_with fail
    go_ret
    exact ⟨by rw [HR.out]; rfl, B0.out⟩
  · have g1 : decide ((24 : Int) < (N : Int)) = false := decide_eq_false (by omega)
    by_cases h2 : 256 < M
    · have g2 : decide ((256 : Int) < (M : Int)) = true := decide_eq_true (by omega)
      have HR := Lib.hid (HE.out.trans (if_pos (Or.inr h2)))
      have B0 : Hid (Below w.heap.size w w) := Below.refl _ _
      clear h1 h2 HE
      go_enter Try.func56, Try.ntmps56
      go_wp2_with fail
      go_ret
      exact ⟨by rw [HR.out]; rfl, B0.out⟩
    · have g2 : decide ((256 : Int) < (M : Int)) = false := decide_eq_false (by omega)
      have HE1 := Lib.hid (HE.out.trans (if_neg (fun h => h.elim h1 h2)))
      clear h1 h2 HE
      go_enter Try.func56, Try.ntmps56
      go_wp2_with fail
      go_loopw [20] (fun i wr => ∃ k : Nat, k ≤ N ∧ i = .int .i64 k ∧ Hid (crvAll (l.drop k) = CA) ∧ Hid (Below w.heap.size w wr)) (fun i _ => N - (intOf i).toNat)
      case atStart => exact ⟨0, Nat.zero_le _, rfl, HC0, Below.refl _ _⟩
      case round =>
        obtain ⟨k, hk, rfl, he, hbl⟩ := hrel
        by_cases hlt : k < N
        · obtain ⟨x, hx⟩ : ∃ x, l[k]? = some x := ⟨_, List.getElem?_eq_getElem (by rw [HN.out]; exact hlt)⟩
          obtain ⟨g, off, cap', hvv, _, _, hgl, hc⟩ := (HL.out.below hbl.out).addr (by omega)
          simp only [Value.slice.injEq] at hvv
          obtain ⟨rfl, _, rfl⟩ := hvv
          obtain ⟨c0, c1, c2, c3, c4, c5⟩ := cra_cells hc hx
          have hrd := crvAll_drop hx
          rw [he.out] at hrd
          have HCU1 := Lib.hid (HCU.out x (List.mem_of_getElem? hx))
          obtain ⟨bk, br, nd, ca, cl, cc, pts, pk, op⟩ := x
          simp only at c0 c1 c2 c3 c4 c5 hrd HCU1
          generalize pts.err = F at *
          have HDR := Lib.hid hrd
          have HCC := Lib.hid (HCU1.out (wr.alloc (.cells #[.string bk, .string br, .string nd, .slice ca cl cc, .int .i64 pk, .int .i64 op] 56)) (belowA hbl.out _))
          clear hc hx hrd he HCU1
          go_wp2_with fail
          refine HCC.out.mono ?_; rintro e w5 ⟨rfl, hb5⟩
          have B5 := Lib.hid (belowT (belowA hbl.out _) hb5)
          clear hb5 HCC
          by_cases hF : F = 0
          · have g3 : (F != 0) = false := by simp [hF]
            have HNX := Lib.hid (HDR.out.trans (if_neg (fun h => h hF)))
            clear hF HDR
            go_wp2_with fail
            go_roundw
            case rel => exact ⟨k + 1, hlt, by go_num, HNX.out.symm, B5⟩
            case measure => simp [intOf]; omega
          · have g3 : (F != 0) = true := by simp [hF]
            have HCF : Hid (CA = F) := HDR.out.trans (if_pos hF)
            have HR : Hid (E = F) := HE1.out.trans ((if_pos (by rw [HCF.out]; exact hF)).trans HCF.out)
            clear hF HDR
            go_wp2_with fail
            go_ret
            exact ⟨by rw [HR.out]; rfl, B5.out⟩
        · have hkn : l.drop k = [] := List.drop_eq_nil_of_le (by rw [HN.out]; omega)
          have HC9 : Hid (CA = 0) := by show _ = _; rw [← he.out, hkn]; rfl
          have HE2 := Lib.hid (HE1.out.trans (if_neg (fun h => h HC9.out)))
          have B4 := hbl
          clear he hkn HE1 hbl
          go_wp2_with fail
          clear hlt hk
          go_loopw [33] (fun i wr => ∃ k : Nat, k ≤ M ∧ i = .int .i64 k ∧ Hid (pairAll N (ps.drop k) = PA) ∧ Hid (Below w.heap.size w wr)) (fun i _ => M - (intOf i).toNat)
          case atStart => exact ⟨0, Nat.zero_le _, rfl, HP0, B4⟩
          case round =>
            clear B4
            obtain ⟨k, hk, rfl, he, hbl⟩ := hrel
            by_cases hlt : k < M
            · obtain ⟨x, hx⟩ : ∃ x, ps[k]? = some x := ⟨_, List.getElem?_eq_getElem (by rw [HM.out]; exact hlt)⟩
              obtain ⟨g, off, cap', hvv, _, _, hgl, hc⟩ := (HPS.out.below hbl.out).addr (by omega)
              simp only [Value.slice.injEq] at hvv
              obtain ⟨rfl, _, rfl⟩ := hvv
              obtain ⟨c0, c1⟩ := pair_cells hc hx
              have hrd := pairAll_drop (N := N) hx
              rw [he.out] at hrd
              obtain ⟨p, q⟩ := x
              simp only at c0 c1 hrd
              have HDR := Lib.hid hrd
              clear hc hx hrd he
              have B6 := Lib.hid (belowA hbl.out (.cells #[.int .i64 p, .int .i64 q] 71))
              cases hbp : badPair N (p, q)
              · have HNX := Lib.hid (HDR.out.trans (if_neg (by rw [hbp]; decide)))
                unfold badPair at hbp
                simp only [Bool.or_eq_false_iff] at hbp
                obtain ⟨q1, q2, q3⟩ := hbp
                go_wp2_with fail
                all_goals first
                  | (exfalso; simp at * <;> omega)
                  | (refine ⟨⟨k + 1, hlt, by go_num, HNX.out.symm, B6⟩, ?_⟩
                     simp [intOf]; omega)
              · have HR : Hid (E = 6) := HE2.out.trans (HDR.out.trans (if_pos hbp))
                unfold badPair at hbp
                have HQ := Lib.hid hbp
                clear hbp
                go_wp2_with fail
                all_goals first
                  | (exfalso; have hq := HQ.out; simp at * <;> omega)
                  | (go_ret; exact ⟨by rw [HR.out]; rfl, B6.out⟩)
            · have hkn : ps.drop k = [] := List.drop_eq_nil_of_le (by rw [HM.out]; omega)
              have HR : Hid (E = 0) := by show _ = _; rw [HE2.out, ← he.out, hkn]; rfl
              clear he hkn
              go_wp2_with fail
              go_ret
              exact ⟨by rw [HR.out]; rfl, hbl.out⟩
end Go.Proofs.Ytplebibabcdipaa
namespace Go.Proofs.Ytplebibabcdipaa
open Go.RowKit

/-- The relay of a number. -/
def relOf (l : List CRA) (i : Int) : CRA := l.getD i.toNat default
/-- What Conflict answers for a pair: main relay, backup. -/
def confOf (l : List CRA) (p : Int × Int) (margin low high : Int) : Int × Int := conflictR (relOf l p.1).pts (relOf l p.1).pk (relOf l p.2).pts (relOf l p.2).pk margin low high
def wrongL (l : List CRA) (margin low high : Int) : List (Int × Int) → Nat → Int × Int × Int
  | [], _ => (0, 0, 8)
  | p :: ps, i => if (confOf l p margin low high).2 = 0 then ((i : Int), (confOf l p margin low high).1, 0) else if (confOf l p margin low high).2 = 8 then wrongL l margin low high ps (i + 1) else (0, 0, (confOf l p margin low high).2)
def wrongE (l : List CRA) (ps : List (Int × Int)) (margin low high : Int) : Int × Int × Int := if setE l ps ≠ 0 then (0, 0, setE l ps) else wrongL l margin low high ps 0
theorem wrongL_drop {l : List CRA} {margin low high : Int} {ps : List (Int × Int)} {k : Nat} {p : Int × Int} (h : ps[k]? = some p) :
    wrongL l margin low high (ps.drop k) k = if (confOf l p margin low high).2 = 0 then ((k : Int), (confOf l p margin low high).1, 0) else if (confOf l p margin low high).2 = 8 then wrongL l margin low high (ps.drop (k + 1)) (k + 1) else (0, 0, (confOf l p margin low high).2) := by
  obtain ⟨hk, hx⟩ := List.getElem?_eq_some_iff.1 h
  rw [List.drop_eq_getElem_cons hk, hx]; rfl
theorem pairAll_ok {N : Int} : ∀ (ps : List (Int × Int)), pairAll N ps = 0 → ∀ p ∈ ps, 0 ≤ p.1 ∧ p.1 < N ∧ 0 ≤ p.2 ∧ p.2 < N ∧ p.1 ≠ p.2 := by
  intro ps
  induction ps with
  | nil => intro _ p hp; cases hp
  | cons x xs ih =>
    intro h p hp
    unfold pairAll at h
    split at h
    · cases h
    · rename_i hb
      rcases List.mem_cons.1 hp with rfl | hp
      · unfold badPair at hb
        simp only [Bool.or_eq_true, decide_eq_true_eq, beq_iff_eq] at hb
        omega
      · exact ih h p hp
/-- What lists and pairs that are let pass have. -/
theorem setE_ok {l : List CRA} {ps : List (Int × Int)} (h : setE l ps = 0) : l.length ≤ 24 ∧ ps.length ≤ 256 ∧ crvAll l = 0 ∧ ∀ p ∈ ps, 0 ≤ p.1 ∧ p.1 < l.length ∧ 0 ≤ p.2 ∧ p.2 < l.length ∧ p.1 ≠ p.2 := by
  unfold setE at h
  split at h
  · cases h
  · rename_i h1
    split at h
    · rename_i h2; exact absurd h h2
    · rename_i h2
      exact ⟨by omega, by omega, by simpa using h2, pairAll_ok ps h⟩

set_option maxHeartbeats 8000000 in
set_option maxRecDepth 100000 in
theorem wrong_c (l : List CRA) (ps : List (Int × Int)) (lv pv : Value) (margin low high : Int) (w : World) (hl : CRels w lv l) (hp : Reads w pv ps.length (flat pairC ps)) :
    Calls Try.prog 28 #[lv, pv, .int .i64 margin, .int .i64 low, .int .i64 high] w fun e w' => e = .returned (.tuple #[.int .i64 (wrongE l ps margin low high).1, .int .i64 (wrongE l ps margin low high).2.1, .int .i64 (wrongE l ps margin low high).2.2]) ∧ Below w.heap.size w w' := by
  obtain ⟨ra, rc, rfl⟩ := hl.1.slice
  obtain ⟨pa, pc, rfl⟩ := hp.slice
  have HCK := Lib.hid (setCheck_c l ps _ _ w hl hp)
  have HOK := Lib.hid (@setE_ok l ps)
  have HCF : Hid (∀ (a b : CRA), a ∈ l → b ∈ l → ∀ W, Below w.heap.size w W → Calls Try.prog 25 #[.slice a.ca a.cl a.cc, .int .i64 a.pk, .slice b.ca b.cl b.cc, .int .i64 b.pk, .int .i64 margin, .int .i64 low, .int .i64 high] W fun e w' => e = .returned (two (conflictR a.pts a.pk b.pts b.pk margin low high)) ∧ Below W.heap.size W w') := fun a b ha hb W hW =>
    conflict_c _ _ a.pts b.pts a.pk b.pk margin low high W ((hl.2 a ha).below hW) ((hl.2 b hb).below hW)
  have HE : Hid (wrongE l ps margin low high = if setE l ps ≠ 0 then (0, 0, setE l ps) else wrongL l margin low high ps 0) := rfl
  have HW0 : Hid (wrongL l margin low high (ps.drop 0) 0 = wrongL l margin low high ps 0) := rfl
  have HRO : Hid (∀ (i : Nat) x, l[i]? = some x → relOf l (i : Int) = x) := fun i x hx => by unfold relOf; simp [hx]
  have hl1 := hl.1
  generalize wrongE l ps margin low high = E at *
  generalize setE l ps = Z at *
  obtain ⟨N, hN⟩ : ∃ k, l.length = k := ⟨_, rfl⟩
  obtain ⟨M, hM⟩ : ∃ k, ps.length = k := ⟨_, rfl⟩
  have HN := Lib.hid hN
  have HM := Lib.hid hM
  rw [hN] at hl1 HCK HOK ⊢
  rw [hM] at hp HCK HOK ⊢
  have HL := Lib.hid hl1
  have HPS := Lib.hid hp
  generalize wrongL l margin low high ps 0 = WL at *
  clear hl hl1 hp hN hM
  go_enter Try.func28, Try.ntmps28
  go_wp2_with fail
  refine HCK.out.mono ?_; rintro e w1 ⟨rfl, hb1⟩
  have B1 := Lib.hid hb1
  clear hb1 HCK
  by_cases hz : Z = 0
  · have g1 : (Z != 0) = false := by simp [hz]
    have HE1 := Lib.hid (HE.out.trans (if_neg (fun h => h hz)))
    obtain ⟨n24, m256, _, hpo⟩ := HOK.out hz
    have HPO := Lib.hid hpo
    clear hz HE hpo HOK
    go_wp2_with fail
    go_loopw [28] (fun i wr => ∃ k : Nat, k ≤ M ∧ i = .int .i64 k ∧ Hid (wrongL l margin low high (ps.drop k) k = WL) ∧ Hid (Below w1.heap.size w1 wr)) (fun i _ => M - (intOf i).toNat)
    case atStart => exact ⟨0, Nat.zero_le _, rfl, HW0, Below.refl _ _⟩
    case round =>
      obtain ⟨k, hk, rfl, he, hbl⟩ := hrel
      have B2 := Lib.hid (belowT B1.out hbl.out)
      by_cases hlt : k < M
      · obtain ⟨x, hx⟩ : ∃ x, ps[k]? = some x := ⟨_, List.getElem?_eq_getElem (by rw [HM.out]; exact hlt)⟩
        obtain ⟨pg, poff, pcap, pvv, _, _, hpgl, hpc⟩ := (HPS.out.below B2.out).addr (by omega)
        simp only [Value.slice.injEq] at pvv
        obtain ⟨rfl, _, rfl⟩ := pvv
        obtain ⟨c0, c1⟩ := pair_cells hpc hx
        have hrd := wrongL_drop (l := l) (margin := margin) (low := low) (high := high) hx
        rw [he.out] at hrd
        obtain ⟨p0, p1, p2, p3, _⟩ := HPO.out x (List.mem_of_getElem? hx)
        obtain ⟨i, j⟩ := x
        simp only at c0 c1 p0 p1 p2 p3
        obtain ⟨i, rfl⟩ := Int.eq_ofNat_of_zero_le p0
        obtain ⟨j, rfl⟩ := Int.eq_ofNat_of_zero_le p2
        have hi : i < N := by omega
        have hj : j < N := by omega
        obtain ⟨a, ha⟩ : ∃ x, l[i]? = some x := ⟨_, List.getElem?_eq_getElem (by rw [HN.out]; exact hi)⟩
        obtain ⟨b, hb⟩ : ∃ x, l[j]? = some x := ⟨_, List.getElem?_eq_getElem (by rw [HN.out]; exact hj)⟩
        have hco : confOf l ((i : Int), (j : Int)) margin low high = conflictR a.pts a.pk b.pts b.pk margin low high := by
          unfold confOf; rw [HRO.out i a ha, HRO.out j b hb]
        rw [hco] at hrd
        have HC0 := Lib.hid (HCF.out a b (List.mem_of_getElem? ha) (List.mem_of_getElem? hb))
        obtain ⟨g, off, cap', hvv, _, _, hgl, hc⟩ := (HL.out.below B2.out).addr (by omega)
        simp only [Value.slice.injEq] at hvv
        obtain ⟨rfl, _, rfl⟩ := hvv
        obtain ⟨a0, a1, a2, a3, a4, a5⟩ := cra_cells hc ha
        obtain ⟨d0, d1, d2, d3, d4, d5⟩ := cra_cells hc hb
        obtain ⟨abk, abr, and', aca, acl, acc, apts, apk, aop⟩ := a
        obtain ⟨bbk, bbr, bnd, bca, bcl, bcc, bpts, bpk, bop⟩ := b
        simp only at a0 a1 a2 a3 a4 a5 d0 d1 d2 d3 d4 d5 hrd HC0
        obtain ⟨C, hC⟩ : ∃ C, conflictR apts apk bpts bpk margin low high = C := ⟨_, rfl⟩
        rw [hC] at hrd HC0
        have HDR := Lib.hid hrd
        have lg1 : g < wr.heap.size + 1 := by omega
        have lg2 : g < wr.heap.size + 1 + 1 := by omega
        have lg3 : g < wr.heap.size + 1 + 1 + 1 := by omega
        have B3 := Lib.hid (belowA hbl.out (.cells #[.int .i64 i, .int .i64 j] 71))
        clear hrd hco hC hc hpc hx ha hb he
        go_upto_region 7 with fail
        have EB := Lib.hid (Blk.new wr #[.int .i64 i, .int .i64 j] 71)
        have ec : ∀ q v, wr.cell? ⟨g, q, none⟩ = some v → (wr.alloc (.cells #[.int .i64 i, .int .i64 j] 71)).cell? ⟨g, q, none⟩ = some v := fun q v h => ((belowA (Below.refl _ wr) (.cells #[.int .i64 i, .int .i64 j] 71)).cell (p := ⟨g, q, none⟩) hgl).trans h
        have f0 := ec _ _ a0
        have f1 := ec _ _ a1
        have f2 := ec _ _ a2
        have f3 := ec _ _ a3
        have f4 := ec _ _ a4
        have f5 := ec _ _ a5
        have h0 := ec _ _ d0
        have h1 := ec _ _ d1
        have h2 := ec _ _ d2
        have h3 := ec _ _ d3
        have h4 := ec _ _ d4
        have h5 := ec _ _ d5
        have hsz : (wr.alloc (.cells #[.int .i64 i, .int .i64 j] 71)).heap.size = wr.heap.size + 1 := World.size_alloc _ _
        generalize wr.alloc (.cells #[.int .i64 i, .int .i64 j] 71) = W5 at *
        generalize hpb : wr.heap.size = pb at *
        have z0 := EB.out.cell 0 rfl
        have z1 := EB.out.cell 1 rfl
        have lp0 : pb < W5.heap.size := by omega
        have lp1 : pb < W5.heap.size + 1 := by omega
        have lp2 : pb < W5.heap.size + 1 + 1 := by omega
        have lq0 : g < W5.heap.size := by omega
        have lq1 : g < W5.heap.size + 1 := by omega
        have lq2 : g < W5.heap.size + 1 + 1 := by omega
        clear ec a0 a1 a2 a3 a4 a5 d0 d1 d2 d3 d4 d5 hsz lg1 lg2 lg3 c0 c1 EB
        go_cut [16, 17] from 29 to 66 (fun s16 s17 wx => ∃ d1 d2 : Nat, s16 = .pointer (some ⟨d1, 0, none⟩) ∧ s17 = .pointer (some ⟨d2, 0, none⟩) ∧ Hid (Blk wx d1 #[.string abk, .string abr, .string and', .slice aca acl acc, .int .i64 apk, .int .i64 aop] 56) ∧ Hid (Blk wx d2 #[.string bbk, .string bbr, .string bnd, .slice bca bcl bcc, .int .i64 bpk, .int .i64 bop] 56) ∧ Hid (Below W5.heap.size W5 wx))
        case first =>
          go_region
          all_goals
            go_wp2_with fail
            go_meet
            first
              | exact ⟨W5.heap.size, W5.heap.size + 1, rfl, rfl, ((Blk.new _ _ _).alloc _).drew, (Blk.new2 _ _ _ _).drew, ⟨rfl, rfl, rfl, (belowA (belowA (Below.refl _ W5) _) _).size, (belowA (belowA (Below.refl _ W5) _) _).block⟩⟩
              | exact ⟨W5.heap.size + 1, W5.heap.size, rfl, rfl, (Blk.new2 _ _ _ _).drew, ((Blk.new _ _ _).alloc _).drew, ⟨rfl, rfl, rfl, (belowA (belowA (Below.refl _ W5) _) _).size, (belowA (belowA (Below.refl _ W5) _) _).block⟩⟩
        case rest =>
          obtain ⟨d1, d2, rfl, rfl, hd1, hd2, hb5⟩ := hcut
          have B6 := Lib.hid (belowT B3.out hb5.out)
          have HCC := Lib.hid (HC0.out wc (belowT B1.out B6.out))
          have y3 := hd1.out.cell 3 rfl
          have y4 := hd1.out.cell 4 rfl
          have v3 := hd2.out.cell 3 rfl
          have v4 := hd2.out.cell 4 rfl
          obtain ⟨c1, c2⟩ := C
          clear f0 f1 f2 f3 f4 f5 h0 h1 h2 h3 h4 h5 z0 z1 hd1 hd2 hb5
          have HTW : Hid (two (c1, c2) = .tuple #[.int .i64 c1, .int .i64 c2]) := rfl
          rw [HTW.out] at HCC
          go_wp2_with fail
          refine HCC.out.mono ?_; rintro e w9 ⟨rfl, hb9⟩
          have B9 := Lib.hid (belowT B6.out hb9)
          clear hb9 HCC y3 y4 v3 v4
          by_cases q0 : c2 = 0
          · have g5 : (c2 == 0) = true := by simp [q0]
            have HR : Hid (E = ((k : Int), c1, 0)) := HE1.out.trans (HDR.out.trans (if_pos q0))
            clear q0 HDR
            go_wp2_with fail
            go_ret3
            exact ⟨by rw [HR.out]; rfl, belowT B1.out B9.out⟩
          · have g5 : (c2 == 0) = false := by simp [q0]
            have HD2 := Lib.hid (HDR.out.trans (if_neg q0))
            by_cases q8 : c2 = 8
            · have g6 : (c2 == 8) = true := by simp [q8]
              have HNX := Lib.hid (HD2.out.trans (if_pos q8))
              clear q0 q8 HDR HD2
              go_wp2_with fail
              go_roundw
              case rel => exact ⟨k + 1, hlt, by go_num, HNX.out.symm, B9⟩
              case measure => simp [intOf]; omega
            · have g6 : (c2 == 8) = false := by simp [q8]
              have HR : Hid (E = (0, 0, c2)) := HE1.out.trans (HD2.out.trans (if_neg q8))
              clear q0 q8 HDR HD2
              go_wp2_with fail
              go_ret3
              exact ⟨by rw [HR.out]; rfl, belowT B1.out B9.out⟩
      · have hkn : ps.drop k = [] := List.drop_eq_nil_of_le (by rw [HM.out]; omega)
        have HR : Hid (E = (0, 0, 8)) := by show _ = _; rw [HE1.out, ← he.out, hkn]; rfl
        clear he hkn
        go_wp2_with fail
        go_ret3
        exact ⟨by rw [HR.out]; rfl, B2.out⟩
  · have g1 : (Z != 0) = true := by simp [hz]
    have HR := Lib.hid (HE.out.trans (if_pos hz))
    clear hz HE HOK
    go_wp2_with fail
    go_ret3
    exact ⟨by rw [HR.out]; rfl, B1.out⟩
end Go.Proofs.Ytplebibabcdipaa
namespace Go.Proofs.Ytplebibabcdipaa
open Go.RowKit

/-- Whether a dial leaves no conflict, or is too great. -/
def dialOk (a b : CRA) (margin low high d : Int) : Bool := if b.pts.scaleE d = 0 then decide ((conflictR a.pts a.pk (b.pts.scaled d) b.pk margin low high).2 = 8) else true
def bisD (P : Int → Bool) : Nat → Int → Int → Int
  | 0, lo, _ => lo
  | f + 1, lo, hi => if lo < hi then (if P ((lo + hi) / 2) = true then bisD P f lo ((lo + hi) / 2) else bisD P f ((lo + hi) / 2 + 1) hi) else lo
def dialE (a b : CRA) (margin low high : Int) : Int × Int :=
  if (conflictR a.pts a.pk b.pts b.pk margin low high).2 ≠ 0 ∧ (conflictR a.pts a.pk b.pts b.pk margin low high).2 ≠ 8 then (0, (conflictR a.pts a.pk b.pts b.pk margin low high).2)
  else if bisD (dialOk a b margin low high) 10000 1 10001 ≤ 10000 ∧ b.pts.scaleE (bisD (dialOk a b margin low high) 10000 1 10001) = 0 ∧ (conflictR a.pts a.pk (b.pts.scaled (bisD (dialOk a b margin low high) 10000 1 10001)) b.pk margin low high).2 = 8 then (bisD (dialOk a b margin low high) 10000 1 10001, 0)
  else (0, 8)

set_option maxHeartbeats 8000000 in
set_option maxRecDepth 100000 in
theorem dial_c (a b : CRA) (margin low high : Int) (w : World) (ha : PVal w (.slice a.ca a.cl a.cc) a.pts) (hb : PVal w (.slice b.ca b.cl b.cc) b.pts) :
    Calls Try.prog 22 #[.agg a.cells.toArray, .agg b.cells.toArray, .int .i64 margin, .int .i64 low, .int .i64 high] w fun e w' => e = .returned (.tuple #[.int .i64 (dialE a b margin low high).1, .int .i64 (dialE a b margin low high).2]) ∧ Below w.heap.size w w' := by
  obtain ⟨abk, abr, and', aca, acl, acc, apts, apk, aop⟩ := a
  obtain ⟨bbk, bbr, bnd, bca, bcl, bcc, bpts, bpk, bop⟩ := b
  simp only at ha hb
  have HCN : Hid (∀ (vb : Value) (q : Pts) W, Below w.heap.size w W → PVal W vb q → Calls Try.prog 25 #[.slice aca acl acc, .int .i64 apk, vb, .int .i64 bpk, .int .i64 margin, .int .i64 low, .int .i64 high] W fun e w' => e = .returned (.tuple #[.int .i64 (conflictR apts apk q bpk margin low high).1, .int .i64 (conflictR apts apk q bpk margin low high).2]) ∧ Below W.heap.size W w') := fun vb q W hW hq =>
    conflict_c _ vb apts q apk bpk margin low high W (ha.below hW) hq
  have HSC : Hid (∀ d W, Below w.heap.size w W → Calls Try.prog 24 #[.slice bca bcl bcc, .int .i64 d] W fun e w' => ∃ v, e = .returned (.tuple #[v, .int .i64 (bpts.scaleE d)]) ∧ Below W.heap.size W w' ∧ (bpts.scaleE d ≠ 0 → v = .slice none 0 0) ∧ (bpts.scaleE d = 0 → PVal w' v (bpts.scaled d))) := fun d W hW =>
    scale_c _ bpts d W (hb.below hW)
  have HPB : Hid (∀ W, Below w.heap.size w W → PVal W (.slice bca bcl bcc) bpts) := fun W hW => hb.below hW
  obtain ⟨P, hP⟩ : ∃ P, dialOk ⟨abk, abr, and', aca, acl, acc, apts, apk, aop⟩ ⟨bbk, bbr, bnd, bca, bcl, bcc, bpts, bpk, bop⟩ margin low high = P := ⟨_, rfl⟩
  have HPD : Hid (∀ d, P d = if bpts.scaleE d = 0 then decide ((conflictR apts apk (bpts.scaled d) bpk margin low high).2 = 8) else true) := fun d => by rw [← hP]; rfl
  obtain ⟨R, hR⟩ : ∃ R, bisD P 10000 1 10001 = R := ⟨_, rfl⟩
  have HE : Hid (dialE ⟨abk, abr, and', aca, acl, acc, apts, apk, aop⟩ ⟨bbk, bbr, bnd, bca, bcl, bcc, bpts, bpk, bop⟩ margin low high =
    if (conflictR apts apk bpts bpk margin low high).2 ≠ 0 ∧ (conflictR apts apk bpts bpk margin low high).2 ≠ 8 then (0, (conflictR apts apk bpts bpk margin low high).2)
    else if R ≤ 10000 ∧ bpts.scaleE R = 0 ∧ (conflictR apts apk (bpts.scaled R) bpk margin low high).2 = 8 then (R, 0) else (0, 8)) := by
    show _ = _; unfold dialE; rw [hP, hR]
  have HR0 := Lib.hid hR
  clear ha hb hP hR
  generalize dialE ⟨abk, abr, and', aca, acl, acc, apts, apk, aop⟩ ⟨bbk, bbr, bnd, bca, bcl, bcc, bpts, bpk, bop⟩ margin low high = E at *
  show Calls _ _ #[.agg #[.string abk, .string abr, .string and', .slice aca acl acc, .int .i64 apk, .int .i64 aop], .agg #[.string bbk, .string bbr, .string bnd, .slice bca bcl bcc, .int .i64 bpk, .int .i64 bop], _, _, _] _ _
  have B1 := belowA (Below.refl w.heap.size w) (.cells #[.string abk, .string abr, .string and', .slice aca acl acc, .int .i64 apk, .int .i64 aop] 56)
  have K1 := Blk.new w #[.string abk, .string abr, .string and', .slice aca acl acc, .int .i64 apk, .int .i64 aop] 56
  generalize hW1 : w.alloc (.cells #[.string abk, .string abr, .string and', .slice aca acl acc, .int .i64 apk, .int .i64 aop] 56) = W1 at *
  have B2 := Lib.hid (belowA B1 (.cells #[.string bbk, .string bbr, .string bnd, .slice bca bcl bcc, .int .i64 bpk, .int .i64 bop] 56))
  have K2 := Lib.hid (K1.alloc (.cells #[.string bbk, .string bbr, .string bnd, .slice bca bcl bcc, .int .i64 bpk, .int .i64 bop] 56))
  have L2 := Lib.hid (Blk.new W1 #[.string bbk, .string bbr, .string bnd, .slice bca bcl bcc, .int .i64 bpk, .int .i64 bop] 56)
  generalize hW2 : W1.alloc (.cells #[.string bbk, .string bbr, .string bnd, .slice bca bcl bcc, .int .i64 bpk, .int .i64 bop] 56) = W2 at *
  clear B1 K1
  have HC0 := Lib.hid (HCN.out (.slice bca bcl bcc) bpts W2 B2.out (HPB.out W2 B2.out))
  obtain ⟨C0, hC0⟩ : ∃ C, conflictR apts apk bpts bpk margin low high = C := ⟨_, rfl⟩
  rw [hC0] at HC0 HE
  clear hC0
  obtain ⟨z1, z2⟩ := C0
  simp only at HC0 HE
  have x3 := K2.out.cell 3 rfl
  have x4 := K2.out.cell 4 rfl
  have y3 := L2.out.cell 3 rfl
  have y4 := L2.out.cell 4 rfl
  go_enter Try.func22, Try.ntmps22
  go_wp2_with fail
  refine HC0.out.mono ?_; rintro e w4 ⟨rfl, hb4⟩
  clear x3 x4 y3 y4
  have B4 := Lib.hid (belowT B2.out hb4)
  have K4 := Lib.hid (below_blk hb4 K2.out K2.out.lt)
  have L4 := Lib.hid (below_blk hb4 L2.out L2.out.lt)
  clear hb4 B2 K2 L2 HC0 HPB
  by_cases hbad : z2 ≠ 0 ∧ z2 ≠ 8
  · have g1 : (z2 != 0) = true := by simp [hbad.1]
    have g2 : (z2 != 8) = true := by simp [hbad.2]
    have HRR := Lib.hid (HE.out.trans (if_pos hbad))
    clear hbad HE
    go_wp2_with fail
    go_ret2
    exact ⟨by rw [HRR.out]; rfl, B4.out⟩
  · have HE2 := Lib.hid (HE.out.trans (if_neg hbad))
    have g12 : (z2 = 0 ∧ (z2 != 0) = false) ∨ (z2 = 8 ∧ (z2 != 8) = false ∧ (z2 != 0) = true) := by
      by_cases h0 : z2 = 0
      · exact Or.inl ⟨h0, by simp [h0]⟩
      · right
        have h8 : z2 = 8 := Classical.byContradiction fun h => hbad ⟨h0, h⟩
        exact ⟨h8, by simp [h8], by simp [h8]⟩
    clear hbad HE
    rcases g12 with ⟨rfl, g1⟩ | ⟨rfl, g2, g1⟩
    ·
      go_wp2_with fail
      go_loopw [14, 15] (fun lo hi wr => ∃ (f : Nat) (x y : Int), lo = .int .i64 x ∧ hi = .int .i64 y ∧ (1 ≤ x ∧ x ≤ y ∧ y ≤ 10001 ∧ y - x ≤ f) ∧ Hid (bisD P f x y = R) ∧ Hid (Below w4.heap.size w4 wr)) (fun lo hi _ => (intOf hi - intOf lo).toNat)
      case atStart => exact ⟨10000, 1, 10001, rfl, rfl, by omega, HR0, Below.refl _ _⟩
      case round =>
        obtain ⟨f, x, y, rfl, rfl, hxy, he, hbl⟩ := hrel
        have BW := Lib.hid (belowT B4.out hbl.out)
        have KW := Lib.hid (below_blk hbl.out K4.out K4.out.lt)
        have LW := Lib.hid (below_blk hbl.out L4.out L4.out.lt)
        have x3 := KW.out.cell 3 rfl
        have x4 := KW.out.cell 4 rfl
        have y3 := LW.out.cell 3 rfl
        have y4 := LW.out.cell 4 rfl
        by_cases hlt : x < y
        ·
          obtain ⟨f', rfl⟩ : ∃ f', f = f' + 1 := ⟨f - 1, by omega⟩
          have hbd : (if P ((x + y) / 2) = true then bisD P f' x ((x + y) / 2) else bisD P f' ((x + y) / 2 + 1) y) = R := by
            have h := he.out
            unfold bisD at h
            rw [if_pos hlt] at h
            exact h
          have HBD := Lib.hid hbd
          have hd1 : x ≤ (x + y) / 2 := by omega
          have hd2 : (x + y) / 2 < y := by omega
          have HS := Lib.hid (HSC.out ((x + y) / 2) wr BW.out)
          have HP1 := Lib.hid (HPD.out ((x + y) / 2))
          clear hbd he
          go_wp2_with fail
          generalize bpts.scaleE ((x + y) / 2) = SE at *
          generalize bpts.scaled ((x + y) / 2) = SQ at *
          refine HS.out.mono ?_; rintro e w5 ⟨v, rfl, hb5, hv0, hv1⟩
          clear x3 x4 y3 y4
          have B5 := Lib.hid (belowT hbl.out hb5)
          have BX := Lib.hid (belowT BW.out hb5)
          have K5 := Lib.hid (below_blk hb5 KW.out KW.out.lt)
          have L5 := Lib.hid (below_blk hb5 LW.out LW.out.lt)
          have x3 := K5.out.cell 3 rfl
          have x4 := K5.out.cell 4 rfl
          have y3 := L5.out.cell 3 rfl
          have y4 := L5.out.cell 4 rfl
          clear hb5 hv0 HS KW LW
          by_cases hs : SE = 0
          ·
            have g5 : (SE == 0) = true := by simp [hs]
            have HCC := Lib.hid (HCN.out v SQ w5 BX.out (hv1 hs))
            have HP2 := Lib.hid (HP1.out.trans (if_pos hs))
            generalize conflictR apts apk SQ bpk margin low high = C at *
            obtain ⟨c1, c2⟩ := C
            simp only at HCC HP2
            clear hs HP1 hv1
            go_wp2_with fail
            refine HCC.out.mono ?_; rintro e w6 ⟨rfl, hb6⟩
            have B6 := Lib.hid (belowT B5.out hb6)
            clear hb6 x3 x4 y3 y4 HCC
            by_cases h8 : c2 = 8
            ·
              have g6 : (c2 == 8) = true := by simp [h8]
              have HN2 : Hid (bisD P f' x ((x + y) / 2) = R) := by show _ = _; rw [← HBD.out, if_pos (by rw [HP2.out]; exact decide_eq_true h8)]
              clear h8 HP2 HBD
              go_wp2_with fail
              go_roundw
              case rel => exact ⟨f', x, (x + y) / 2, rfl, rfl, by omega, HN2, B6⟩
              case measure => simp [intOf]; omega
            ·
              have g6 : (c2 == 8) = false := by simp [h8]
              have HN2 : Hid (bisD P f' ((x + y) / 2 + 1) y = R) := by show _ = _; rw [← HBD.out, if_neg (by rw [HP2.out]; simp [h8])]
              clear h8 HP2 HBD
              go_wp2_with fail
              go_roundw
              case rel => exact ⟨f', (x + y) / 2 + 1, y, rfl, rfl, by omega, HN2, B6⟩
              case measure => simp [intOf]; omega
          ·
            have g5 : (SE == 0) = false := by simp [hs]
            have HP2 := Lib.hid (HP1.out.trans (if_neg hs))
            have HN2 : Hid (bisD P f' x ((x + y) / 2) = R) := by show _ = _; rw [← HBD.out, if_pos HP2.out]
            clear hs HP1 HP2 HBD hv1 x3 x4 y3 y4
            go_wp2_with fail
            go_roundw
            case rel => exact ⟨f', x, (x + y) / 2, rfl, rfl, by omega, HN2, B5⟩
            case measure => simp [intOf]; omega
        ·
          have hxx : x = y := by omega
          have hR : R = x := by
            rw [← he.out]
            cases f with
            | zero => rfl
            | succ f => unfold bisD; rw [if_neg hlt]
          rw [hR] at HE2
          clear he hxx hR
          by_cases h10 : 10000 < x
          ·
            have HRR := Lib.hid (HE2.out.trans (if_neg (fun h => by omega)))
            have HS := Lib.hid (HSC.out 10000 wr BW.out)
            have g7 : decide (x ≤ 10000) = false := decide_eq_false (by omega)
            go_wp2_with fail
            generalize bpts.scaleE 10000 = SE at *
            refine HS.out.mono ?_; rintro e w5 ⟨v, rfl, hb5, hv0, hv1⟩
            clear x3 x4 y3 y4
            have BX := Lib.hid (belowT BW.out hb5)
            clear hb5 hv0 hv1
            cases g5 : (SE == 0)
            ·
              go_wp2_with fail
              go_ret2
              exact ⟨by rw [HRR.out]; rfl, BX.out⟩
            ·
              go_wp2_with fail
              go_ret2
              exact ⟨by rw [HRR.out]; rfl, BX.out⟩
          ·
            have HS := Lib.hid (HSC.out x wr BW.out)
            have g7 : decide (x ≤ 10000) = true := decide_eq_true (by omega)
            have hx10 : x ≤ 10000 := by omega
            go_wp2_with fail
            generalize bpts.scaleE x = SE at *
            generalize bpts.scaled x = SQ at *
            refine HS.out.mono ?_; rintro e w5 ⟨v, rfl, hb5, hv0, hv1⟩
            clear x3 x4 y3 y4
            have BX := Lib.hid (belowT BW.out hb5)
            have K5 := Lib.hid (below_blk hb5 KW.out KW.out.lt)
            have L5 := Lib.hid (below_blk hb5 LW.out LW.out.lt)
            have x3 := K5.out.cell 3 rfl
            have x4 := K5.out.cell 4 rfl
            have y3 := L5.out.cell 3 rfl
            have y4 := L5.out.cell 4 rfl
            clear hb5 hv0 HS KW LW
            by_cases hs : SE = 0
            ·
              have g5 : (SE == 0) = true := by simp [hs]
              have HCC := Lib.hid (HCN.out v SQ w5 BX.out (hv1 hs))
              generalize conflictR apts apk SQ bpk margin low high = C at *
              obtain ⟨c1, c2⟩ := C
              simp only at HCC HE2
              have HSE := Lib.hid hs
              clear hs hv1
              go_wp2_with fail
              refine HCC.out.mono ?_; rintro e w6 ⟨rfl, hb6⟩
              have BY := Lib.hid (belowT BX.out hb6)
              clear hb6 x3 x4 y3 y4 HCC
              by_cases h8 : c2 = 8
              ·
                have g6 : (c2 == 8) = true := by simp [h8]
                have HRR := Lib.hid (HE2.out.trans (if_pos ⟨hx10, HSE.out, h8⟩))
                clear h8
                go_wp2_with fail
                go_ret2
                exact ⟨by rw [HRR.out]; rfl, BY.out⟩
              ·
                have g6 : (c2 == 8) = false := by simp [h8]
                have HRR := Lib.hid (HE2.out.trans (if_neg (fun h => h8 h.2.2)))
                clear h8
                go_wp2_with fail
                go_ret2
                exact ⟨by rw [HRR.out]; rfl, BY.out⟩
            ·
              have g5 : (SE == 0) = false := by simp [hs]
              have HRR := Lib.hid (HE2.out.trans (if_neg (fun h => hs h.2.1)))
              clear hs hv1 x3 x4 y3 y4
              go_wp2_with fail
              go_ret2
              exact ⟨by rw [HRR.out]; rfl, BX.out⟩
    ·
      go_wp2_with fail
      go_loopw [14, 15] (fun lo hi wr => ∃ (f : Nat) (x y : Int), lo = .int .i64 x ∧ hi = .int .i64 y ∧ (1 ≤ x ∧ x ≤ y ∧ y ≤ 10001 ∧ y - x ≤ f) ∧ Hid (bisD P f x y = R) ∧ Hid (Below w4.heap.size w4 wr)) (fun lo hi _ => (intOf hi - intOf lo).toNat)
      case atStart => exact ⟨10000, 1, 10001, rfl, rfl, by omega, HR0, Below.refl _ _⟩
      case round =>
        obtain ⟨f, x, y, rfl, rfl, hxy, he, hbl⟩ := hrel
        have BW := Lib.hid (belowT B4.out hbl.out)
        have KW := Lib.hid (below_blk hbl.out K4.out K4.out.lt)
        have LW := Lib.hid (below_blk hbl.out L4.out L4.out.lt)
        have x3 := KW.out.cell 3 rfl
        have x4 := KW.out.cell 4 rfl
        have y3 := LW.out.cell 3 rfl
        have y4 := LW.out.cell 4 rfl
        by_cases hlt : x < y
        ·
          obtain ⟨f', rfl⟩ : ∃ f', f = f' + 1 := ⟨f - 1, by omega⟩
          have hbd : (if P ((x + y) / 2) = true then bisD P f' x ((x + y) / 2) else bisD P f' ((x + y) / 2 + 1) y) = R := by
            have h := he.out
            unfold bisD at h
            rw [if_pos hlt] at h
            exact h
          have HBD := Lib.hid hbd
          have hd1 : x ≤ (x + y) / 2 := by omega
          have hd2 : (x + y) / 2 < y := by omega
          have HS := Lib.hid (HSC.out ((x + y) / 2) wr BW.out)
          have HP1 := Lib.hid (HPD.out ((x + y) / 2))
          clear hbd he
          go_wp2_with fail
          generalize bpts.scaleE ((x + y) / 2) = SE at *
          generalize bpts.scaled ((x + y) / 2) = SQ at *
          refine HS.out.mono ?_; rintro e w5 ⟨v, rfl, hb5, hv0, hv1⟩
          clear x3 x4 y3 y4
          have B5 := Lib.hid (belowT hbl.out hb5)
          have BX := Lib.hid (belowT BW.out hb5)
          have K5 := Lib.hid (below_blk hb5 KW.out KW.out.lt)
          have L5 := Lib.hid (below_blk hb5 LW.out LW.out.lt)
          have x3 := K5.out.cell 3 rfl
          have x4 := K5.out.cell 4 rfl
          have y3 := L5.out.cell 3 rfl
          have y4 := L5.out.cell 4 rfl
          clear hb5 hv0 HS KW LW
          by_cases hs : SE = 0
          ·
            have g5 : (SE == 0) = true := by simp [hs]
            have HCC := Lib.hid (HCN.out v SQ w5 BX.out (hv1 hs))
            have HP2 := Lib.hid (HP1.out.trans (if_pos hs))
            generalize conflictR apts apk SQ bpk margin low high = C at *
            obtain ⟨c1, c2⟩ := C
            simp only at HCC HP2
            clear hs HP1 hv1
            go_wp2_with fail
            refine HCC.out.mono ?_; rintro e w6 ⟨rfl, hb6⟩
            have B6 := Lib.hid (belowT B5.out hb6)
            clear hb6 x3 x4 y3 y4 HCC
            by_cases h8 : c2 = 8
            ·
              have g6 : (c2 == 8) = true := by simp [h8]
              have HN2 : Hid (bisD P f' x ((x + y) / 2) = R) := by show _ = _; rw [← HBD.out, if_pos (by rw [HP2.out]; exact decide_eq_true h8)]
              clear h8 HP2 HBD
              go_wp2_with fail
              go_roundw
              case rel => exact ⟨f', x, (x + y) / 2, rfl, rfl, by omega, HN2, B6⟩
              case measure => simp [intOf]; omega
            ·
              have g6 : (c2 == 8) = false := by simp [h8]
              have HN2 : Hid (bisD P f' ((x + y) / 2 + 1) y = R) := by show _ = _; rw [← HBD.out, if_neg (by rw [HP2.out]; simp [h8])]
              clear h8 HP2 HBD
              go_wp2_with fail
              go_roundw
              case rel => exact ⟨f', (x + y) / 2 + 1, y, rfl, rfl, by omega, HN2, B6⟩
              case measure => simp [intOf]; omega
          ·
            have g5 : (SE == 0) = false := by simp [hs]
            have HP2 := Lib.hid (HP1.out.trans (if_neg hs))
            have HN2 : Hid (bisD P f' x ((x + y) / 2) = R) := by show _ = _; rw [← HBD.out, if_pos HP2.out]
            clear hs HP1 HP2 HBD hv1 x3 x4 y3 y4
            go_wp2_with fail
            go_roundw
            case rel => exact ⟨f', x, (x + y) / 2, rfl, rfl, by omega, HN2, B5⟩
            case measure => simp [intOf]; omega
        ·
          have hxx : x = y := by omega
          have hR : R = x := by
            rw [← he.out]
            cases f with
            | zero => rfl
            | succ f => unfold bisD; rw [if_neg hlt]
          rw [hR] at HE2
          clear he hxx hR
          by_cases h10 : 10000 < x
          ·
            have HRR := Lib.hid (HE2.out.trans (if_neg (fun h => by omega)))
            have HS := Lib.hid (HSC.out 10000 wr BW.out)
            have g7 : decide (x ≤ 10000) = false := decide_eq_false (by omega)
            go_wp2_with fail
            generalize bpts.scaleE 10000 = SE at *
            refine HS.out.mono ?_; rintro e w5 ⟨v, rfl, hb5, hv0, hv1⟩
            clear x3 x4 y3 y4
            have BX := Lib.hid (belowT BW.out hb5)
            clear hb5 hv0 hv1
            cases g5 : (SE == 0)
            ·
              go_wp2_with fail
              go_ret2
              exact ⟨by rw [HRR.out]; rfl, BX.out⟩
            ·
              go_wp2_with fail
              go_ret2
              exact ⟨by rw [HRR.out]; rfl, BX.out⟩
          ·
            have HS := Lib.hid (HSC.out x wr BW.out)
            have g7 : decide (x ≤ 10000) = true := decide_eq_true (by omega)
            have hx10 : x ≤ 10000 := by omega
            go_wp2_with fail
            generalize bpts.scaleE x = SE at *
            generalize bpts.scaled x = SQ at *
            refine HS.out.mono ?_; rintro e w5 ⟨v, rfl, hb5, hv0, hv1⟩
            clear x3 x4 y3 y4
            have BX := Lib.hid (belowT BW.out hb5)
            have K5 := Lib.hid (below_blk hb5 KW.out KW.out.lt)
            have L5 := Lib.hid (below_blk hb5 LW.out LW.out.lt)
            have x3 := K5.out.cell 3 rfl
            have x4 := K5.out.cell 4 rfl
            have y3 := L5.out.cell 3 rfl
            have y4 := L5.out.cell 4 rfl
            clear hb5 hv0 HS KW LW
            by_cases hs : SE = 0
            ·
              have g5 : (SE == 0) = true := by simp [hs]
              have HCC := Lib.hid (HCN.out v SQ w5 BX.out (hv1 hs))
              generalize conflictR apts apk SQ bpk margin low high = C at *
              obtain ⟨c1, c2⟩ := C
              simp only at HCC HE2
              have HSE := Lib.hid hs
              clear hs hv1
              go_wp2_with fail
              refine HCC.out.mono ?_; rintro e w6 ⟨rfl, hb6⟩
              have BY := Lib.hid (belowT BX.out hb6)
              clear hb6 x3 x4 y3 y4 HCC
              by_cases h8 : c2 = 8
              ·
                have g6 : (c2 == 8) = true := by simp [h8]
                have HRR := Lib.hid (HE2.out.trans (if_pos ⟨hx10, HSE.out, h8⟩))
                clear h8
                go_wp2_with fail
                go_ret2
                exact ⟨by rw [HRR.out]; rfl, BY.out⟩
              ·
                have g6 : (c2 == 8) = false := by simp [h8]
                have HRR := Lib.hid (HE2.out.trans (if_neg (fun h => h8 h.2.2)))
                clear h8
                go_wp2_with fail
                go_ret2
                exact ⟨by rw [HRR.out]; rfl, BY.out⟩
            ·
              have g5 : (SE == 0) = false := by simp [hs]
              have HRR := Lib.hid (HE2.out.trans (if_neg (fun h => hs h.2.1)))
              clear hs hv1 x3 x4 y3 y4
              go_wp2_with fail
              go_ret2
              exact ⟨by rw [HRR.out]; rfl, BX.out⟩
end Go.Proofs.Ytplebibabcdipaa
