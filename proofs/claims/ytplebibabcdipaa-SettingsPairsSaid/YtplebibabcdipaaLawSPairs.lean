/- SettingsPairs: the walk of the law. -/
import Derived.Test.YtplebibabcdipaaSet11
import Derived.Test.YtplebibabcdipaaSetO
namespace Go.Proofs.Ytplebibabcdipaa
open Go.RowKit

/-- The order of the pairs. -/
def LtP (p q : Int × Int) : Prop := p.1 < q.1 ∨ (p.1 = q.1 ∧ p.2 < q.2)
theorem rowL_mem {n : Net} {BE : List Int} {x : CRA} {i : Nat} : ∀ (l : List CRA) (k : Nat), ∀ p ∈ rowL n BE x i l k, p.1 = i ∧ (k : Int) ≤ p.2 ∧ ∃ (j : Nat) (y : CRA), p.2 = ((k + j : Nat) : Int) ∧ l[j]? = some y ∧ sameB x.branch y.branch = false := by
  intro l
  induction l with
  | nil => intro k p hp; cases hp
  | cons y ys ih =>
    intro k p hp
    unfold rowL at hp
    have step : p ∈ rowL n BE x i ys (k + 1) → p.1 = i ∧ (k : Int) ≤ p.2 ∧ ∃ (j : Nat) (z : CRA), p.2 = ((k + j : Nat) : Int) ∧ (y :: ys)[j]? = some z ∧ sameB x.branch z.branch = false := fun h => by
      obtain ⟨h1, h2, j, z, h3, h4, h5⟩ := ih (k + 1) p h
      exact ⟨h1, by omega, j + 1, z, by rw [h3]; push_cast; omega, by simpa using h4, h5⟩
    split at hp
    · rename_i hh
      rcases List.mem_cons.1 hp with rfl | hp
      · refine ⟨rfl, Int.le_refl _, 0, y, by simp, rfl, ?_⟩
        unfold pairHit at hh
        simp only [Bool.and_eq_true, Bool.not_eq_true'] at hh
        exact hh.1
      · exact step hp
    · exact step hp
theorem rowL_sorted {n : Net} {BE : List Int} {x : CRA} {i : Nat} : ∀ (l : List CRA) (k : Nat), (rowL n BE x i l k).Pairwise LtP := by
  intro l
  induction l with
  | nil => intro k; exact List.Pairwise.nil
  | cons y ys ih =>
    intro k
    unfold rowL
    split
    · refine List.Pairwise.cons (fun p hp => ?_) (ih (k + 1))
      obtain ⟨h1, h2, _⟩ := rowL_mem _ _ p hp
      exact Or.inr ⟨h1.symm, by simp only; omega⟩
    · exact ih (k + 1)
theorem pairsL_mem {n : Net} {BE : List Int} {l : List CRA} : ∀ (l' : List CRA) (i : Nat), ∀ p ∈ pairsL n BE l l' i, (i : Int) ≤ p.1 ∧ ∃ (a b : Nat) (x y : CRA), p = (((i + a : Nat) : Int), (b : Int)) ∧ l'[a]? = some x ∧ l[b]? = some y ∧ sameB x.branch y.branch = false := by
  intro l'
  induction l' with
  | nil => intro i p hp; cases hp
  | cons x xs ih =>
    intro i p hp
    unfold pairsL at hp
    rcases List.mem_append.1 hp with hp | hp
    · obtain ⟨h1, h2, j, y, h3, h4, h5⟩ := rowL_mem _ _ p hp
      refine ⟨by omega, 0, j, x, y, ?_, rfl, h4, h5⟩
      obtain ⟨p1, p2⟩ := p
      simp only at h1 h3
      rw [h1, h3]; simp
    · obtain ⟨h1, a, b, z, y, h2, h3, h4, h5⟩ := ih (i + 1) p hp
      exact ⟨by omega, a + 1, b, z, y, by rw [h2]; congr 2; omega, by simpa using h3, h4, h5⟩
theorem pairsL_sorted {n : Net} {BE : List Int} {l : List CRA} : ∀ (l' : List CRA) (i : Nat), (pairsL n BE l l' i).Pairwise LtP := by
  intro l'
  induction l' with
  | nil => intro i; exact List.Pairwise.nil
  | cons x xs ih =>
    intro i
    unfold pairsL
    refine List.pairwise_append.2 ⟨rowL_sorted _ _, ih (i + 1), fun p hp q hq => ?_⟩
    obtain ⟨h1, _⟩ := rowL_mem _ _ p hp
    obtain ⟨h2, _⟩ := pairsL_mem _ _ q hq
    exact Or.inl (by omega)
/-- What the law asks of the pairs. -/
theorem pairsE_good {n : Net} {l : List CRA} {j : Nat} {p : Int × Int} (hp : (pairsE n l)[j]? = some p) :
    (∃ (a b : Nat) (x y : CRA), p = ((a : Int), (b : Int)) ∧ l[a]? = some x ∧ l[b]? = some y ∧ sameB x.branch y.branch = false) ∧
    ∀ (i : Nat) q, j = i + 1 → (pairsE n l)[i]? = some q → LtP q p := by
  by_cases hz : clearE n l = 0
  · have e : pairsE n l = pairsL n (busesE n) l l 0 := if_neg (fun h => h hz)
    rw [e] at hp ⊢
    refine ⟨?_, fun i q hi hq => ?_⟩
    · obtain ⟨_, a, b, x, y, h1, h2, h3, h4⟩ := pairsL_mem l 0 p (List.mem_of_getElem? hp)
      exact ⟨a, b, x, y, by rw [h1]; simp, h2, h3, h4⟩
    · subst hi
      obtain ⟨h1, h2⟩ := List.getElem?_eq_some_iff.1 hp
      obtain ⟨h3, h4⟩ := List.getElem?_eq_some_iff.1 hq
      have := List.pairwise_iff_getElem.1 (pairsL_sorted (n := n) (BE := busesE n) (l := l) l 0) i (i + 1) h3 h1 (Nat.lt_succ_self i)
      rw [h2, h4] at this; exact this
  · have e : pairsE n l = [] := if_pos hz
    rw [e] at hp; cases hp

set_option maxHeartbeats 8000000 in
set_option maxRecDepth 100000 in
theorem settingsPairs_c (x0 : NAddr) (n : Net) (l0 : List CRA) (lv : Value) (w : World) (hr : NetR w x0 n) (hwf : n.Wf) (hl : CRels w lv l0) :
    Calls Try.prog 9 #[x0.val n, lv] w fun e w' => e = .returned (.bool true) ∧ Below w.heap.size w w' := by
  obtain ⟨ra, rc, rfl⟩ := hl.1.slice
  have HPC := Lib.hid (fun (l : List CRA) lv W (hW : Below w.heap.size w W) hl => pairs_c x0 n l lv W (hr.below hW) hwf hl)
  have HGD : Hid (∀ (l : List CRA) j p, (pairsE n l)[j]? = some p → (∃ (a b : Nat) (x y : CRA), p = ((a : Int), (b : Int)) ∧ l[a]? = some x ∧ l[b]? = some y ∧ sameB x.branch y.branch = false) ∧ ∀ (i : Nat) q, j = i + 1 → (pairsE n l)[i]? = some q → LtP q p) := fun l j p h => pairsE_good h
  have HPZ : Hid (∀ l : List CRA, clearE n l ≠ 0 → (pairsE n l).length = 0) := fun l h => by unfold pairsE; rw [if_pos h]; rfl
  obtain ⟨N0, hN0⟩ : ∃ k, l0.length = k := ⟨_, rfl⟩
  have HN0 := Lib.hid hN0
  rw [hN0] at hl ⊢
  have HRL := Lib.hid hl
  have hcap : 0 < N0 → N0 ≤ rc := fun h => hl.cap hN0 h
  have hmx : N0 ≤ 9223372036854775807 := by
    rcases hl.1 with ⟨h, _⟩ | ⟨_, _, _, _, _, h, _⟩
    · omega
    · omega
  have B1 := belowA (Below.refl w.heap.size w) (.cells #[.slice x0.na n.nodes.length x0.nc, .slice x0.sa n.sws.length x0.sc, .slice x0.ba n.brs.length x0.bc, .slice x0.ga n.gens.length x0.gc, .slice x0.la n.loads.length x0.lc, .slice x0.ta n.stores.length x0.tc] 29)
  have K1 := Blk.new w #[.slice x0.na n.nodes.length x0.nc, .slice x0.sa n.sws.length x0.sc, .slice x0.ba n.brs.length x0.bc, .slice x0.ga n.gens.length x0.gc, .slice x0.la n.loads.length x0.lc, .slice x0.ta n.stores.length x0.tc] 29
  obtain ⟨nb, hnb0⟩ : ∃ b, w.heap.size = b := ⟨_, rfl⟩
  rw [hnb0] at K1
  obtain ⟨PE, hPE⟩ : ∃ f, (fun l => pairsE n l) = f := ⟨_, rfl⟩
  obtain ⟨CE, hCE⟩ : ∃ f, (fun l => clearE n l) = f := ⟨_, rfl⟩
  have hpe : ∀ l, pairsE n l = PE l := fun l => by rw [← hPE]
  have hce : ∀ l, clearE n l = CE l := fun l => by rw [← hCE]
  simp only [hpe, hce] at HPC HGD HPZ
  clear hr hwf hl hN0 hPE hCE hpe hce
  obtain ⟨na, nc, sa, sc, ba, bc, ga, gc, la, lc, ta, tc⟩ := x0
  obtain ⟨nl, sws, brs, gens, loads, stores⟩ := n
  simp only [NAddr.val] at HPC B1 K1 ⊢
  generalize nl.length = nn at *
  generalize sws.length = sn at *
  generalize brs.length = bn at *
  generalize gens.length = gn at *
  generalize loads.length = ln at *
  generalize stores.length = tn at *
  generalize hW1 : w.alloc (.cells #[.slice na nn nc, .slice sa sn sc, .slice ba bn bc, .slice ga gn gc, .slice la ln lc, .slice ta tn tc] 29) = W1 at *
  have HW1 := Lib.hid hW1
  have HNB := Lib.hid hnb0
  have HB1 := Lib.hid B1
  have HK1 := Lib.hid K1
  clear B1 K1 hW1 hnb0
  go_enter Try.func9, Try.ntmps9
  go_upto_region 1 with fail
  rw [HW1.out, HNB.out]
  go_cut [1] from 9 to 13 (fun s1 wx => ∃ (l : List CRA) (N : Nat), l.length = N ∧ N ≤ 6 ∧ s1 = .slice ra N rc ∧ Hid (CRels W1 (.slice ra N rc) l) ∧ W1 = wx)
  case first =>
    by_cases h6 : 6 < N0
    · have hc6 : 6 ≤ rc := by have := hcap (by omega); omega
      have HT := Lib.hid ((HRL.out.take HN0.out (Nat.le_of_lt h6)).below HB1.out)
      have hlen : (l0.take 6).length = 6 := by rw [List.length_take, HN0.out]; omega
      go_wp2_with fail
      go_meet
      exact ⟨l0.take 6, 6, hlen, by omega, rfl, HT, rfl⟩
    · have hcc : N0 ≤ rc := by
        rcases Nat.eq_zero_or_pos N0 with h | h
        · omega
        · exact hcap h
      have HT := Lib.hid (HRL.out.below HB1.out)
      go_wp2_with fail
      go_meet
      exact ⟨l0, N0, HN0.out, by omega, rfl, HT, rfl⟩
  case rest =>
    obtain ⟨l, N, hN, hN6, rfl, hrl, rfl⟩ := hcut
    have HN := Lib.hid hN
    have HG := Lib.hid (HGD.out l)
    have HP := Lib.hid (fun W (hW : Below W1.heap.size W1 W) => HPC.out l (.slice ra N rc) W (belowT HB1.out hW) (hrl.out.below hW))
    have HL := Lib.hid hrl.out.1
    have HZ := Lib.hid (HPZ.out l)
    rw [hN] at HL
    generalize PE l = P at *
    generalize CE l = Z at *
    clear hN HGD HPC hrl HRL HN0 hcap hmx HPZ
    go_wp2_with fail
    refine (settingsWorks_c W1).mono ?_; rintro e w4 ⟨rfl, hb4⟩
    have B4 := Lib.hid hb4
    have k4 := below_blk hb4 HK1.out HK1.out.lt
    have x0 := k4.cell 0 rfl
    have x1 := k4.cell 1 rfl
    have x2 := k4.cell 2 rfl
    have x3 := k4.cell 3 rfl
    have x4 := k4.cell 4 rfl
    have x5 := k4.cell 5 rfl
    clear hb4 k4
    go_wp2_with fail
    refine (HP.out w4 B4.out).mono ?_; rintro e w5 ⟨pv, rfl, hpv, hb5⟩
    obtain ⟨pa, pc, rfl⟩ := hpv.slice
    obtain ⟨M, hM⟩ : ∃ k, P.length = k := ⟨_, rfl⟩
    have HM := Lib.hid hM
    rw [hM] at hpv HZ ⊢
    have HPV := Lib.hid hpv
    have B5 := Lib.hid (belowT B4.out hb5)
    clear hpv hb5 x0 x1 x2 x3 x4 x5 HP B4 hM
    by_cases hz : Z = 0
    ·
      have g1 : (Z != 0) = false := by simp [hz]
      clear hz HZ
      have hmm : M ≤ 9223372036854775807 := by
        rcases HPV.out with ⟨h, _⟩ | ⟨_, _, _, _, _, h, _⟩
        · omega
        · exact h
      go_wp2_with fail
      go_loopw [29] (fun i wr => ∃ k : Nat, k ≤ M ∧ i = .int .i64 k ∧ Hid (Below W1.heap.size W1 wr) ∧ Hid (Below w5.heap.size w5 wr)) (fun i _ => M - (intOf i).toNat)
      case atStart => exact ⟨0, Nat.zero_le _, rfl, B5, Below.refl _ _⟩
      case round =>
        obtain ⟨k, hk, rfl, hb1, hbl⟩ := hrel
        by_cases hlt : k < M
        ·
          obtain ⟨p, hp⟩ : ∃ x, P[k]? = some x := ⟨_, List.getElem?_eq_getElem (by rw [HM.out]; exact hlt)⟩
          obtain ⟨⟨a, b, x, y, hpab, hx, hy, hsb⟩, hlp⟩ := HG.out k p hp
          obtain ⟨pg, poff, pcap, pvv, _, _, hpgl, pcc⟩ := (HPV.out.below hbl.out).addr (by omega)
          simp only [Value.slice.injEq] at pvv
          obtain ⟨rfl, _, rfl⟩ := pvv
          obtain ⟨c0, c1⟩ := pair_cells pcc hp
          subst hpab
          simp only at c0 c1
          have haN : a < N := by have := (List.getElem?_eq_some_iff.1 hx).1; rw [HN.out] at this; exact this
          have hbN : b < N := by have := (List.getElem?_eq_some_iff.1 hy).1; rw [HN.out] at this; exact this
          obtain ⟨rg, roff, rcap, rvv, _, _, hrgl, rcc⟩ := (HL.out.below hb1.out).addr (by omega)
          simp only [Value.slice.injEq] at rvv
          obtain ⟨rfl, _, rfl⟩ := rvv
          obtain ⟨_, r1, _⟩ := cra_cells rcc hx
          obtain ⟨_, r2, _⟩ := cra_cells rcc hy
          have HSB : Hid ((x.branch.toList == y.branch.toList) = false) := hsb
          generalize x.branch = xbr at *
          generalize y.branch = ybr at *
          have KP := Blk.new wr #[.int .i64 a, .int .i64 b] 71
          have e0 := belowA (Below.refl _ wr) (.cells #[.int .i64 a, .int .i64 b] 71)
          have r1' := (e0.cell (p := ⟨rg, roff + a * 6 + 1, none⟩) hrgl).trans r1
          have r2' := (e0.cell (p := ⟨rg, roff + b * 6 + 1, none⟩) hrgl).trans r2
          have B6 := Lib.hid (belowT hb1.out e0)
          have B7 := Lib.hid (belowT hbl.out e0)
          have HPREV : Hid (∀ i, k = i + 1 → ∃ (a' b' : Int), (wr.alloc (.cells #[.int .i64 a, .int .i64 b] 71)).cell? ⟨pg, poff + i * 2, none⟩ = some (.int .i64 a') ∧ (wr.alloc (.cells #[.int .i64 a, .int .i64 b] 71)).cell? ⟨pg, poff + i * 2 + 1, none⟩ = some (.int .i64 b') ∧ (a' < a ∨ (a' = a ∧ b' < b))) := fun i hi => by
            obtain ⟨q, hq⟩ : ∃ x, P[i]? = some x := ⟨_, List.getElem?_eq_getElem (by rw [HM.out]; omega)⟩
            obtain ⟨d0, d1⟩ := pair_cells pcc hq
            exact ⟨q.1, q.2, (e0.cell (p := ⟨pg, poff + i * 2, none⟩) hpgl).trans d0, (e0.cell (p := ⟨pg, poff + i * 2 + 1, none⟩) hpgl).trans d1, hlp i q hi hq⟩
          obtain ⟨pb, hpb⟩ : ∃ z, wr.heap.size = z := ⟨_, rfl⟩
          rw [hpb] at KP
          have HPB := Lib.hid hpb
          clear hx hy hsb hlp pcc rcc e0 r1 r2 hp hpb hbl hb1
          go_wp2_with fail
          rw [HPB.out]
          generalize wr.alloc (.cells #[.int .i64 a, .int .i64 b] 71) = W6 at *
          clear c0 c1 HPB
          have z0 := KP.cell 0 rfl
          have z1 := KP.cell 1 rfl
          have g2 := HSB.out
          have HKP := Lib.hid KP
          clear KP
          go_cut [64] from 34 to 64 (fun s wx => s = .bool false ∧ ∃ q, wx = W6.drewN q)
          case first =>
            have q1 : decide ((a : Int) < 0) = false := decide_eq_false (by omega)
            have q2 : decide ((b : Int) < 0) = false := decide_eq_false (by omega)
            have q3 : decide ((N : Int) ≤ (a : Int)) = false := decide_eq_false (by omega)
            have q4 : decide ((N : Int) ≤ (b : Int)) = false := decide_eq_false (by omega)
            have q5 : decide (N ≤ a) = false := decide_eq_false (by omega)
            have q6 : decide (N ≤ b) = false := decide_eq_false (by omega)
            by_cases hab : a < b
            ·
              have hba : ¬ b < a := by omega
              refine wp_region_quiet_lit (by kernel_rfl) (by kernel_rfl) ?_
              repeat (first | go_big_quiet_step (fail) | (go_big_quiet_want; go_simp; go_big_quiet_on))
              refine wpQuiet_nil ?_
              intro _ hw'
              obtain ⟨nq, hw''⟩ := hw'
              subst hw''
              go_wp2_with fail
              go_meet
              exact ⟨rfl, nq, rfl⟩
            ·
              by_cases hba : b < a
              ·
                refine wp_region_quiet_lit (by kernel_rfl) (by kernel_rfl) ?_
                repeat (first | go_big_quiet_step (fail) | (go_big_quiet_want; go_simp; go_big_quiet_on))
                refine wpQuiet_nil ?_
                intro _ hw'
                obtain ⟨nq, hw''⟩ := hw'
                subst hw''
                go_wp2_with fail
                go_meet
                exact ⟨rfl, nq, rfl⟩
              ·
                refine wp_region_quiet_lit (by kernel_rfl) (by kernel_rfl) ?_
                repeat (first | go_big_quiet_step (fail) | (go_big_quiet_want; go_simp; go_big_quiet_on))
                refine wpQuiet_nil ?_
                intro _ hw'
                obtain ⟨nq, hw''⟩ := hw'
                subst hw''
                go_wp2_with fail
                go_meet
                exact ⟨rfl, nq, rfl⟩
          case rest =>
            obtain ⟨rfl, q, rfl⟩ := hcut
            have HKP2 := Lib.hid (HKP.out.drewN q)
            have B62 := Lib.hid (below_drewN B6.out q)
            have B72 := Lib.hid (below_drewN B7.out q)
            have HPREV2 : Hid (∀ i, k = i + 1 → ∃ (a' b' : Int), (W6.drewN q).cell? ⟨pg, poff + i * 2, none⟩ = some (.int .i64 a') ∧ (W6.drewN q).cell? ⟨pg, poff + i * 2 + 1, none⟩ = some (.int .i64 b') ∧ (a' < a ∨ (a' = a ∧ b' < b))) := HPREV.out
            generalize W6.drewN q = W7 at *
            clear HPREV HKP B6 B7 r1' r2' z0 z1
            have z0 := HKP2.out.cell 0 rfl
            have z1 := HKP2.out.cell 1 rfl
            cases k with
            | zero =>
              go_wp2_with fail
              refine wp_region_quiet_lit (by kernel_rfl) (by kernel_rfl) ?_
              repeat (first | go_big_quiet_step (fail) | (go_big_quiet_want; go_simp; go_big_quiet_on))
              refine wpQuiet_nil ?_
              intro _ hw'
              obtain ⟨nq, hw''⟩ := hw'
              subst hw''
              go_wp2_with fail
              go_roundw
              case rel => exact ⟨1, hlt, by go_num, below_drewN B62.out _, below_drewN B72.out _⟩
              case measure => simp [intOf]; omega
            | succ i =>
              obtain ⟨a', b', d0, d1, hlp⟩ := HPREV2.out i rfl
              have hw := IntWalk.i64_in (((i + 1 : Nat) : Int) - 1) (by omega)
              have hw2 : IntKind.i64.wrap (((i + 1 : Nat) : Int) - 1) = (i : Int) := by rw [hw]; omega
              have g3 : decide ((0 : Int) < ((i + 1 : Nat) : Int)) = true := decide_eq_true (by omega)
              have g4 : decide ((a : Int) < a') = false := decide_eq_false (by omega)
              clear hw HPREV2
              cases h5 : (a' == (a : Int))
              ·
                clear hlp
                go_wp2_with fail
                refine wp_region_quiet_lit (by kernel_rfl) (by kernel_rfl) ?_
                repeat (first | go_big_quiet_step (fail) | (go_big_quiet_want; go_simp; go_big_quiet_on))
                refine wpQuiet_nil ?_
                intro _ hw'
                obtain ⟨nq, hw''⟩ := hw'
                subst hw''
                go_wp2_with fail
                go_roundw
                case rel => exact ⟨i + 1 + 1, hlt, by go_num, below_drewN B62.out _, below_drewN B72.out _⟩
                case measure => simp [intOf]; omega
              ·
                have g6 : decide ((b : Int) ≤ b') = false := decide_eq_false (by simp at h5; omega)
                clear hlp
                go_wp2_with fail
                refine wp_region_quiet_lit (by kernel_rfl) (by kernel_rfl) ?_
                repeat (first | go_big_quiet_step (fail) | (go_big_quiet_want; go_simp; go_big_quiet_on))
                refine wpQuiet_nil ?_
                intro _ hw'
                obtain ⟨nq, hw''⟩ := hw'
                subst hw''
                go_wp2_with fail
                go_roundw
                case rel => exact ⟨i + 1 + 1, hlt, by go_num, below_drewN B62.out _, below_drewN B72.out _⟩
                case measure => simp [intOf]; omega
        ·
          go_wp2_with fail
          go_ret
          exact ⟨rfl, belowT HB1.out hb1.out⟩
    ·
      have g1 : (Z != 0) = true := by simp [hz]
      have hm0 := HZ.out hz
      subst hm0
      clear hz HZ
      go_wp2_with fail
      go_ret
      exact ⟨rfl, belowT HB1.out B5.out⟩
end Go.Proofs.Ytplebibabcdipaa
