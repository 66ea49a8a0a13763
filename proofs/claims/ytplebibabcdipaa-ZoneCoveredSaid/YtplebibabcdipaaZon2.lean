/- zone.Check. -/
import Derived.Test.YtplebibabcdipaaZon1
namespace Go.Proofs.Ytplebibabcdipaa
open Go.RowKit

theorem brAt_range (n : Net) (nm : ByteArray) : brAt n nm = -1 ∨ ∃ (k : Nat) (x : NBr), brAt n nm = k ∧ n.brs[k]? = some x ∧ sameB x.name nm = true := by
  rcases idxP_range (fun b : NBr => sameB b.name nm) n.brs 0 with h | ⟨k, x, h1, h2, h3, _⟩
  · exact Or.inl h
  · exact Or.inr ⟨k, x, by unfold brAt; rw [h1]; omega, h2, h3⟩
def brOf (n : Net) (nm : ByteArray) : NBr := n.brs.getD (brAt n nm).toNat ⟨.empty, .empty, .empty, 0, 0, 0, 0, 0, 0⟩
theorem brOf_eq {n : Net} {nm : ByteArray} {k : Nat} {x : NBr} (h : brAt n nm = k) (hx : n.brs[k]? = some x) : brOf n nm = x := by
  unfold brOf; rw [h]; simp [hx]

def zBad (z : ZSt) : Bool := decide (z.reach < 1) || (decide (1000000 < z.reach) || (decide (z.delay < 0) || decide (100000 < z.delay)))
def zOrd (p z : ZSt) : Bool := decide (z.reach ≤ p.reach) || decide (z.delay < p.delay)
def zonesE : Option ZSt → List ZSt → Int
  | _, [] => 0
  | none, z :: zs => if zBad z = true then 4 else zonesE (some z) zs
  | some p, z :: zs => if zBad z = true then 4 else if zOrd p z = true then 3 else zonesE (some z) zs
def prevZ (l : List ZSt) : Nat → Option ZSt
  | 0 => none
  | k + 1 => l[k]?
theorem zonesE_drop0 {l : List ZSt} {z : ZSt} (h : l[0]? = some z) : zonesE none (l.drop 0) = if zBad z = true then 4 else zonesE (some z) (l.drop 1) := by
  cases l with
  | nil => simp at h
  | cons y ys => simp at h; subst h; rfl
theorem zonesE_drop {l : List ZSt} {k : Nat} {p z : ZSt} (h : l[k]? = some z) : zonesE (some p) (l.drop k) = if zBad z = true then 4 else if zOrd p z = true then 3 else zonesE (some z) (l.drop (k + 1)) := by
  obtain ⟨hk, hx⟩ := List.getElem?_eq_some_iff.1 h
  rw [List.drop_eq_getElem_cons hk, hx]
  rfl
def badEnd (node : ByteArray) (x : NBr) : Bool := !sameB node x.fr && !sameB node x.to
/-- What Check answers. -/
def relayE (n : Net) (r : ZRel) : Int :=
  if netE n ≠ 0 then netE n else if brAt n r.branch < 0 then 6 else
  if badEnd r.node (brOf n r.branch) = true ∨ r.zones.length < 1 ∨ 4 < r.zones.length then 3 else zonesE none r.zones

set_option maxHeartbeats 4000000 in
set_option maxRecDepth 100000 in
theorem zcheck_c (x0 : NAddr) (n : Net) (node branch : ByteArray) (za : Option Addr) (zc : Nat) (zs : List ZSt) (w : World) (hr : NetR w x0 n) (hwf : n.Wf) (hz : Reads w (.slice za zs.length zc) zs.length (flat ZSt.cells zs)) :
    Calls Try.prog 41 #[x0.val n, .agg #[.string node, .string branch, .slice za zs.length zc]] w fun e w' => e = .returned (.int .i64 (relayE n ⟨node, branch, zs⟩)) ∧ Below w.heap.size w w' := by
  have HN := Lib.hid (fun W (hb : Below w.heap.size w W) => net_c x0 n W (hr.below hb) hwf)
  have HB := Lib.hid (fun W (hb : Below w.heap.size w W) => zbr_c x0 n branch W (hr.below hb))
  have HE : Hid (relayE n ⟨node, branch, zs⟩ = if netE n ≠ 0 then netE n else if brAt n branch < 0 then 6 else
    if badEnd node (brOf n branch) = true ∨ zs.length < 1 ∨ 4 < zs.length then 3 else zonesE none zs) := rfl
  have hbr := brAt_range n branch
  have HOF : Hid (∀ (k : Nat) x, brAt n branch = k → n.brs[k]? = some x → brOf n branch = x) := fun k x h1 h2 => brOf_eq h1 h2
  have hR2 := Lib.hid hr.brs
  generalize relayE n ⟨node, branch, zs⟩ = E at *
  generalize netE n = Z at *
  generalize brOf n branch = X at *
  generalize brAt n branch = K at *
  clear hr hwf
  obtain ⟨na, nc, sa, sc, ba, bc, ga, gc, la, lc, ta, tc⟩ := x0
  obtain ⟨nl, sws, brs, gens, loads, stores⟩ := n
  simp only [NAddr.val] at HN HB hbr HOF hR2 ⊢
  generalize nl.length = nn at *
  generalize sws.length = sn at *
  obtain ⟨bn, hBn⟩ : ∃ n, brs.length = n := ⟨_, rfl⟩
  have HBN := Lib.hid hBn
  rw [hBn] at HN HB hR2
  rw [hBn]
  clear hBn
  generalize gens.length = gn at *
  generalize loads.length = ln at *
  generalize stores.length = tn at *
  obtain ⟨zn, hzn⟩ : ∃ n, zs.length = n := ⟨_, rfl⟩
  have HZN := Lib.hid hzn
  rw [hzn] at hz HE ⊢
  clear hzn
  have HZ := Lib.hid hz
  have hzl : zn ≤ 9223372036854775807 := by
    rcases hz with ⟨h, _⟩ | ⟨_, _, _, _, _, h, _⟩
    · omega
    · exact h
  clear hz
  have B1 := belowA (Below.refl w.heap.size w) (.cells #[.slice na nn nc, .slice sa sn sc, .slice ba bn bc, .slice ga gn gc, .slice la ln lc, .slice ta tn tc] 29)
  have K1 := Blk.new w #[.slice na nn nc, .slice sa sn sc, .slice ba bn bc, .slice ga gn gc, .slice la ln lc, .slice ta tn tc] 29
  generalize hW1 : w.alloc (.cells #[.slice na nn nc, .slice sa sn sc, .slice ba bn bc, .slice ga gn gc, .slice la ln lc, .slice ta tn tc] 29) = W1 at *
  have B2 := Lib.hid (belowA B1 (.cells #[.string node, .string branch, .slice za zn zc] 44))
  have K2 := K1.alloc (.cells #[.string node, .string branch, .slice za zn zc] 44)
  have K3 := Blk.new W1 #[.string node, .string branch, .slice za zn zc] 44
  generalize hW2 : W1.alloc (.cells #[.string node, .string branch, .slice za zn zc] 44) = W2 at *
  have x0 := K2.cell 0 rfl
  have x1 := K2.cell 1 rfl
  have x2 := K2.cell 2 rfl
  have x3 := K2.cell 3 rfl
  have x4 := K2.cell 4 rfl
  have x5 := K2.cell 5 rfl
  have H1 := Lib.hid (HN.out W2 B2.out)
  clear B1 K1 HN
  go_enter Try.func41, Try.ntmps41
  go_wp2_with fail
  refine H1.out.mono ?_; rintro e w3 ⟨rfl, hb3⟩
  have B3 := Lib.hid (belowT B2.out hb3)
  have K2' := below_blk hb3 K2 K2.lt
  have K3' := below_blk hb3 K3 K3.lt
  clear x0 x1 x2 x3 x4 x5 hb3 K2 K3 H1
  have x0 := K2'.cell 0 rfl
  have x1 := K2'.cell 1 rfl
  have x2 := K2'.cell 2 rfl
  have x3 := K2'.cell 3 rfl
  have x4 := K2'.cell 4 rfl
  have x5 := K2'.cell 5 rfl
  have y1 := K3'.cell 1 rfl
  by_cases hz : Z = 0
  · have g1 : (Z != 0) = false := by simp [hz]
    have HE2 := Lib.hid (HE.out.trans (if_neg (fun h => h hz)))
    have H2 := Lib.hid (HB.out w3 B3.out)
    clear hz HE HB
    go_wp2_with fail
    refine H2.out.mono ?_; rintro e w4 ⟨rfl, hb4⟩
    have HB4 := Lib.hid (belowT B3.out hb4)
    have K2 := below_blk hb4 K2' K2'.lt
    have K3 := below_blk hb4 K3' K3'.lt
    clear x0 x1 x2 x3 x4 x5 y1 hb4 K2' K3' H2
    have x2 := K2.cell 2 rfl
    have y0 := K3.cell 0 rfl
    have y2 := K3.cell 2 rfl
    rcases hbr with hk | ⟨k, x, hk, hx, _⟩
    · have g2 : decide (K < 0) = true := decide_eq_true (by omega)
      have HR := Lib.hid (HE2.out.trans (if_pos (by omega)))
      clear hk HE2
      go_wp2_with fail
      go_ret
      exact ⟨by rw [HR.out]; rfl, HB4.out⟩
    · have HX := HOF.out k x hk hx
      subst hk
      rw [HX] at HE2
      have g2 : decide ((k : Int) < 0) = false := decide_eq_false (by omega)
      have HE3 := Lib.hid (HE2.out.trans (if_neg (by omega)))
      have hlt : k < bn := by rw [← HBN.out]; exact (List.getElem?_eq_some_iff.1 hx).1
      obtain ⟨g, off, cap', hvv, _, _, hgl, hc⟩ := (hR2.out.below HB4.out).addr (by omega)
      simp only [Value.slice.injEq] at hvv
      obtain ⟨rfl, _, rfl⟩ := hvv
      obtain ⟨_, c1, c2, _⟩ := br_cells hc hx
      obtain ⟨b0, fr, to, b3, b4, b5, b6, b7, b8⟩ := x
      simp only at c1 c2
      clear HE2 HX HOF hx hc
      go_wp2_with fail
      have HBE : Hid (badEnd node ⟨b0, fr, to, b3, b4, b5, b6, b7, b8⟩ = (!(node.toList == fr.toList) && !(node.toList == to.toList))) := rfl
      generalize badEnd node ⟨b0, fr, to, b3, b4, b5, b6, b7, b8⟩ = BE at *
      cases hq1 : (node.toList == fr.toList)
      ·
        cases hq2 : (node.toList == to.toList)
        ·
          have hn1 : (node.toList != fr.toList) = true := by simp [bne, hq1]
          have hn2 : (node.toList != to.toList) = true := by simp [bne, hq2]
          rw [hq1, hq2] at HBE
          have HR := Lib.hid (HE3.out.trans (if_pos (Or.inl (by rw [HBE.out]; rfl))))
          refine wp_region_quiet_lit (by kernel_rfl) (by kernel_rfl) ?_
          repeat (first | go_big_quiet_step (fail) | (go_big_quiet_want; go_simp; go_big_quiet_on))
          refine wpQuiet_nil ?_
          intro _ hw'
          obtain ⟨nq, hw''⟩ := hw'
          subst hw''
          go_wp2_with fail
          go_ret
          exact ⟨by rw [HR.out]; rfl, below_drewN HB4.out _⟩
        ·
          have hn1 : (node.toList != fr.toList) = true := by simp [bne, hq1]
          have hn2 : (node.toList != to.toList) = false := by simp [bne, hq2]
          rw [hq1, hq2] at HBE
          by_cases l1 : zn < 1
          ·
            have g3 : decide ((zn : Int) < 1) = true := decide_eq_true (by omega)
            have HR := Lib.hid (HE3.out.trans (if_pos (Or.inr (Or.inl l1))))
            clear l1 HE3
            refine wp_region_quiet_lit (by kernel_rfl) (by kernel_rfl) ?_
            repeat (first | go_big_quiet_step (fail) | (go_big_quiet_want; go_simp; go_big_quiet_on))
            refine wpQuiet_nil ?_
            intro _ hw'
            obtain ⟨nq, hw''⟩ := hw'
            subst hw''
            go_wp2_with fail
            go_ret
            exact ⟨by rw [HR.out]; rfl, below_drewN HB4.out _⟩
          ·
            have g3 : decide ((zn : Int) < 1) = false := decide_eq_false (by omega)
            by_cases l2 : 4 < zn
            ·
              have g4 : decide ((4 : Int) < zn) = true := decide_eq_true (by omega)
              have HR := Lib.hid (HE3.out.trans (if_pos (Or.inr (Or.inr l2))))
              clear l1 l2 HE3
              refine wp_region_quiet_lit (by kernel_rfl) (by kernel_rfl) ?_
              repeat (first | go_big_quiet_step (fail) | (go_big_quiet_want; go_simp; go_big_quiet_on))
              refine wpQuiet_nil ?_
              intro _ hw'
              obtain ⟨nq, hw''⟩ := hw'
              subst hw''
              go_wp2_with fail
              go_ret
              exact ⟨by rw [HR.out]; rfl, below_drewN HB4.out _⟩
            ·
              have g4 : decide ((4 : Int) < zn) = false := decide_eq_false (by omega)
              have HE4 := Lib.hid (HE3.out.trans (if_neg (fun h => h.elim (fun h => by rw [HBE.out] at h; simp at h) (fun h => h.elim l1 l2))))
              clear HE3 HBE
              refine wp_region_quiet_lit (by kernel_rfl) (by kernel_rfl) ?_
              repeat (first | go_big_quiet_step (fail) | (go_big_quiet_want; go_simp; go_big_quiet_on))
              refine wpQuiet_nil ?_
              intro _ hw'
              obtain ⟨nq, hw''⟩ := hw'
              subst hw''
              go_wp2_with fail
              go_loopw [57] (fun i wr => ∃ k : Nat, k ≤ zn ∧ i = .int .i64 k ∧ Hid (zonesE (prevZ zs k) (zs.drop k) = E) ∧ Hid (Below w4.heap.size w4 wr)) (fun i _ => zn - (intOf i).toNat)
              case atStart => exact ⟨0, Nat.zero_le _, rfl, HE4.out.symm, below_drewN (Below.refl _ _) _⟩
              case round =>
                clear x2 y0 y2
                obtain ⟨j, hj, rfl, he, hbl⟩ := hrel
                have HB5 := Lib.hid (belowT HB4.out hbl.out)
                by_cases hjl : j < zn
                ·
                  obtain ⟨zg, zoff, zcap', zvv, _, _, hzgl, hzc⟩ := (HZ.out.below HB5.out).addr (by omega)
                  simp only [Value.slice.injEq] at zvv
                  obtain ⟨rfl, _, rfl⟩ := zvv
                  obtain ⟨z, hzj⟩ : ∃ x, zs[j]? = some x := ⟨_, List.getElem?_eq_getElem (by rw [HZN.out]; exact hjl)⟩
                  obtain ⟨d0, d1⟩ := zst_cells hzc hzj
                  have y2 := (below_blk hbl.out K3 K3.lt).cell 2 rfl
                  have ly : W1.heap.size < wr.heap.size := Nat.lt_of_lt_of_le K3.lt hbl.out.size
                  have hpn : Hid (prevZ zs (j + 1) = some z) := hzj
                  cases j with
                  | zero =>
                    have hd := he.out.symm.trans (zonesE_drop0 hzj)
                    have HD := Lib.hid hd
                    obtain ⟨re, de⟩ := z
                    simp only [Nat.zero_mul, Nat.add_zero] at d0 d1
                    clear hd he hzj hzc
                    cases hbz : zBad ⟨re, de⟩
                    ·
                      have HP : Hid (zonesE (prevZ zs (0 + 1)) (zs.drop (0 + 1)) = E) := by show _ = _; rw [HD.out, hbz, hpn.out]; rfl
                      unfold zBad at hbz
                      simp only [Bool.or_eq_false_iff] at hbz
                      obtain ⟨q1, q2, q3, q4⟩ := hbz
                      go_wp2_with fail
                      refine wp_region_quiet_lit (by kernel_rfl) (by kernel_rfl) ?_
                      repeat (first | go_big_quiet_step (fail) | (go_big_quiet_want; go_simp; go_big_quiet_on))
                      refine wpQuiet_nil ?_
                      intro _ hw'
                      obtain ⟨nq, hw''⟩ := hw'
                      subst hw''
                      go_wp2_with fail
                      go_roundw
                      case rel => exact ⟨0 + 1, hjl, by go_num, HP, below_drewN (belowA hbl.out _) _⟩
                      case measure => simp [intOf]; omega
                    ·
                      have HR : Hid (E = 4) := by show _ = _; rw [HD.out, hbz]; rfl
                      unfold zBad at hbz
                      have HQ := Lib.hid hbz
                      clear hbz
                      have HB6 := Lib.hid (belowA HB5.out (.cells #[.int .i64 re, .int .i64 de] 39))
                      go_wp2_with fail
                      all_goals first
                        | (exfalso; have hq := HQ.out; simp at * <;> omega)
                        | (go_ret; exact ⟨by rw [HR.out]; rfl, HB6.out⟩)
                  | succ j' =>
                    obtain ⟨p, hpj⟩ : ∃ x, zs[j']? = some x := ⟨_, List.getElem?_eq_getElem (by rw [HZN.out]; omega)⟩
                    obtain ⟨e0, e1⟩ := zst_cells hzc hpj
                    have hprev : prevZ zs (j' + 1) = some p := hpj
                    have hd := he.out.symm
                    rw [hprev] at hd
                    have HD := Lib.hid (hd.trans (zonesE_drop hzj))
                    obtain ⟨re, de⟩ := z
                    obtain ⟨pe, pd⟩ := p
                    simp only at d0 d1 e0 e1
                    clear hd he hzj hzc hpj hprev
                    cases hbz : zBad ⟨re, de⟩
                    ·
                      unfold zBad at hbz
                      simp only [Bool.or_eq_false_iff] at hbz
                      obtain ⟨q1, q2, q3, q4⟩ := hbz
                      have g5 : decide ((0 : Int) < ((j' + 1 : Nat) : Int)) = true := decide_eq_true (by omega)
                      have hw : IntKind.i64.wrap (((j' + 1 : Nat) : Int) - 1) = (j' : Int) := by rw [IntWalk.i64_in _ (by omega)]; omega
                      have hjl' : j' < zn := by omega
                      have HD2 : Hid (E = if zOrd ⟨pe, pd⟩ ⟨re, de⟩ = true then 3 else zonesE (some ⟨re, de⟩) (zs.drop (j' + 1 + 1))) := HD.out.trans (if_neg (by unfold zBad; rw [q1, q2, q3, q4]; decide))
                      have HB6 := Lib.hid (belowA HB5.out (.cells #[.int .i64 re, .int .i64 de] 39))
                      clear HD
                      cases hq5 : decide (re ≤ pe)
                      ·
                        cases hq6 : decide (de < pd)
                        ·
                          have HP : Hid (zonesE (prevZ zs (j' + 1 + 1)) (zs.drop (j' + 1 + 1)) = E) := by show _ = _; rw [HD2.out, hpn.out, if_neg (by unfold zOrd; rw [hq5, hq6]; decide)]
                          go_wp2_with fail
                          refine wp_region_quiet_lit (by kernel_rfl) (by kernel_rfl) ?_
                          repeat (first | go_big_quiet_step (fail) | (go_big_quiet_want; go_simp; go_big_quiet_on))
                          refine wpQuiet_nil ?_
                          intro _ hw'
                          obtain ⟨nq, hw''⟩ := hw'
                          subst hw''
                          go_wp2_with fail
                          go_roundw
                          case rel => exact ⟨j' + 1 + 1, hjl, by go_num, HP, below_drewN (belowA hbl.out _) _⟩
                          case measure => simp [intOf]; omega
                        ·
                          have HR : Hid (E = 3) := HD2.out.trans (if_pos (by unfold zOrd; rw [hq5, hq6]; decide))
                          go_wp2_with fail
                          refine wp_region_quiet_lit (by kernel_rfl) (by kernel_rfl) ?_
                          repeat (first | go_big_quiet_step (fail) | (go_big_quiet_want; go_simp; go_big_quiet_on))
                          refine wpQuiet_nil ?_
                          intro _ hw'
                          obtain ⟨nq, hw''⟩ := hw'
                          subst hw''
                          go_wp2_with fail
                          go_ret
                          exact ⟨by rw [HR.out]; rfl, below_drewN HB6.out _⟩
                      ·
                        have HR : Hid (E = 3) := HD2.out.trans (if_pos (by unfold zOrd; rw [hq5]; rfl))
                        go_wp2_with fail
                        refine wp_region_quiet_lit (by kernel_rfl) (by kernel_rfl) ?_
                        repeat (first | go_big_quiet_step (fail) | (go_big_quiet_want; go_simp; go_big_quiet_on))
                        refine wpQuiet_nil ?_
                        intro _ hw'
                        obtain ⟨nq, hw''⟩ := hw'
                        subst hw''
                        go_wp2_with fail
                        go_ret
                        exact ⟨by rw [HR.out]; rfl, below_drewN HB6.out _⟩
                    ·
                      have HR : Hid (E = 4) := by show _ = _; rw [HD.out, hbz]; rfl
                      unfold zBad at hbz
                      have HQ := Lib.hid hbz
                      clear hbz
                      have HB6 := Lib.hid (belowA HB5.out (.cells #[.int .i64 re, .int .i64 de] 39))
                      go_wp2_with fail
                      all_goals first
                        | (exfalso; have hq := HQ.out; simp at * <;> omega)
                        | (go_ret; exact ⟨by rw [HR.out]; rfl, HB6.out⟩)
                ·
                  have hkn : zs.drop j = [] := List.drop_eq_nil_of_le (by rw [HZN.out]; omega)
                  have HR : Hid (E = 0) := by show _ = _; rw [← he.out, hkn]; cases prevZ zs j <;> rfl
                  clear he hkn
                  go_wp2_with fail
                  go_ret
                  exact ⟨by rw [HR.out]; rfl, HB5.out⟩
      ·
        have hn1 : (node.toList != fr.toList) = false := by simp [bne, hq1]
        rw [hq1] at HBE
        by_cases l1 : zn < 1
        ·
          have g3 : decide ((zn : Int) < 1) = true := decide_eq_true (by omega)
          have HR := Lib.hid (HE3.out.trans (if_pos (Or.inr (Or.inl l1))))
          clear l1 HE3
          refine wp_region_quiet_lit (by kernel_rfl) (by kernel_rfl) ?_
          repeat (first | go_big_quiet_step (fail) | (go_big_quiet_want; go_simp; go_big_quiet_on))
          refine wpQuiet_nil ?_
          intro _ hw'
          obtain ⟨nq, hw''⟩ := hw'
          subst hw''
          go_wp2_with fail
          go_ret
          exact ⟨by rw [HR.out]; rfl, below_drewN HB4.out _⟩
        ·
          have g3 : decide ((zn : Int) < 1) = false := decide_eq_false (by omega)
          by_cases l2 : 4 < zn
          ·
            have g4 : decide ((4 : Int) < zn) = true := decide_eq_true (by omega)
            have HR := Lib.hid (HE3.out.trans (if_pos (Or.inr (Or.inr l2))))
            clear l1 l2 HE3
            refine wp_region_quiet_lit (by kernel_rfl) (by kernel_rfl) ?_
            repeat (first | go_big_quiet_step (fail) | (go_big_quiet_want; go_simp; go_big_quiet_on))
            refine wpQuiet_nil ?_
            intro _ hw'
            obtain ⟨nq, hw''⟩ := hw'
            subst hw''
            go_wp2_with fail
            go_ret
            exact ⟨by rw [HR.out]; rfl, below_drewN HB4.out _⟩
          ·
            have g4 : decide ((4 : Int) < zn) = false := decide_eq_false (by omega)
            have HE4 := Lib.hid (HE3.out.trans (if_neg (fun h => h.elim (fun h => by rw [HBE.out] at h; simp at h) (fun h => h.elim l1 l2))))
            clear HE3 HBE
            refine wp_region_quiet_lit (by kernel_rfl) (by kernel_rfl) ?_
            repeat (first | go_big_quiet_step (fail) | (go_big_quiet_want; go_simp; go_big_quiet_on))
            refine wpQuiet_nil ?_
            intro _ hw'
            obtain ⟨nq, hw''⟩ := hw'
            subst hw''
            go_wp2_with fail
            go_loopw [57] (fun i wr => ∃ k : Nat, k ≤ zn ∧ i = .int .i64 k ∧ Hid (zonesE (prevZ zs k) (zs.drop k) = E) ∧ Hid (Below w4.heap.size w4 wr)) (fun i _ => zn - (intOf i).toNat)
            case atStart => exact ⟨0, Nat.zero_le _, rfl, HE4.out.symm, below_drewN (Below.refl _ _) _⟩
            case round =>
              clear x2 y0 y2
              obtain ⟨j, hj, rfl, he, hbl⟩ := hrel
              have HB5 := Lib.hid (belowT HB4.out hbl.out)
              by_cases hjl : j < zn
              ·
                obtain ⟨zg, zoff, zcap', zvv, _, _, hzgl, hzc⟩ := (HZ.out.below HB5.out).addr (by omega)
                simp only [Value.slice.injEq] at zvv
                obtain ⟨rfl, _, rfl⟩ := zvv
                obtain ⟨z, hzj⟩ : ∃ x, zs[j]? = some x := ⟨_, List.getElem?_eq_getElem (by rw [HZN.out]; exact hjl)⟩
                obtain ⟨d0, d1⟩ := zst_cells hzc hzj
                have y2 := (below_blk hbl.out K3 K3.lt).cell 2 rfl
                have ly : W1.heap.size < wr.heap.size := Nat.lt_of_lt_of_le K3.lt hbl.out.size
                have hpn : Hid (prevZ zs (j + 1) = some z) := hzj
                cases j with
                | zero =>
                  have hd := he.out.symm.trans (zonesE_drop0 hzj)
                  have HD := Lib.hid hd
                  obtain ⟨re, de⟩ := z
                  simp only [Nat.zero_mul, Nat.add_zero] at d0 d1
                  clear hd he hzj hzc
                  cases hbz : zBad ⟨re, de⟩
                  ·
                    have HP : Hid (zonesE (prevZ zs (0 + 1)) (zs.drop (0 + 1)) = E) := by show _ = _; rw [HD.out, hbz, hpn.out]; rfl
                    unfold zBad at hbz
                    simp only [Bool.or_eq_false_iff] at hbz
                    obtain ⟨q1, q2, q3, q4⟩ := hbz
                    go_wp2_with fail
                    refine wp_region_quiet_lit (by kernel_rfl) (by kernel_rfl) ?_
                    repeat (first | go_big_quiet_step (fail) | (go_big_quiet_want; go_simp; go_big_quiet_on))
                    refine wpQuiet_nil ?_
                    intro _ hw'
                    obtain ⟨nq, hw''⟩ := hw'
                    subst hw''
                    go_wp2_with fail
                    go_roundw
                    case rel => exact ⟨0 + 1, hjl, by go_num, HP, below_drewN (belowA hbl.out _) _⟩
                    case measure => simp [intOf]; omega
                  ·
                    have HR : Hid (E = 4) := by show _ = _; rw [HD.out, hbz]; rfl
                    unfold zBad at hbz
                    have HQ := Lib.hid hbz
                    clear hbz
                    have HB6 := Lib.hid (belowA HB5.out (.cells #[.int .i64 re, .int .i64 de] 39))
                    go_wp2_with fail
                    all_goals first
                      | (exfalso; have hq := HQ.out; simp at * <;> omega)
                      | (go_ret; exact ⟨by rw [HR.out]; rfl, HB6.out⟩)
                | succ j' =>
                  obtain ⟨p, hpj⟩ : ∃ x, zs[j']? = some x := ⟨_, List.getElem?_eq_getElem (by rw [HZN.out]; omega)⟩
                  obtain ⟨e0, e1⟩ := zst_cells hzc hpj
                  have hprev : prevZ zs (j' + 1) = some p := hpj
                  have hd := he.out.symm
                  rw [hprev] at hd
                  have HD := Lib.hid (hd.trans (zonesE_drop hzj))
                  obtain ⟨re, de⟩ := z
                  obtain ⟨pe, pd⟩ := p
                  simp only at d0 d1 e0 e1
                  clear hd he hzj hzc hpj hprev
                  cases hbz : zBad ⟨re, de⟩
                  ·
                    unfold zBad at hbz
                    simp only [Bool.or_eq_false_iff] at hbz
                    obtain ⟨q1, q2, q3, q4⟩ := hbz
                    have g5 : decide ((0 : Int) < ((j' + 1 : Nat) : Int)) = true := decide_eq_true (by omega)
                    have hw : IntKind.i64.wrap (((j' + 1 : Nat) : Int) - 1) = (j' : Int) := by rw [IntWalk.i64_in _ (by omega)]; omega
                    have hjl' : j' < zn := by omega
                    have HD2 : Hid (E = if zOrd ⟨pe, pd⟩ ⟨re, de⟩ = true then 3 else zonesE (some ⟨re, de⟩) (zs.drop (j' + 1 + 1))) := HD.out.trans (if_neg (by unfold zBad; rw [q1, q2, q3, q4]; decide))
                    have HB6 := Lib.hid (belowA HB5.out (.cells #[.int .i64 re, .int .i64 de] 39))
                    clear HD
                    cases hq5 : decide (re ≤ pe)
                    ·
                      cases hq6 : decide (de < pd)
                      ·
                        have HP : Hid (zonesE (prevZ zs (j' + 1 + 1)) (zs.drop (j' + 1 + 1)) = E) := by show _ = _; rw [HD2.out, hpn.out, if_neg (by unfold zOrd; rw [hq5, hq6]; decide)]
                        go_wp2_with fail
                        refine wp_region_quiet_lit (by kernel_rfl) (by kernel_rfl) ?_
                        repeat (first | go_big_quiet_step (fail) | (go_big_quiet_want; go_simp; go_big_quiet_on))
                        refine wpQuiet_nil ?_
                        intro _ hw'
                        obtain ⟨nq, hw''⟩ := hw'
                        subst hw''
                        go_wp2_with fail
                        go_roundw
                        case rel => exact ⟨j' + 1 + 1, hjl, by go_num, HP, below_drewN (belowA hbl.out _) _⟩
                        case measure => simp [intOf]; omega
                      ·
                        have HR : Hid (E = 3) := HD2.out.trans (if_pos (by unfold zOrd; rw [hq5, hq6]; decide))
                        go_wp2_with fail
                        refine wp_region_quiet_lit (by kernel_rfl) (by kernel_rfl) ?_
                        repeat (first | go_big_quiet_step (fail) | (go_big_quiet_want; go_simp; go_big_quiet_on))
                        refine wpQuiet_nil ?_
                        intro _ hw'
                        obtain ⟨nq, hw''⟩ := hw'
                        subst hw''
                        go_wp2_with fail
                        go_ret
                        exact ⟨by rw [HR.out]; rfl, below_drewN HB6.out _⟩
                    ·
                      have HR : Hid (E = 3) := HD2.out.trans (if_pos (by unfold zOrd; rw [hq5]; rfl))
                      go_wp2_with fail
                      refine wp_region_quiet_lit (by kernel_rfl) (by kernel_rfl) ?_
                      repeat (first | go_big_quiet_step (fail) | (go_big_quiet_want; go_simp; go_big_quiet_on))
                      refine wpQuiet_nil ?_
                      intro _ hw'
                      obtain ⟨nq, hw''⟩ := hw'
                      subst hw''
                      go_wp2_with fail
                      go_ret
                      exact ⟨by rw [HR.out]; rfl, below_drewN HB6.out _⟩
                  ·
                    have HR : Hid (E = 4) := by show _ = _; rw [HD.out, hbz]; rfl
                    unfold zBad at hbz
                    have HQ := Lib.hid hbz
                    clear hbz
                    have HB6 := Lib.hid (belowA HB5.out (.cells #[.int .i64 re, .int .i64 de] 39))
                    go_wp2_with fail
                    all_goals first
                      | (exfalso; have hq := HQ.out; simp at * <;> omega)
                      | (go_ret; exact ⟨by rw [HR.out]; rfl, HB6.out⟩)
              ·
                have hkn : zs.drop j = [] := List.drop_eq_nil_of_le (by rw [HZN.out]; omega)
                have HR : Hid (E = 0) := by show _ = _; rw [← he.out, hkn]; cases prevZ zs j <;> rfl
                clear he hkn
                go_wp2_with fail
                go_ret
                exact ⟨by rw [HR.out]; rfl, HB5.out⟩
  · have g1 : (Z != 0) = true := by simp [hz]
    have HR := Lib.hid (HE.out.trans (if_pos hz))
    have HB4 := B3
    clear hz HE
    go_wp2_with fail
    go_ret
    exact ⟨by rw [HR.out]; rfl, HB4.out⟩
end Go.Proofs.Ytplebibabcdipaa
