/- zone.branch, zone.CheckPlace. zone.Check. slices.Index, Contains at []int; zone.edges. zone.edges. -/
import Derived.Test.YtplebibabcdipaaIdx
import Derived.Test.YtplebibabcdipaaNetK
import Derived.StillTailTactics
import Derived.Deep.AppendLies
import Derived.Deep.RegionLaw
import Derived.Deep.RegionHeldLaw
namespace Go.Proofs.Ytplebibabcdipaa
open Go.RowKit

/-- A relay, a place. -/
structure ZRel where
  node : ByteArray
  branch : ByteArray
  zones : List ZSt
structure Plc where
  branch : ByteArray
  part : Int
/-- The index of a branch, or -1. -/
def brAt (n : Net) (nm : ByteArray) : Int := idxP (fun b : NBr => sameB b.name nm) n.brs 0

set_option maxHeartbeats 1000000 in
theorem zb1_c (x : NBr) (nm : ByteArray) (nb : Nat) (w : World) (c0 : w.cell? ⟨nb, 0, none⟩ = some (.string nm)) (hnb : nb < w.heap.size) :
    Calls Try.prog 84 #[.agg x.cells.toArray, .pointer (some ⟨nb, 0, none⟩)] w fun e w' => e = .returned (.bool (sameB x.name nm)) ∧ Below w.heap.size w w' := by
  obtain ⟨n0, fr, to, x3, x4, x5, x6, x7, x8⟩ := x
  show Calls _ _ #[.agg #[.string n0, .string fr, .string to, .int .i64 x3, .int .i64 x4, .int .i64 x5, .int .i64 x6, .int .i64 x7, .int .i64 x8], _] _ _
  have HE : Hid (sameB n0 nm = (n0.toList == nm.toList)) := rfl
  have B : Hid (Below w.heap.size w (w.alloc (.cells #[.string n0, .string fr, .string to, .int .i64 x3, .int .i64 x4, .int .i64 x5, .int .i64 x6, .int .i64 x7, .int .i64 x8] 36))) := belowA (Below.refl _ _) _
  simp only
  generalize sameB n0 nm = E at *
  go_enter Try.func84, Try.ntmps84
  go_wp2_with fail
  go_ret
  exact ⟨by rw [HE.out]; rfl, B.out⟩

set_option maxHeartbeats 1000000 in
theorem zbr_c (x0 : NAddr) (n : Net) (nm : ByteArray) (w : World) (hr : NetR w x0 n) :
    Calls Try.prog 36 #[x0.val n, .string nm] w fun e w' => e = .returned (.int .i64 (brAt n nm)) ∧ Below w.heap.size w w' := by
  obtain ⟨na, nc, sa, sc, ba, bc, ga, gc, la, lc, ta, tc⟩ := x0
  obtain ⟨nl, sws, brs, gens, loads, stores⟩ := n
  have r2 := hr.brs
  have HE : Hid (brAt ⟨nl, sws, brs, gens, loads, stores⟩ nm = idxP (fun b : NBr => sameB b.name nm) brs 0) := rfl
  generalize brAt ⟨nl, sws, brs, gens, loads, stores⟩ nm = E at *
  simp only at r2
  show Calls _ _ #[netV na nl.length nc sa sws.length sc ba brs.length bc ga gens.length gc la loads.length lc ta stores.length tc, _] _ _
  generalize nl.length = nn at *
  generalize sws.length = sn at *
  obtain ⟨bn, hB⟩ : ∃ n, brs.length = n := ⟨_, rfl⟩
  generalize gens.length = gn at *
  generalize loads.length = ln at *
  generalize stores.length = tn at *
  have HC : Hid (∀ W g caps P, Below w.heap.size w W → (∀ (args : Array Value) (w : World), (callFunc g args).run Try.prog w = .ok (.enter g args) w) → TellsE W g caps (fun a : NBr => .agg a.cells.toArray) brs P →
      Calls Try.prog 54 #[.slice ba bn bc, .func (.func g) #[] caps] W fun e w' => e = .returned (.int .i64 (idxP P brs 0)) ∧ Below W.heap.size W w') := by
    intro W g caps P hb eg hf
    rw [← hB]
    exact indexBr_c (.slice ba brs.length bc) brs P g caps W (r2.below hb) eg hf
  rw [hB]
  clear hr r2 hB
  have B1 := belowA (Below.refl w.heap.size w) (.cells #[.slice na nn nc, .slice sa sn sc, .slice ba bn bc, .slice ga gn gc, .slice la ln lc, .slice ta tn tc] 29)
  have K1 := Blk.new w #[.slice na nn nc, .slice sa sn sc, .slice ba bn bc, .slice ga gn gc, .slice la ln lc, .slice ta tn tc] 29
  generalize hW1 : w.alloc (.cells #[.slice na nn nc, .slice sa sn sc, .slice ba bn bc, .slice ga gn gc, .slice la ln lc, .slice ta tn tc] 29) = W1 at *
  have B2 := Lib.hid (belowA B1 (.cells #[.string nm] 9))
  have K2 := K1.alloc (.cells #[.string nm] 9)
  have K3 := Blk.new W1 #[.string nm] 9
  generalize hW2 : W1.alloc (.cells #[.string nm] 9) = W2 at *
  have x2 := K2.cell 2 rfl
  have y0 := K3.cell 0 rfl
  have ly := K3.lt
  have HC2 := Lib.hid (HC.out W2 84 #[.pointer (some ⟨W1.heap.size, 0, none⟩)] (fun b => sameB b.name nm) B2.out (fun a w' => enters_of Try.func84 (by kernel_rfl) rfl a w')
    (fun a W _ hW => (zb1_c a nm W1.heap.size W (by rw [hW.cell (p := ⟨W1.heap.size, 0, none⟩) ly]; exact y0) (Nat.lt_of_lt_of_le ly hW.size)).mono fun e w' ⟨he, hw⟩ => ⟨he, hW.trans (hw.mono hW.size)⟩))
  clear HC K1 K2 K3 B1
  go_enter Try.func36, Try.ntmps36
  go_wp2_with fail
  refine HC2.out.mono ?_; rintro e w3 ⟨rfl, hb3⟩
  have B3 := Lib.hid hb3
  clear hb3
  go_wp2_with fail
  go_ret
  exact ⟨by rw [HE.out]; rfl, belowT B2.out B3.out⟩

/-- What CheckPlace answers. -/
def placeE (n : Net) (p : Plc) : Int := if netE n ≠ 0 then netE n else if brAt n p.branch < 0 then 6 else if p.part < 0 ∨ 1000 < p.part then 4 else 0
set_option maxHeartbeats 1000000 in
theorem place_c (x0 : NAddr) (n : Net) (nm : ByteArray) (pt : Int) (w : World) (hr : NetR w x0 n) (hwf : n.Wf) :
    Calls Try.prog 14 #[x0.val n, .agg #[.string nm, .int .i64 pt]] w fun e w' => e = .returned (.int .i64 (placeE n ⟨nm, pt⟩)) ∧ Below w.heap.size w w' := by
  have HN := Lib.hid (fun W (hb : Below w.heap.size w W) => net_c x0 n W (hr.below hb) hwf)
  have HB := Lib.hid (fun W (hb : Below w.heap.size w W) => zbr_c x0 n nm W (hr.below hb))
  have HE : Hid (placeE n ⟨nm, pt⟩ = if netE n ≠ 0 then netE n else if brAt n nm < 0 then 6 else if pt < 0 ∨ 1000 < pt then 4 else 0) := rfl
  generalize placeE n ⟨nm, pt⟩ = E at *
  generalize netE n = Z at *
  generalize brAt n nm = K at *
  clear hr hwf
  obtain ⟨na, nc, sa, sc, ba, bc, ga, gc, la, lc, ta, tc⟩ := x0
  obtain ⟨nl, sws, brs, gens, loads, stores⟩ := n
  simp only [NAddr.val] at HN HB ⊢
  generalize nl.length = nn at *
  generalize sws.length = sn at *
  generalize brs.length = bn at *
  generalize gens.length = gn at *
  generalize loads.length = ln at *
  generalize stores.length = tn at *
  have B1 := belowA (Below.refl w.heap.size w) (.cells #[.slice na nn nc, .slice sa sn sc, .slice ba bn bc, .slice ga gn gc, .slice la ln lc, .slice ta tn tc] 29)
  have K1 := Blk.new w #[.slice na nn nc, .slice sa sn sc, .slice ba bn bc, .slice ga gn gc, .slice la ln lc, .slice ta tn tc] 29
  generalize hW1 : w.alloc (.cells #[.slice na nn nc, .slice sa sn sc, .slice ba bn bc, .slice ga gn gc, .slice la ln lc, .slice ta tn tc] 29) = W1 at *
  have B2 := Lib.hid (belowA B1 (.cells #[.string nm, .int .i64 pt] 31))
  have K2 := K1.alloc (.cells #[.string nm, .int .i64 pt] 31)
  have K3 := Blk.new W1 #[.string nm, .int .i64 pt] 31
  generalize hW2 : W1.alloc (.cells #[.string nm, .int .i64 pt] 31) = W2 at *
  have x0 := K2.cell 0 rfl
  have x1 := K2.cell 1 rfl
  have x2 := K2.cell 2 rfl
  have x3 := K2.cell 3 rfl
  have x4 := K2.cell 4 rfl
  have x5 := K2.cell 5 rfl
  have H1 := Lib.hid (HN.out W2 B2.out)
  clear B1 K1 HN
  go_enter Try.func14, Try.ntmps14
  go_wp2_with fail
  refine H1.out.mono ?_; rintro e w3 ⟨rfl, hb3⟩
  have B3 := Lib.hid (belowT B2.out hb3)
  have K2' := below_blk hb3 K2 K2.lt
  have K3' := below_blk hb3 K3 K3.lt
  clear x0 x1 x2 x3 x4 x5 hb3 K2 K3 H1
  have x0 := K2'.cell 0 rfl
  have x1 := K2'.cell 1 rfl
  have x2 := K2'.cell 2 rfl
  have x3 := K2'.cell 3 rfl
  have x4 := K2'.cell 4 rfl
  have x5 := K2'.cell 5 rfl
  have y0 := K3'.cell 0 rfl
  by_cases hz : Z = 0
  · have g1 : (Z != 0) = false := by simp [hz]
    have HE2 := Lib.hid (HE.out.trans (if_neg (fun h => h hz)))
    have H2 := Lib.hid (HB.out w3 B3.out)
    clear hz HE HB
    go_wp2_with fail
    refine H2.out.mono ?_; rintro e w4 ⟨rfl, hb4⟩
    have B4 := Lib.hid (belowT B3.out hb4)
    have K4 := below_blk hb4 K3' K3'.lt
    clear x0 x1 x2 x3 x4 x5 y0 hb4 K2' K3' H2
    have y1 := K4.cell 1 rfl
    by_cases hk : K < 0
    · have g2 : decide (K < 0) = true := decide_eq_true hk
      have HR := Lib.hid (HE2.out.trans (if_pos hk))
      clear hk HE2
      go_wp2_with fail
      go_ret
      exact ⟨by rw [HR.out]; rfl, B4.out⟩
    · have g2 : decide (K < 0) = false := decide_eq_false hk
      have HE3 := Lib.hid (HE2.out.trans (if_neg hk))
      clear hk HE2
      by_cases h1 : pt < 0
      · have HR := Lib.hid (HE3.out.trans (if_pos (Or.inl h1)))
        have g3 : decide (pt < 0) = true := decide_eq_true h1
        clear h1 HE3
        go_wp2_with fail
        go_ret
        exact ⟨by rw [HR.out]; rfl, B4.out⟩
      · have g3 : decide (pt < 0) = false := decide_eq_false h1
        by_cases h2 : 1000 < pt
        · have HR := Lib.hid (HE3.out.trans (if_pos (Or.inr h2)))
          have g4 : decide (1000 < pt) = true := decide_eq_true h2
          clear h1 h2 HE3
          go_wp2_with fail
          go_ret
          exact ⟨by rw [HR.out]; rfl, B4.out⟩
        · have HR := Lib.hid (HE3.out.trans (if_neg (fun h => h.elim h1 h2)))
          have g4 : decide (1000 < pt) = false := decide_eq_false h2
          clear h1 h2 HE3
          go_wp2_with fail
          go_ret
          exact ⟨by rw [HR.out]; rfl, B4.out⟩
  · have g1 : (Z != 0) = true := by simp [hz]
    have HR := Lib.hid (HE.out.trans (if_pos hz))
    clear hz HE
    go_wp2_with fail
    go_ret
    exact ⟨by rw [HR.out]; rfl, B3.out⟩
end Go.Proofs.Ytplebibabcdipaa
namespace Go.Proofs.Ytplebibabcdipaa
open Go.RowKit

theorem brAt_range (n : Net) (nm : ByteArray) : brAt n nm = -1 ∨ ∃ (k : Nat) (x : NBr), brAt n nm = k ∧ n.brs[k]? = some x ∧ sameB x.name nm = true := by
  rcases idxP_range (fun b : NBr => sameB b.name nm) n.brs 0 with h | ⟨k, x, h1, h2, h3, _⟩
  · exact Or.inl h
  · exact Or.inr ⟨k, x, by unfold brAt; rw [h1]; omega, h2, h3⟩
def brOf (n : Net) (nm : ByteArray) : NBr := n.brs.getD (brAt n nm).toNat ⟨.empty, .empty, .empty, 0, 0, 0, 0, 0, 0⟩
theorem brOf_eq {n : Net} {nm : ByteArray} {k : Nat} {x : NBr} (h : brAt n nm = k) (hx : n.brs[k]? = some x) : brOf n nm = x := by
  unfold brOf; rw [h]; simp [hx]

def zBad (z : ZSt) : Bool := decide (z.reach < 1) || (decide (1000000 < z.reach) || (decide (z.delay < 0) || decide (100000 < z.delay)))
def zOrd (p z : ZSt) : Bool := decide (z.reach ≤ p.reach) || decide (z.delay < p.delay)
def zonesE : Option ZSt → List ZSt → Int
  | _, [] => 0
  | none, z :: zs => if zBad z = true then 4 else zonesE (some z) zs
  | some p, z :: zs => if zBad z = true then 4 else if zOrd p z = true then 3 else zonesE (some z) zs
def prevZ (l : List ZSt) : Nat → Option ZSt
  | 0 => none
  | k + 1 => l[k]?
theorem zonesE_drop0 {l : List ZSt} {z : ZSt} (h : l[0]? = some z) : zonesE none (l.drop 0) = if zBad z = true then 4 else zonesE (some z) (l.drop 1) := by
  cases l with
  | nil => simp at h
  | cons y ys => simp at h; subst h; rfl
theorem zonesE_drop {l : List ZSt} {k : Nat} {p z : ZSt} (h : l[k]? = some z) : zonesE (some p) (l.drop k) = if zBad z = true then 4 else if zOrd p z = true then 3 else zonesE (some z) (l.drop (k + 1)) := by
  obtain ⟨hk, hx⟩ := List.getElem?_eq_some_iff.1 h
  rw [List.drop_eq_getElem_cons hk, hx]
  rfl
def badEnd (node : ByteArray) (x : NBr) : Bool := !sameB node x.fr && !sameB node x.to
/-- What Check answers. -/
def relayE (n : Net) (r : ZRel) : Int :=
  if netE n ≠ 0 then netE n else if brAt n r.branch < 0 then 6 else
  if badEnd r.node (brOf n r.branch) = true ∨ r.zones.length < 1 ∨ 4 < r.zones.length then 3 else zonesE none r.zones

set_option maxHeartbeats 4000000 in
set_option maxRecDepth 100000 in
theorem zcheck_c (x0 : NAddr) (n : Net) (node branch : ByteArray) (za : Option Addr) (zc : Nat) (zs : List ZSt) (w : World) (hr : NetR w x0 n) (hwf : n.Wf) (hz : Reads w (.slice za zs.length zc) zs.length (flat ZSt.cells zs)) :
    Calls Try.prog 41 #[x0.val n, .agg #[.string node, .string branch, .slice za zs.length zc]] w fun e w' => e = .returned (.int .i64 (relayE n ⟨node, branch, zs⟩)) ∧ Below w.heap.size w w' := by
  have HN := Lib.hid (fun W (hb : Below w.heap.size w W) => net_c x0 n W (hr.below hb) hwf)
  have HB := Lib.hid (fun W (hb : Below w.heap.size w W) => zbr_c x0 n branch W (hr.below hb))
  have HE : Hid (relayE n ⟨node, branch, zs⟩ = if netE n ≠ 0 then netE n else if brAt n branch < 0 then 6 else
    if badEnd node (brOf n branch) = true ∨ zs.length < 1 ∨ 4 < zs.length then 3 else zonesE none zs) := rfl
  have hbr := brAt_range n branch
  have HOF : Hid (∀ (k : Nat) x, brAt n branch = k → n.brs[k]? = some x → brOf n branch = x) := fun k x h1 h2 => brOf_eq h1 h2
  have hR2 := Lib.hid hr.brs
  generalize relayE n ⟨node, branch, zs⟩ = E at *
  generalize netE n = Z at *
  generalize brOf n branch = X at *
  generalize brAt n branch = K at *
  clear hr hwf
  obtain ⟨na, nc, sa, sc, ba, bc, ga, gc, la, lc, ta, tc⟩ := x0
  obtain ⟨nl, sws, brs, gens, loads, stores⟩ := n
  simp only [NAddr.val] at HN HB hbr HOF hR2 ⊢
  generalize nl.length = nn at *
  generalize sws.length = sn at *
  obtain ⟨bn, hBn⟩ : ∃ n, brs.length = n := ⟨_, rfl⟩
  have HBN := Lib.hid hBn
  rw [hBn] at HN HB hR2
  rw [hBn]
  clear hBn
  generalize gens.length = gn at *
  generalize loads.length = ln at *
  generalize stores.length = tn at *
  obtain ⟨zn, hzn⟩ : ∃ n, zs.length = n := ⟨_, rfl⟩
  have HZN := Lib.hid hzn
  rw [hzn] at hz HE ⊢
  clear hzn
  have HZ := Lib.hid hz
  have hzl : zn ≤ 9223372036854775807 := by
    rcases hz with ⟨h, _⟩ | ⟨_, _, _, _, _, h, _⟩
    · omega
    · exact h
  clear hz
  have B1 := belowA (Below.refl w.heap.size w) (.cells #[.slice na nn nc, .slice sa sn sc, .slice ba bn bc, .slice ga gn gc, .slice la ln lc, .slice ta tn tc] 29)
  have K1 := Blk.new w #[.slice na nn nc, .slice sa sn sc, .slice ba bn bc, .slice ga gn gc, .slice la ln lc, .slice ta tn tc] 29
  generalize hW1 : w.alloc (.cells #[.slice na nn nc, .slice sa sn sc, .slice ba bn bc, .slice ga gn gc, .slice la ln lc, .slice ta tn tc] 29) = W1 at *
  have B2 := Lib.hid (belowA B1 (.cells #[.string node, .string branch, .slice za zn zc] 44))
  have K2 := K1.alloc (.cells #[.string node, .string branch, .slice za zn zc] 44)
  have K3 := Blk.new W1 #[.string node, .string branch, .slice za zn zc] 44
  generalize hW2 : W1.alloc (.cells #[.string node, .string branch, .slice za zn zc] 44) = W2 at *
  have x0 := K2.cell 0 rfl
  have x1 := K2.cell 1 rfl
  have x2 := K2.cell 2 rfl
  have x3 := K2.cell 3 rfl
  have x4 := K2.cell 4 rfl
  have x5 := K2.cell 5 rfl
  have H1 := Lib.hid (HN.out W2 B2.out)
  clear B1 K1 HN
  go_enter Try.func41, Try.ntmps41
  go_wp2_with fail
  refine H1.out.mono ?_; rintro e w3 ⟨rfl, hb3⟩
  have B3 := Lib.hid (belowT B2.out hb3)
  have K2' := below_blk hb3 K2 K2.lt
  have K3' := below_blk hb3 K3 K3.lt
  clear x0 x1 x2 x3 x4 x5 hb3 K2 K3 H1
  have x0 := K2'.cell 0 rfl
  have x1 := K2'.cell 1 rfl
  have x2 := K2'.cell 2 rfl
  have x3 := K2'.cell 3 rfl
  have x4 := K2'.cell 4 rfl
  have x5 := K2'.cell 5 rfl
  have y1 := K3'.cell 1 rfl
  by_cases hz : Z = 0
  · have g1 : (Z != 0) = false := by simp [hz]
    have HE2 := Lib.hid (HE.out.trans (if_neg (fun h => h hz)))
    have H2 := Lib.hid (HB.out w3 B3.out)
    clear hz HE HB
    go_wp2_with fail
    refine H2.out.mono ?_; rintro e w4 ⟨rfl, hb4⟩
    have HB4 := Lib.hid (belowT B3.out hb4)
    have K2 := below_blk hb4 K2' K2'.lt
    have K3 := below_blk hb4 K3' K3'.lt
    clear x0 x1 x2 x3 x4 x5 y1 hb4 K2' K3' H2
    have x2 := K2.cell 2 rfl
    have y0 := K3.cell 0 rfl
    have y2 := K3.cell 2 rfl
    rcases hbr with hk | ⟨k, x, hk, hx, _⟩
    · have g2 : decide (K < 0) = true := decide_eq_true (by omega)
      have HR := Lib.hid (HE2.out.trans (if_pos (by omega)))
      clear hk HE2
      go_wp2_with fail
      go_ret
      exact ⟨by rw [HR.out]; rfl, HB4.out⟩
    · have HX := HOF.out k x hk hx
      subst hk
      rw [HX] at HE2
      have g2 : decide ((k : Int) < 0) = false := decide_eq_false (by omega)
      have HE3 := Lib.hid (HE2.out.trans (if_neg (by omega)))
      have hlt : k < bn := by rw [← HBN.out]; exact (List.getElem?_eq_some_iff.1 hx).1
      obtain ⟨g, off, cap', hvv, _, _, hgl, hc⟩ := (hR2.out.below HB4.out).addr (by omega)
      simp only [Value.slice.injEq] at hvv
      obtain ⟨rfl, _, rfl⟩ := hvv
      obtain ⟨_, c1, c2, _⟩ := br_cells hc hx
      obtain ⟨b0, fr, to, b3, b4, b5, b6, b7, b8⟩ := x
      simp only at c1 c2
      clear HE2 HX HOF hx hc
      go_wp2_with fail
      have HBE : Hid (badEnd node ⟨b0, fr, to, b3, b4, b5, b6, b7, b8⟩ = (!(node.toList == fr.toList) && !(node.toList == to.toList))) := rfl
      generalize badEnd node ⟨b0, fr, to, b3, b4, b5, b6, b7, b8⟩ = BE at *
      cases hq1 : (node.toList == fr.toList)
      ·
        cases hq2 : (node.toList == to.toList)
        ·
          have hn1 : (node.toList != fr.toList) = true := by simp [bne, hq1]
          have hn2 : (node.toList != to.toList) = true := by simp [bne, hq2]
          rw [hq1, hq2] at HBE
          have HR := Lib.hid (HE3.out.trans (if_pos (Or.inl (by rw [HBE.out]; rfl))))
          refine wp_region_quiet_lit (by kernel_rfl) (by kernel_rfl) ?_
          repeat (first | go_big_quiet_step (fail) | (go_big_quiet_want; go_simp; go_big_quiet_on))
          refine wpQuiet_nil ?_
          intro _ hw'
          obtain ⟨nq, hw''⟩ := hw'
          subst hw''
          go_wp2_with fail
          go_ret
          exact ⟨by rw [HR.out]; rfl, below_drewN HB4.out _⟩
        ·
          have hn1 : (node.toList != fr.toList) = true := by simp [bne, hq1]
          have hn2 : (node.toList != to.toList) = false := by simp [bne, hq2]
          rw [hq1, hq2] at HBE
          by_cases l1 : zn < 1
          ·
            have g3 : decide ((zn : Int) < 1) = true := decide_eq_true (by omega)
            have HR := Lib.hid (HE3.out.trans (if_pos (Or.inr (Or.inl l1))))
            clear l1 HE3
            refine wp_region_quiet_lit (by kernel_rfl) (by kernel_rfl) ?_
            repeat (first | go_big_quiet_step (fail) | (go_big_quiet_want; go_simp; go_big_quiet_on))
            refine wpQuiet_nil ?_
            intro _ hw'
            obtain ⟨nq, hw''⟩ := hw'
            subst hw''
            go_wp2_with fail
            go_ret
            exact ⟨by rw [HR.out]; rfl, below_drewN HB4.out _⟩
          ·
            have g3 : decide ((zn : Int) < 1) = false := decide_eq_false (by omega)
            by_cases l2 : 4 < zn
            ·
              have g4 : decide ((4 : Int) < zn) = true := decide_eq_true (by omega)
              have HR := Lib.hid (HE3.out.trans (if_pos (Or.inr (Or.inr l2))))
              clear l1 l2 HE3
              refine wp_region_quiet_lit (by kernel_rfl) (by kernel_rfl) ?_
              repeat (first | go_big_quiet_step (fail) | (go_big_quiet_want; go_simp; go_big_quiet_on))
              refine wpQuiet_nil ?_
              intro _ hw'
              obtain ⟨nq, hw''⟩ := hw'
              subst hw''
              go_wp2_with fail
              go_ret
              exact ⟨by rw [HR.out]; rfl, below_drewN HB4.out _⟩
            ·
              have g4 : decide ((4 : Int) < zn) = false := decide_eq_false (by omega)
              have HE4 := Lib.hid (HE3.out.trans (if_neg (fun h => h.elim (fun h => by rw [HBE.out] at h; simp at h) (fun h => h.elim l1 l2))))
              clear HE3 HBE
              refine wp_region_quiet_lit (by kernel_rfl) (by kernel_rfl) ?_
              repeat (first | go_big_quiet_step (fail) | (go_big_quiet_want; go_simp; go_big_quiet_on))
              refine wpQuiet_nil ?_
              intro _ hw'
              obtain ⟨nq, hw''⟩ := hw'
              subst hw''
              go_wp2_with fail
              go_loopw [57] (fun i wr => ∃ k : Nat, k ≤ zn ∧ i = .int .i64 k ∧ Hid (zonesE (prevZ zs k) (zs.drop k) = E) ∧ Hid (Below w4.heap.size w4 wr)) (fun i _ => zn - (intOf i).toNat)
              case atStart => exact ⟨0, Nat.zero_le _, rfl, HE4.out.symm, below_drewN (Below.refl _ _) _⟩
              case round =>
                clear x2 y0 y2
                obtain ⟨j, hj, rfl, he, hbl⟩ := hrel
                have HB5 := Lib.hid (belowT HB4.out hbl.out)
                by_cases hjl : j < zn
                ·
                  obtain ⟨zg, zoff, zcap', zvv, _, _, hzgl, hzc⟩ := (HZ.out.below HB5.out).addr (by omega)
                  simp only [Value.slice.injEq] at zvv
                  obtain ⟨rfl, _, rfl⟩ := zvv
                  obtain ⟨z, hzj⟩ : ∃ x, zs[j]? = some x := ⟨_, List.getElem?_eq_getElem (by rw [HZN.out]; exact hjl)⟩
                  obtain ⟨d0, d1⟩ := zst_cells hzc hzj
                  have y2 := (below_blk hbl.out K3 K3.lt).cell 2 rfl
                  have ly : W1.heap.size < wr.heap.size := Nat.lt_of_lt_of_le K3.lt hbl.out.size
                  have hpn : Hid (prevZ zs (j + 1) = some z) := hzj
                  cases j with
                  | zero =>
                    have hd := he.out.symm.trans (zonesE_drop0 hzj)
                    have HD := Lib.hid hd
                    obtain ⟨re, de⟩ := z
                    simp only [Nat.zero_mul, Nat.add_zero] at d0 d1
                    clear hd he hzj hzc
                    cases hbz : zBad ⟨re, de⟩
                    ·
                      have HP : Hid (zonesE (prevZ zs (0 + 1)) (zs.drop (0 + 1)) = E) := by show _ = _; rw [HD.out, hbz, hpn.out]; rfl
                      unfold zBad at hbz
                      simp only [Bool.or_eq_false_iff] at hbz
                      obtain ⟨q1, q2, q3, q4⟩ := hbz
                      go_wp2_with fail
                      refine wp_region_quiet_lit (by kernel_rfl) (by kernel_rfl) ?_
                      repeat (first | go_big_quiet_step (fail) | (go_big_quiet_want; go_simp; go_big_quiet_on))
                      refine wpQuiet_nil ?_
                      intro _ hw'
                      obtain ⟨nq, hw''⟩ := hw'
                      subst hw''
                      go_wp2_with fail
                      go_roundw
                      case rel => exact ⟨0 + 1, hjl, by go_num, HP, below_drewN (belowA hbl.out _) _⟩
                      case measure => simp [intOf]; omega
                    ·
                      have HR : Hid (E = 4) := by show _ = _; rw [HD.out, hbz]; rfl
                      unfold zBad at hbz
                      have HQ := Lib.hid hbz
                      clear hbz
                      have HB6 := Lib.hid (belowA HB5.out (.cells #[.int .i64 re, .int .i64 de] 39))
                      go_wp2_with fail
                      all_goals first
                        | (exfalso; have hq := HQ.out; simp at * <;> omega)
                        | (go_ret; exact ⟨by rw [HR.out]; rfl, HB6.out⟩)
                  | succ j' =>
                    obtain ⟨p, hpj⟩ : ∃ x, zs[j']? = some x := ⟨_, List.getElem?_eq_getElem (by rw [HZN.out]; omega)⟩
                    obtain ⟨e0, e1⟩ := zst_cells hzc hpj
                    have hprev : prevZ zs (j' + 1) = some p := hpj
                    have hd := he.out.symm
                    rw [hprev] at hd
                    have HD := Lib.hid (hd.trans (zonesE_drop hzj))
                    obtain ⟨re, de⟩ := z
                    obtain ⟨pe, pd⟩ := p
                    simp only at d0 d1 e0 e1
                    clear hd he hzj hzc hpj hprev
                    cases hbz : zBad ⟨re, de⟩
                    ·
                      unfold zBad at hbz
                      simp only [Bool.or_eq_false_iff] at hbz
                      obtain ⟨q1, q2, q3, q4⟩ := hbz
                      have g5 : decide ((0 : Int) < ((j' + 1 : Nat) : Int)) = true := decide_eq_true (by omega)
                      have hw : IntKind.i64.wrap (((j' + 1 : Nat) : Int) - 1) = (j' : Int) := by rw [IntWalk.i64_in _ (by omega)]; omega
                      have hjl' : j' < zn := by omega
                      have HD2 : Hid (E = if zOrd ⟨pe, pd⟩ ⟨re, de⟩ = true then 3 else zonesE (some ⟨re, de⟩) (zs.drop (j' + 1 + 1))) := HD.out.trans (if_neg (by unfold zBad; rw [q1, q2, q3, q4]; decide))
                      have HB6 := Lib.hid (belowA HB5.out (.cells #[.int .i64 re, .int .i64 de] 39))
                      clear HD
                      cases hq5 : decide (re ≤ pe)
                      ·
                        cases hq6 : decide (de < pd)
                        ·
                          have HP : Hid (zonesE (prevZ zs (j' + 1 + 1)) (zs.drop (j' + 1 + 1)) = E) := by show _ = _; rw [HD2.out, hpn.out, if_neg (by unfold zOrd; rw [hq5, hq6]; decide)]
                          go_wp2_with fail
                          refine wp_region_quiet_lit (by kernel_rfl) (by kernel_rfl) ?_
                          repeat (first | go_big_quiet_step (fail) | (go_big_quiet_want; go_simp; go_big_quiet_on))
                          refine wpQuiet_nil ?_
                          intro _ hw'
                          obtain ⟨nq, hw''⟩ := hw'
                          subst hw''
                          go_wp2_with fail
                          go_roundw
                          case rel => exact ⟨j' + 1 + 1, hjl, by go_num, HP, below_drewN (belowA hbl.out _) _⟩
                          case measure => simp [intOf]; omega
                        ·
                          have HR : Hid (E = 3) := HD2.out.trans (if_pos (by unfold zOrd; rw [hq5, hq6]; decide))
                          go_wp2_with fail
                          refine wp_region_quiet_lit (by kernel_rfl) (by kernel_rfl) ?_
                          repeat (first | go_big_quiet_step (fail) | (go_big_quiet_want; go_simp; go_big_quiet_on))
                          refine wpQuiet_nil ?_
                          intro _ hw'
                          obtain ⟨nq, hw''⟩ := hw'
                          subst hw''
                          go_wp2_with fail
                          go_ret
                          exact ⟨by rw [HR.out]; rfl, below_drewN HB6.out _⟩
                      ·
                        have HR : Hid (E = 3) := HD2.out.trans (if_pos (by unfold zOrd; rw [hq5]; rfl))
                        go_wp2_with fail
                        refine wp_region_quiet_lit (by kernel_rfl) (by kernel_rfl) ?_
                        repeat (first | go_big_quiet_step (fail) | (go_big_quiet_want; go_simp; go_big_quiet_on))
                        refine wpQuiet_nil ?_
                        intro _ hw'
                        obtain ⟨nq, hw''⟩ := hw'
                        subst hw''
                        go_wp2_with fail
                        go_ret
                        exact ⟨by rw [HR.out]; rfl, below_drewN HB6.out _⟩
                    ·
                      have HR : Hid (E = 4) := by show _ = _; rw [HD.out, hbz]; rfl
                      unfold zBad at hbz
                      have HQ := Lib.hid hbz
                      clear hbz
                      have HB6 := Lib.hid (belowA HB5.out (.cells #[.int .i64 re, .int .i64 de] 39))
                      go_wp2_with fail
                      all_goals first
                        | (exfalso; have hq := HQ.out; simp at * <;> omega)
                        | (go_ret; exact ⟨by rw [HR.out]; rfl, HB6.out⟩)
                ·
                  have hkn : zs.drop j = [] := List.drop_eq_nil_of_le (by rw [HZN.out]; omega)
                  have HR : Hid (E = 0) := by show _ = _; rw [← he.out, hkn]; cases prevZ zs j <;> rfl
                  clear he hkn
                  go_wp2_with fail
                  go_ret
                  exact ⟨by rw [HR.out]; rfl, HB5.out⟩
      ·
        have hn1 : (node.toList != fr.toList) = false := by simp [bne, hq1]
        rw [hq1] at HBE
        by_cases l1 : zn < 1
        ·
          have g3 : decide ((zn : Int) < 1) = true := decide_eq_true (by omega)
          have HR := Lib.hid (HE3.out.trans (if_pos (Or.inr (Or.inl l1))))
          clear l1 HE3
          refine wp_region_quiet_lit (by kernel_rfl) (by kernel_rfl) ?_
          repeat (first | go_big_quiet_step (fail) | (go_big_quiet_want; go_simp; go_big_quiet_on))
          refine wpQuiet_nil ?_
          intro _ hw'
          obtain ⟨nq, hw''⟩ := hw'
          subst hw''
          go_wp2_with fail
          go_ret
          exact ⟨by rw [HR.out]; rfl, below_drewN HB4.out _⟩
        ·
          have g3 : decide ((zn : Int) < 1) = false := decide_eq_false (by omega)
          by_cases l2 : 4 < zn
          ·
            have g4 : decide ((4 : Int) < zn) = true := decide_eq_true (by omega)
            have HR := Lib.hid (HE3.out.trans (if_pos (Or.inr (Or.inr l2))))
            clear l1 l2 HE3
            refine wp_region_quiet_lit (by kernel_rfl) (by kernel_rfl) ?_
            repeat (first | go_big_quiet_step (fail) | (go_big_quiet_want; go_simp; go_big_quiet_on))
            refine wpQuiet_nil ?_
            intro _ hw'
            obtain ⟨nq, hw''⟩ := hw'
            subst hw''
            go_wp2_with fail
            go_ret
            exact ⟨by rw [HR.out]; rfl, below_drewN HB4.out _⟩
          ·
            have g4 : decide ((4 : Int) < zn) = false := decide_eq_false (by omega)
            have HE4 := Lib.hid (HE3.out.trans (if_neg (fun h => h.elim (fun h => by rw [HBE.out] at h; simp at h) (fun h => h.elim l1 l2))))
            clear HE3 HBE
            refine wp_region_quiet_lit (by kernel_rfl) (by kernel_rfl) ?_
            repeat (first | go_big_quiet_step (fail) | (go_big_quiet_want; go_simp; go_big_quiet_on))
            refine wpQuiet_nil ?_
            intro _ hw'
            obtain ⟨nq, hw''⟩ := hw'
            subst hw''
            go_wp2_with fail
            go_loopw [57] (fun i wr => ∃ k : Nat, k ≤ zn ∧ i = .int .i64 k ∧ Hid (zonesE (prevZ zs k) (zs.drop k) = E) ∧ Hid (Below w4.heap.size w4 wr)) (fun i _ => zn - (intOf i).toNat)
            case atStart => exact ⟨0, Nat.zero_le _, rfl, HE4.out.symm, below_drewN (Below.refl _ _) _⟩
            case round =>
              clear x2 y0 y2
              obtain ⟨j, hj, rfl, he, hbl⟩ := hrel
              have HB5 := Lib.hid (belowT HB4.out hbl.out)
              by_cases hjl : j < zn
              ·
                obtain ⟨zg, zoff, zcap', zvv, _, _, hzgl, hzc⟩ := (HZ.out.below HB5.out).addr (by omega)
                simp only [Value.slice.injEq] at zvv
                obtain ⟨rfl, _, rfl⟩ := zvv
                obtain ⟨z, hzj⟩ : ∃ x, zs[j]? = some x := ⟨_, List.getElem?_eq_getElem (by rw [HZN.out]; exact hjl)⟩
                obtain ⟨d0, d1⟩ := zst_cells hzc hzj
                have y2 := (below_blk hbl.out K3 K3.lt).cell 2 rfl
                have ly : W1.heap.size < wr.heap.size := Nat.lt_of_lt_of_le K3.lt hbl.out.size
                have hpn : Hid (prevZ zs (j + 1) = some z) := hzj
                cases j with
                | zero =>
                  have hd := he.out.symm.trans (zonesE_drop0 hzj)
                  have HD := Lib.hid hd
                  obtain ⟨re, de⟩ := z
                  simp only [Nat.zero_mul, Nat.add_zero] at d0 d1
                  clear hd he hzj hzc
                  cases hbz : zBad ⟨re, de⟩
                  ·
                    have HP : Hid (zonesE (prevZ zs (0 + 1)) (zs.drop (0 + 1)) = E) := by show _ = _; rw [HD.out, hbz, hpn.out]; rfl
                    unfold zBad at hbz
                    simp only [Bool.or_eq_false_iff] at hbz
                    obtain ⟨q1, q2, q3, q4⟩ := hbz
                    go_wp2_with fail
                    refine wp_region_quiet_lit (by kernel_rfl) (by kernel_rfl) ?_
                    repeat (first | go_big_quiet_step (fail) | (go_big_quiet_want; go_simp; go_big_quiet_on))
                    refine wpQuiet_nil ?_
                    intro _ hw'
                    obtain ⟨nq, hw''⟩ := hw'
                    subst hw''
                    go_wp2_with fail
                    go_roundw
                    case rel => exact ⟨0 + 1, hjl, by go_num, HP, below_drewN (belowA hbl.out _) _⟩
                    case measure => simp [intOf]; omega
                  ·
                    have HR : Hid (E = 4) := by show _ = _; rw [HD.out, hbz]; rfl
                    unfold zBad at hbz
                    have HQ := Lib.hid hbz
                    clear hbz
                    have HB6 := Lib.hid (belowA HB5.out (.cells #[.int .i64 re, .int .i64 de] 39))
                    go_wp2_with fail
                    all_goals first
                      | (exfalso; have hq := HQ.out; simp at * <;> omega)
                      | (go_ret; exact ⟨by rw [HR.out]; rfl, HB6.out⟩)
                | succ j' =>
                  obtain ⟨p, hpj⟩ : ∃ x, zs[j']? = some x := ⟨_, List.getElem?_eq_getElem (by rw [HZN.out]; omega)⟩
                  obtain ⟨e0, e1⟩ := zst_cells hzc hpj
                  have hprev : prevZ zs (j' + 1) = some p := hpj
                  have hd := he.out.symm
                  rw [hprev] at hd
                  have HD := Lib.hid (hd.trans (zonesE_drop hzj))
                  obtain ⟨re, de⟩ := z
                  obtain ⟨pe, pd⟩ := p
                  simp only at d0 d1 e0 e1
                  clear hd he hzj hzc hpj hprev
                  cases hbz : zBad ⟨re, de⟩
                  ·
                    unfold zBad at hbz
                    simp only [Bool.or_eq_false_iff] at hbz
                    obtain ⟨q1, q2, q3, q4⟩ := hbz
                    have g5 : decide ((0 : Int) < ((j' + 1 : Nat) : Int)) = true := decide_eq_true (by omega)
                    have hw : IntKind.i64.wrap (((j' + 1 : Nat) : Int) - 1) = (j' : Int) := by rw [IntWalk.i64_in _ (by omega)]; omega
                    have hjl' : j' < zn := by omega
                    have HD2 : Hid (E = if zOrd ⟨pe, pd⟩ ⟨re, de⟩ = true then 3 else zonesE (some ⟨re, de⟩) (zs.drop (j' + 1 + 1))) := HD.out.trans (if_neg (by unfold zBad; rw [q1, q2, q3, q4]; decide))
                    have HB6 := Lib.hid (belowA HB5.out (.cells #[.int .i64 re, .int .i64 de] 39))
                    clear HD
                    cases hq5 : decide (re ≤ pe)
                    ·
                      cases hq6 : decide (de < pd)
                      ·
                        have HP : Hid (zonesE (prevZ zs (j' + 1 + 1)) (zs.drop (j' + 1 + 1)) = E) := by show _ = _; rw [HD2.out, hpn.out, if_neg (by unfold zOrd; rw [hq5, hq6]; decide)]
                        go_wp2_with fail
                        refine wp_region_quiet_lit (by kernel_rfl) (by kernel_rfl) ?_
                        repeat (first | go_big_quiet_step (fail) | (go_big_quiet_want; go_simp; go_big_quiet_on))
                        refine wpQuiet_nil ?_
                        intro _ hw'
                        obtain ⟨nq, hw''⟩ := hw'
                        subst hw''
                        go_wp2_with fail
                        go_roundw
                        case rel => exact ⟨j' + 1 + 1, hjl, by go_num, HP, below_drewN (belowA hbl.out _) _⟩
                        case measure => simp [intOf]; omega
                      ·
                        have HR : Hid (E = 3) := HD2.out.trans (if_pos (by unfold zOrd; rw [hq5, hq6]; decide))
                        go_wp2_with fail
                        refine wp_region_quiet_lit (by kernel_rfl) (by kernel_rfl) ?_
                        repeat (first | go_big_quiet_step (fail) | (go_big_quiet_want; go_simp; go_big_quiet_on))
                        refine wpQuiet_nil ?_
                        intro _ hw'
                        obtain ⟨nq, hw''⟩ := hw'
                        subst hw''
                        go_wp2_with fail
                        go_ret
                        exact ⟨by rw [HR.out]; rfl, below_drewN HB6.out _⟩
                    ·
                      have HR : Hid (E = 3) := HD2.out.trans (if_pos (by unfold zOrd; rw [hq5]; rfl))
                      go_wp2_with fail
                      refine wp_region_quiet_lit (by kernel_rfl) (by kernel_rfl) ?_
                      repeat (first | go_big_quiet_step (fail) | (go_big_quiet_want; go_simp; go_big_quiet_on))
                      refine wpQuiet_nil ?_
                      intro _ hw'
                      obtain ⟨nq, hw''⟩ := hw'
                      subst hw''
                      go_wp2_with fail
                      go_ret
                      exact ⟨by rw [HR.out]; rfl, below_drewN HB6.out _⟩
                  ·
                    have HR : Hid (E = 4) := by show _ = _; rw [HD.out, hbz]; rfl
                    unfold zBad at hbz
                    have HQ := Lib.hid hbz
                    clear hbz
                    have HB6 := Lib.hid (belowA HB5.out (.cells #[.int .i64 re, .int .i64 de] 39))
                    go_wp2_with fail
                    all_goals first
                      | (exfalso; have hq := HQ.out; simp at * <;> omega)
                      | (go_ret; exact ⟨by rw [HR.out]; rfl, HB6.out⟩)
              ·
                have hkn : zs.drop j = [] := List.drop_eq_nil_of_le (by rw [HZN.out]; omega)
                have HR : Hid (E = 0) := by show _ = _; rw [← he.out, hkn]; cases prevZ zs j <;> rfl
                clear he hkn
                go_wp2_with fail
                go_ret
                exact ⟨by rw [HR.out]; rfl, HB5.out⟩
  · have g1 : (Z != 0) = true := by simp [hz]
    have HR := Lib.hid (HE.out.trans (if_pos hz))
    have HB4 := B3
    clear hz HE
    go_wp2_with fail
    go_ret
    exact ⟨by rw [HR.out]; rfl, HB4.out⟩
end Go.Proofs.Ytplebibabcdipaa
namespace Go.Proofs.Ytplebibabcdipaa
open Go.RowKit

def idxI (s : Int) : List Int → Int → Int
  | [], _ => -1
  | x :: xs, i => if (s == x) = true then i else idxI s xs (i + 1)
def hasI (s : Int) (l : List Int) : Bool := l.any (fun x => s == x)
theorem idxI_neg (s : Int) : ∀ (l : List Int) (i : Int), 0 ≤ i → (0 ≤ idxI s l i ↔ hasI s l = true) := by
  intro l
  induction l with
  | nil => intro i _; simp [idxI, hasI]
  | cons x xs ih =>
    intro i hi
    unfold idxI hasI
    rw [List.any_cons]
    by_cases hp : (s == x) = true
    · rw [if_pos hp, hp]; simp [hi]
    · rw [if_neg hp, ih (i + 1) (by omega)]
      have : (s == x) = false := by simpa using hp
      rw [this]; simp [hasI]
theorem idxI_drop {s : Int} {l : List Int} {k : Nat} (h : k < l.length) : idxI s (l.drop k) k = if (s == l.getD k 0) = true then (k : Int) else idxI s (l.drop (k + 1)) ((k + 1 : Nat) : Int) := by
  rw [List.drop_eq_getElem_cons h]
  conv => lhs; unfold idxI
  simp [h]

set_option maxHeartbeats 400000 in
theorem indexI_c (v : Value) (l : List Int) (s : Int) (w : World) (hv : IVal w v l) :
    Calls Try.prog 123 #[v, .int .i64 s] w fun e w' => e = .returned (.int .i64 (idxI s l 0)) ∧ w = w' := by
  obtain ⟨a, cap, rfl⟩ := hv.slice
  have hn : l.length ≤ 9223372036854775807 := by
    rcases hv with ⟨h, _⟩ | ⟨_, _, _, _, _, h, _⟩
    · omega
    · exact h
  have HE : Hid (idxI s (l.drop 0) (0 : Nat) = idxI s l 0) := by show _ = _; rfl
  generalize idxI s l 0 = E at *
  obtain ⟨n, hN⟩ : ∃ n, l.length = n := ⟨_, rfl⟩
  have HN := Lib.hid hN
  have HV2 : Hid (Reads w (.slice a n cap) n (ints l)) := by show Reads _ _ _ _; rw [← hN]; exact hv
  rw [hN] at hn ⊢
  clear hN hv
  go_enter Try.func123, Try.ntmps123
  go_wp2_with fail
  go_loopw [8] (fun i wr => ∃ k : Nat, k ≤ n ∧ i = .int .i64 k ∧ Hid (idxI s (l.drop k) k = E) ∧ w = wr) (fun i _ => n - (intOf i).toNat)
  case atStart => exact ⟨0, Nat.zero_le _, rfl, HE.out, rfl⟩
  case round =>
    obtain ⟨k, hk, rfl, he, rfl⟩ := hrel
    by_cases hlt : k < n
    · obtain ⟨b, off, cap', hvv, _, _, hbl, hc⟩ := HV2.out.addr (by omega)
      simp only [Value.slice.injEq] at hvv
      obtain ⟨rfl, _, rfl⟩ := hvv
      have hlk : k < l.length := by rw [HN.out]; exact hlt
      have x0 := hc k _ (ints_get hlk)
      have hd := idxI_drop (s := s) hlk
      generalize l.getD k 0 = x at *
      have HD := Lib.hid hd
      clear hd hc
      cases hp : (s == x)
      · have HP := Lib.hid (HD.out.trans (if_neg (by rw [hp]; decide)))
        go_wp2_with fail
        go_roundw
        case rel => exact ⟨k + 1, by omega, by go_num, by show _ = _; rw [← he.out, HP.out], by first | rfl | trivial⟩
        case measure => simp [intOf]; omega
      · have HP := Lib.hid (he.out.symm.trans (HD.out.trans (if_pos hp)))
        go_wp2_with fail
        go_ret
        exact ⟨by rw [HP.out]; rfl, rfl⟩
    · have hkn : l.drop k = [] := List.drop_eq_nil_of_le (by rw [HN.out]; omega)
      have HX : Hid (E = -1) := by show _ = _; rw [← he.out, hkn]; rfl
      clear he hkn
      go_wp2_with fail
      go_ret
      exact ⟨by rw [HX.out]; rfl, rfl⟩

set_option maxHeartbeats 400000 in
theorem containsI_c (v : Value) (l : List Int) (s : Int) (w : World) (hv : IVal w v l) :
    Calls Try.prog 100 #[v, .int .i64 s] w fun e w' => e = .returned (.bool (hasI s l)) ∧ w = w' := by
  have hc := indexI_c v l s w hv
  have hi := idxI_neg s l 0 (by decide)
  obtain ⟨a, cap, rfl⟩ := hv.slice
  have HC := Lib.hid hc
  clear hc hv
  generalize idxI s l 0 = E at *
  by_cases hp : hasI s l = true
  · have h : 0 ≤ E := hi.2 hp
    have HP : Hid (hasI s l = true) := hp
    clear hi hp
    generalize hasI s l = R at *
    go_enter Try.func100, Try.ntmps100
    go_wp2_with fail
    refine HC.out.mono ?_; rintro e w2 ⟨rfl, rfl⟩
    have g1 : decide (0 ≤ E) = true := decide_eq_true h
    go_wp2_with fail
    go_ret
    exact ⟨by rw [HP.out]; rfl, rfl⟩
  · have h : ¬ 0 ≤ E := fun h => hp (hi.1 h)
    have HP : Hid (hasI s l = false) := by show _ = _; simpa using hp
    clear hi hp
    generalize hasI s l = R at *
    go_enter Try.func100, Try.ntmps100
    go_wp2_with fail
    refine HC.out.mono ?_; rintro e w2 ⟨rfl, rfl⟩
    have g1 : decide (0 ≤ E) = false := decide_eq_false (by omega)
    go_wp2_with fail
    go_ret
    exact ⟨by rw [HP.out]; rfl, rfl⟩

/-- An edge. -/
structure Edg where
  a : Int
  b : Int
  len : Int
def Edg.cells (x : Edg) : List Value := [.int .i64 x.a, .int .i64 x.b, .int .i64 x.len]
theorem edg_cells {w : World} {b off : Nat} {l : List Edg} (h : ∀ j u, (flat Edg.cells l)[j]? = some u → w.cell? ⟨b, off + j, none⟩ = some u) {k : Nat} {x : Edg} (hx : l[k]? = some x) :
    w.cell? ⟨b, off + k * 3, none⟩ = some (.int .i64 x.a) ∧ w.cell? ⟨b, off + k * 3 + 1, none⟩ = some (.int .i64 x.b) ∧ w.cell? ⟨b, off + k * 3 + 2, none⟩ = some (.int .i64 x.len) := by
  have e := fun j u hj hu => Reads.elem (sz := 3) (fun _ => rfl) h hx (j := j) (u := u) hj hu
  exact ⟨e 0 _ (by decide) rfl, by rw [Nat.add_assoc]; exact e 1 _ (by decide) rfl, by rw [Nat.add_assoc]; exact e 2 _ (by decide) rfl⟩
theorem flat_snoc {α : Type} (f : α → List Value) (l : List α) (x : α) : flat f (l ++ [x]) = flat f l ++ f x := by unfold flat; simp
/-- The edges of the switches that are closed, and of the branches that are not left out. -/
def swEdges (nl : List ByteArray) : List NSw → List Edg
  | [] => []
  | s :: ss => if s.opn = true then swEdges nl ss else ⟨idxS s.a nl 0, idxS s.b nl 0, 0⟩ :: swEdges nl ss
def brEdges (nl : List ByteArray) (out : List Int) : List NBr → Nat → List Edg
  | [], _ => []
  | b :: bs, k => if hasI k out = true then brEdges nl out bs (k + 1) else ⟨idxS b.fr nl 0, idxS b.to nl 0, 1000 * b.x⟩ :: brEdges nl out bs (k + 1)
def edgesR (n : Net) (out : List Int) : List Edg := swEdges n.nodes n.sws ++ brEdges n.nodes out n.brs 0
theorem swEdges_drop {nl : List ByteArray} {l : List NSw} {k : Nat} {x : NSw} (h : l[k]? = some x) : swEdges nl (l.drop k) = if x.opn = true then swEdges nl (l.drop (k + 1)) else ⟨idxS x.a nl 0, idxS x.b nl 0, 0⟩ :: swEdges nl (l.drop (k + 1)) := by
  obtain ⟨hk, hx⟩ := List.getElem?_eq_some_iff.1 h
  rw [List.drop_eq_getElem_cons hk, hx]; rfl
theorem brEdges_drop {nl : List ByteArray} {out : List Int} {l : List NBr} {k : Nat} {x : NBr} (h : l[k]? = some x) :
    brEdges nl out (l.drop k) k = if hasI k out = true then brEdges nl out (l.drop (k + 1)) (k + 1) else ⟨idxS x.fr nl 0, idxS x.to nl 0, 1000 * x.x⟩ :: brEdges nl out (l.drop (k + 1)) (k + 1) := by
  obtain ⟨hk, hx⟩ := List.getElem?_eq_some_iff.1 h
  rw [List.drop_eq_getElem_cons hk, hx]; rfl
theorem swEdges_len (nl : List ByteArray) (l : List NSw) : (swEdges nl l).length ≤ l.length := by
  induction l with
  | nil => simp [swEdges]
  | cons x xs ih => unfold swEdges; split <;> simp <;> omega
theorem brEdges_len (nl : List ByteArray) (out : List Int) (l : List NBr) : ∀ k, (brEdges nl out l k).length ≤ l.length := by
  induction l with
  | nil => intro k; simp [brEdges]
  | cons x xs ih => intro k; have := ih (k + 1); unfold brEdges; split <;> simp <;> omega

set_option maxHeartbeats 400000 in
theorem zat_c (na : Option Addr) (nn nc : Nat) (nl : List ByteArray) (s : ByteArray) (bx : Nat) (w : World) (hn : nl.length = nn) (hr : Reads w (.slice na nn nc) nn (strs nl)) (c0 : w.cell? ⟨bx, 0, none⟩ = some (.slice na nn nc)) :
    Calls Try.prog 113 #[.string s, .pointer (some ⟨bx, 0, none⟩)] w fun e w' => e = .returned (.int .i64 (idxS s nl 0)) ∧ w' = w := by
  have HC := Lib.hid (index_c (.slice na nn nc) nl s w (by show Reads _ _ _ _; rw [hn]; exact hr))
  generalize idxS s nl 0 = E at *
  clear hr hn
  go_enter Try.func113, Try.ntmps113
  go_wp2_with fail
  refine HC.out.mono ?_; rintro e w2 ⟨rfl, rfl⟩
  go_wp2_with fail
  go_ret
  exact ⟨rfl, rfl⟩
theorem infoEdge : (Try.prog.info? 178).map (fun i => (i.zero, i.size, i.bytes)) = some (some (.agg #[.int .i64 0, .int .i64 0, .int .i64 0]), 3, 24) := by kernel_rfl
end Go.Proofs.Ytplebibabcdipaa
namespace Go.Proofs.Ytplebibabcdipaa
open Go.RowKit

theorem row_lt {W : World} {base : Nat} {e : TypeId} {sz n : Nat} {v : Value} {xs : List Value} (h : W.ownsRow base e sz v n xs) : ∀ j, v.ownBlock = some j → j < W.heap.size := by
  intro j hj
  rcases h.2 with ⟨rfl, _⟩ | ⟨g, cap, cur, rfl, _, hh, _⟩
  · cases hj
  · have : g = j := Option.some.inj hj
    rw [← this]; exact (Array.getElem?_eq_some_iff.1 hh).1
set_option maxHeartbeats 4000000 in
set_option maxRecDepth 100000 in
theorem edges_c (x0 : NAddr) (n : Net) (out : List Int) (v : Value) (w : World) (hr : NetR w x0 n) (h1 : n.sws.length ≤ 32) (h2 : n.brs.length ≤ 24) (h3 : ∀ b ∈ n.brs, 0 ≤ b.x ∧ b.x ≤ 10000) (hv : IVal w v out) :
    Calls Try.prog 86 #[x0.val n, v] w fun e w' => ∃ lv, e = .returned lv ∧ Reads w' lv (edgesR n out).length (flat Edg.cells (edgesR n out)) ∧ Below w.heap.size w w' := by
  obtain ⟨oa, oc, rfl⟩ := hv.slice
  obtain ⟨na, nc, sa, sc, ba, bc, ga, gc, la, lc, ta, tc⟩ := x0
  obtain ⟨nl, sws, brs, gens, loads, stores⟩ := n
  obtain ⟨r0, r1, r2, _, _, _⟩ := hr
  simp only at r0 r1 r2 h1 h2 h3
  obtain ⟨SE, hSE⟩ : ∃ E, swEdges nl sws = E := ⟨_, rfl⟩
  have hER : edgesR ⟨nl, sws, brs, gens, loads, stores⟩ out = SE ++ brEdges nl out brs 0 := by rw [← hSE]; rfl
  have HSE : Hid ([] ++ swEdges nl (sws.drop 0) = SE) := hSE
  have hSL : SE.length ≤ 32 := by rw [← hSE]; have := swEdges_len nl sws; omega
  generalize edgesR ⟨nl, sws, brs, gens, loads, stores⟩ out = ER at *
  have HER := Lib.hid hER
  clear hSE hER
  show Calls _ _ #[netV na nl.length nc sa sws.length sc ba brs.length bc ga gens.length gc la loads.length lc ta stores.length tc, _] _ _
  obtain ⟨nn, hN⟩ : ∃ n, nl.length = n := ⟨_, rfl⟩
  obtain ⟨sn, hS⟩ : ∃ n, sws.length = n := ⟨_, rfl⟩
  obtain ⟨bn, hB⟩ : ∃ n, brs.length = n := ⟨_, rfl⟩
  obtain ⟨on, hO⟩ : ∃ n, out.length = n := ⟨_, rfl⟩
  generalize gens.length = gn at *
  generalize loads.length = ln at *
  generalize stores.length = tn at *
  rw [hN] at r0
  rw [hS] at r1 h1
  rw [hB] at r2 h2
  rw [hN, hS, hB, hO]
  have hvO : Reads w (.slice oa on oc) on (ints out) := by rw [← hO]; exact hv
  have B1 := belowA (Below.refl w.heap.size w) (.cells #[.slice na nn nc, .slice sa sn sc, .slice ba bn bc, .slice ga gn gc, .slice la ln lc, .slice ta tn tc] 29)
  have K1 := Blk.new w #[.slice na nn nc, .slice sa sn sc, .slice ba bn bc, .slice ga gn gc, .slice la ln lc, .slice ta tn tc] 29
  generalize hW1 : w.alloc (.cells #[.slice na nn nc, .slice sa sn sc, .slice ba bn bc, .slice ga gn gc, .slice la ln lc, .slice ta tn tc] 29) = W1 at *
  have R0 := Lib.hid (r0.below B1)
  have R1 := Lib.hid (r1.below B1)
  have R2 := Lib.hid (r2.below B1)
  have HAT : Hid (∀ s W, Below W1.heap.size W1 W → Calls Try.prog 113 #[.string s, .pointer (some ⟨w.heap.size, 0, none⟩)] W fun e w' => e = .returned (.int .i64 (idxS s nl 0)) ∧ w' = W) := fun s W hW =>
    zat_c na nn nc nl s w.heap.size W hN (R0.out.below hW) (by rw [hW.cell (p := ⟨w.heap.size, 0, none⟩) K1.lt]; exact K1.cell 0 rfl)
  have HCO : Hid (∀ s W, Below W1.heap.size W1 W → Calls Try.prog 100 #[.slice oa on oc, .int .i64 s] W fun e w' => e = .returned (.bool (hasI s out)) ∧ W = w') := fun s W hW =>
    containsI_c (.slice oa on oc) out s W (by show Reads _ _ _ _; rw [hO]; exact (hvO.below B1).below hW)
  have BW := Lib.hid B1
  have hxb : w.heap.size < W1.heap.size := K1.lt
  have K1' := Lib.hid K1
  have x1 := K1.cell 1 rfl
  obtain ⟨i0, hi0, hz0, hz1, hz2⟩ := info_parts infoEdge
  clear r0 r1 r2 B1 K1 hv hvO
  go_enter Try.func86, Try.ntmps86
  go_wp2_with fail
  go_loopw [15, 6] (fun i l wr => ∃ (k : Nat) (es : List Edg), k ≤ sn ∧ i = .int .i64 k ∧ Hid (es ++ swEdges nl (sws.drop k) = SE) ∧ es.length ≤ k ∧ Hid (wr.ownsRow W1.heap.size 178 3 l es.length (flat Edg.cells es)) ∧ Hid (Below W1.heap.size W1 wr)) (fun i _ _ => sn - (intOf i).toNat)
  case atStart => exact ⟨0, [], Nat.zero_le _, rfl, HSE, by simp, World.ownsRow_nil _ _ _ _, Below.refl _ _⟩
  case round =>
    clear x1
    obtain ⟨k, es, hk, rfl, he, hel, how, hbl⟩ := hrel
    obtain ⟨lva, lvc, rfl⟩ := row_slice how.out
    obtain ⟨m, hm⟩ : ∃ m, es.length = m := ⟨_, rfl⟩
    have HM := Lib.hid hm
    rw [hm] at how hel ⊢
    clear hm
    by_cases hlt : k < sn
    ·
      have hlk : k < sws.length := by rw [hS]; exact hlt
      obtain ⟨x, hx⟩ : ∃ x, sws[k]? = some x := ⟨_, List.getElem?_eq_getElem hlk⟩
      have hr := (R1.out.below hbl.out).addr (by omega)
      obtain ⟨g, off, cap', hvv, _, _, _, hc⟩ := hr
      simp only [Value.slice.injEq] at hvv
      obtain ⟨rfl, _, rfl⟩ := hvv
      obtain ⟨c0, c1, c2, c3, c4⟩ := sw_cells hc hx
      have hd := swEdges_drop (nl := nl) hx
      obtain ⟨nm, fr, to, bk, op⟩ := x
      simp only at c0 c1 c2 c3 c4 hd
      have HD := Lib.hid hd
      clear hd hx hc
      cases op
      ·
        have hsz2 : (wr.alloc (.cells #[.string nm, .string fr, .string to, .bool bk, .bool false] 82)).heap.size = wr.heap.size + 1 := World.size_alloc _ _
        have e2 := Blk.new wr #[.string nm, .string fr, .string to, .bool bk, .bool false] 82
        have hb2 := hbl.out.alloc hbl.out.size (.cells #[.string nm, .string fr, .string to, .bool bk, .bool false] 82)
        have ho2 := row_alloc how.out (.cells #[.string nm, .string fr, .string to, .bool bk, .bool false] 82)
        have HA1 := Lib.hid (HAT.out fr (wr.alloc (.cells #[.string nm, .string fr, .string to, .bool bk, .bool false] 82)).drew ⟨hb2.os, hb2.tape, hb2.output, hb2.size, hb2.block⟩)
        have HA2 := Lib.hid (HAT.out to (wr.alloc (.cells #[.string nm, .string fr, .string to, .bool bk, .bool false] 82)).drew ⟨hb2.os, hb2.tape, hb2.output, hb2.size, hb2.block⟩)
        have z0 := e2.cell 1 rfl
        have z1 := e2.cell 2 rfl
        have HB2 : Hid (Below W1.heap.size W1 (wr.alloc (.cells #[.string nm, .string fr, .string to, .bool bk, .bool false] 82)).drew) := ⟨hb2.os, hb2.tape, hb2.output, hb2.size, hb2.block⟩
        have HO2 : Hid ((wr.alloc (.cells #[.string nm, .string fr, .string to, .bool bk, .bool false] 82)).drew.ownsRow W1.heap.size 178 3 (.slice lva m lvc) m (flat Edg.cells es)) := ho2
        clear e2 hb2 ho2 hsz2
        go_wp2_with fail
        generalize wr.alloc (.cells #[.string nm, .string fr, .string to, .bool bk, .bool false] 82) = W2 at *
        have HL : Hid ((W2.drew.alloc (.cells #[.int .i64 (idxS fr nl 0), .int .i64 (idxS to nl 0), .int .i64 0] 178)).ownsRow W1.heap.size 178 3 (.slice lva m lvc) m (flat Edg.cells es)) := row_alloc HO2.out _
        have HBA : Hid (Below W1.heap.size W1 (W2.drew.alloc (.cells #[.int .i64 (idxS fr nl 0), .int .i64 (idxS to nl 0), .int .i64 0] 178))) := HB2.out.alloc HB2.out.size _
        have N1 : Hid (∀ j u, [Value.int .i64 (idxS fr nl 0), .int .i64 (idxS to nl 0), .int .i64 0][j]? = some u → (W2.drew.alloc (.cells #[.int .i64 (idxS fr nl 0), .int .i64 (idxS to nl 0), .int .i64 0] 178)).cell? ((⟨W2.heap.size, 0, none⟩ : Addr).add j) = some u) := (Blk.new W2.drew #[.int .i64 (idxS fr nl 0), .int .i64 (idxS to nl 0), .int .i64 0] 178).row
        generalize idxS fr nl 0 = ia at *
        generalize idxS to nl 0 = ib at *
        have HL1 : Hid (m + 1 ≤ maxLen) := by show _ ≤ _; unfold maxLen; omega
        have HL2 : Hid ((m + 1) * 24 ≤ 140737488355328) := by show _ ≤ _; omega
        go_region_law
          (first
            | (refine step_append_lies _ rfl (.tmp 22) (.tmp 32) 149 rfl W1.heap.size 178 i0 (.agg #[.int .i64 0, .int .i64 0, .int .i64 0]) 3 24 Try.underlying149 hi0 hz0 hz1 hz2 rfl (by decide) (.slice lva m lvc) m (flat Edg.cells es) rfl HL.out ⟨W2.heap.size, 0, none⟩ 1 1 [.int .i64 ia, .int .i64 ib, .int .i64 0] rfl rfl N1.out (ints_one [ia, ib, 0]) (by decide) HL1.out HL2.out HBA.out.size _ rfl ?_; intro g1 cap1 u1 hown1 hgrow1 hat1 hlt1; have HOW := Lib.hid hown1; have HGR := Lib.hid hgrow1; clear hown1 hgrow1 hat1 hlt1)
            | (go_simp; go_at_call 113; refine HA1.out.mono ?_; rintro e w' ⟨rfl, rfl⟩)
            | (go_simp; go_at_call 113; refine HA2.out.mono ?_; rintro e w' ⟨rfl, rfl⟩))
        all_goals
          go_simp
          go_wp2_with fail
          go_roundw
          case rel => exact ⟨k + 1, es ++ [⟨ia, ib, 0⟩], hlt, by go_num, by show _ = _; rw [← he.out, HD.out]; simp, by rw [List.length_append, HM.out]; simp; omega, by rw [flat_snoc, List.length_append, HM.out]; exact HOW.out, Below.grown HBA.out HGR.out HBA.out.size (row_own HL.out)⟩
          case measure => simp [intOf]; omega
      ·
        go_wp2_with fail
        go_roundw
        case rel => exact ⟨k + 1, es, hlt, by go_num, by show _ = _; rw [← he.out, HD.out]; rfl, by rw [HM.out]; omega, by rw [HM.out]; exact row_alloc how.out _, hbl.out.alloc hbl.out.size _⟩
        case measure => simp [intOf]; omega
    ·
      have hkn : sws.drop k = [] := List.drop_eq_nil_of_le (by rw [hS]; omega)
      have HES : Hid (es = SE) := by show _ = _; rw [← he.out, hkn]; simp [swEdges]
      have HBE : Hid (es ++ brEdges nl out (brs.drop 0) 0 = ER) := by show _ = _; rw [HES.out, HER.out]; rfl
      have hm0 : m ≤ 32 := by rw [← HM.out, HES.out]; exact hSL
      clear hkn HES HER he
      have x2 := (below_blk hbl.out K1'.out hxb).cell 2 rfl
      go_wp2_with fail
      go_loopw [38, 6] (fun i l wr => ∃ (k : Nat) (es : List Edg), k ≤ bn ∧ i = .int .i64 k ∧ Hid (es ++ brEdges nl out (brs.drop k) k = ER) ∧ es.length ≤ 32 + k ∧ Hid (wr.ownsRow W1.heap.size 178 3 l es.length (flat Edg.cells es)) ∧ Hid (Below W1.heap.size W1 wr)) (fun i _ _ => bn - (intOf i).toNat)
      case atStart => exact ⟨0, es, Nat.zero_le _, rfl, HBE, by rw [HM.out]; omega, by rw [HM.out]; exact how, hbl⟩
      case round =>
        clear x2 hbl how hel HM hm0 hlt hk
        obtain ⟨k, es, hk, rfl, he, hel, how, hbl⟩ := hrel
        obtain ⟨lva, lvc, rfl⟩ := row_slice how.out
        obtain ⟨m, hm⟩ : ∃ m, es.length = m := ⟨_, rfl⟩
        have HM := Lib.hid hm
        rw [hm] at how hel ⊢
        clear hm
        by_cases hlt : k < bn
        ·
          have hlk : k < brs.length := by rw [hB]; exact hlt
          obtain ⟨x, hx⟩ : ∃ x, brs[k]? = some x := ⟨_, List.getElem?_eq_getElem hlk⟩
          have hr := (R2.out.below hbl.out).addr (by omega)
          obtain ⟨g, off, cap', hvv, _, _, _, hc⟩ := hr
          simp only [Value.slice.injEq] at hvv
          obtain ⟨rfl, _, rfl⟩ := hvv
          obtain ⟨c0, c1, c2, c3, c4, c5, c6, c7, c8⟩ := br_cells hc hx
          have hd := brEdges_drop (nl := nl) (out := out) hx
          have hxr := h3 x (List.mem_of_getElem? hx)
          obtain ⟨nm, fr, to, xx, tap, sh, lim, shrt, hold⟩ := x
          simp only at c0 c1 c2 c3 c4 c5 c6 c7 c8 hd hxr
          have HD := Lib.hid hd
          clear hd hx hc
          have e2 := Blk.new wr #[.string nm, .string fr, .string to, .int .i64 xx, .int .i64 tap, .int .i64 sh, .int .i64 lim, .int .i64 shrt, .int .i64 hold] 36
          have hb2 := hbl.out.alloc hbl.out.size (.cells #[.string nm, .string fr, .string to, .int .i64 xx, .int .i64 tap, .int .i64 sh, .int .i64 lim, .int .i64 shrt, .int .i64 hold] 36)
          have ho2 := row_alloc how.out (.cells #[.string nm, .string fr, .string to, .int .i64 xx, .int .i64 tap, .int .i64 sh, .int .i64 lim, .int .i64 shrt, .int .i64 hold] 36)
          have HC1 := Lib.hid (HCO.out k (wr.alloc (.cells #[.string nm, .string fr, .string to, .int .i64 xx, .int .i64 tap, .int .i64 sh, .int .i64 lim, .int .i64 shrt, .int .i64 hold] 36)) hb2)
          have HA1 := Lib.hid (HAT.out fr (wr.alloc (.cells #[.string nm, .string fr, .string to, .int .i64 xx, .int .i64 tap, .int .i64 sh, .int .i64 lim, .int .i64 shrt, .int .i64 hold] 36)).drew ⟨hb2.os, hb2.tape, hb2.output, hb2.size, hb2.block⟩)
          have HA2 := Lib.hid (HAT.out to (wr.alloc (.cells #[.string nm, .string fr, .string to, .int .i64 xx, .int .i64 tap, .int .i64 sh, .int .i64 lim, .int .i64 shrt, .int .i64 hold] 36)).drew ⟨hb2.os, hb2.tape, hb2.output, hb2.size, hb2.block⟩)
          have z0 := e2.cell 1 rfl
          have z1 := e2.cell 2 rfl
          have z2 := e2.cell 3 rfl
          have HE2 := Lib.hid e2
          have HB2 : Hid (Below W1.heap.size W1 (wr.alloc (.cells #[.string nm, .string fr, .string to, .int .i64 xx, .int .i64 tap, .int .i64 sh, .int .i64 lim, .int .i64 shrt, .int .i64 hold] 36)).drew) := ⟨hb2.os, hb2.tape, hb2.output, hb2.size, hb2.block⟩
          have HO2 : Hid ((wr.alloc (.cells #[.string nm, .string fr, .string to, .int .i64 xx, .int .i64 tap, .int .i64 sh, .int .i64 lim, .int .i64 shrt, .int .i64 hold] 36)).drew.ownsRow W1.heap.size 178 3 (.slice lva m lvc) m (flat Edg.cells es)) := ho2
          have HB3 := Lib.hid hb2
          have HO3 := Lib.hid ho2
          have HRL := Lib.hid (row_lt how.out)
          clear e2 hb2 ho2
          cases hin : hasI k out
          ·
            have HDA := Lib.hid (HD.out.trans (if_neg (by rw [hin]; decide)))
            rw [hin] at HC1
            clear hin HD
            go_wp2_with fail
            refine HC1.out.mono ?_; rintro e w' ⟨rfl, rfl⟩
            go_wp2_with fail
            generalize wr.alloc (.cells #[.string nm, .string fr, .string to, .int .i64 xx, .int .i64 tap, .int .i64 sh, .int .i64 lim, .int .i64 shrt, .int .i64 hold] 36) = W2 at *
            have hw := IntWalk.i64_in (1000 * xx) (by omega)
            have HL : Hid ((W2.drew.alloc (.cells #[.int .i64 (idxS fr nl 0), .int .i64 (idxS to nl 0), .int .i64 (1000 * xx)] 178)).ownsRow W1.heap.size 178 3 (.slice lva m lvc) m (flat Edg.cells es)) := row_alloc HO2.out _
            have HBA : Hid (Below W1.heap.size W1 (W2.drew.alloc (.cells #[.int .i64 (idxS fr nl 0), .int .i64 (idxS to nl 0), .int .i64 (1000 * xx)] 178))) := HB2.out.alloc HB2.out.size _
            have N1 : Hid (∀ j u, [Value.int .i64 (idxS fr nl 0), .int .i64 (idxS to nl 0), .int .i64 (1000 * xx)][j]? = some u → (W2.drew.alloc (.cells #[.int .i64 (idxS fr nl 0), .int .i64 (idxS to nl 0), .int .i64 (1000 * xx)] 178)).cell? ((⟨W2.heap.size, 0, none⟩ : Addr).add j) = some u) := (Blk.new W2.drew #[.int .i64 (idxS fr nl 0), .int .i64 (idxS to nl 0), .int .i64 (1000 * xx)] 178).row
            have K4 : Blk (W2.drew.alloc (.cells #[.int .i64 (idxS fr nl 0), .int .i64 (idxS to nl 0), .int .i64 (1000 * xx)] 178)) wr.heap.size #[.string nm, .string fr, .string to, .int .i64 xx, .int .i64 tap, .int .i64 sh, .int .i64 lim, .int .i64 shrt, .int .i64 hold] 36 := (HE2.out.drew).alloc _
            have S1 := Lib.hid K4
            have HKP : Hid (∀ u1, (W2.drew.alloc (.cells #[.int .i64 (idxS fr nl 0), .int .i64 (idxS to nl 0), .int .i64 (1000 * xx)] 178)).grownBy u1 (Value.slice lva m lvc).ownBlock → Blk u1 wr.heap.size #[.string nm, .string fr, .string to, .int .i64 xx, .int .i64 tap, .int .i64 sh, .int .i64 lim, .int .i64 shrt, .int .i64 hold] 36) := fun u1 hg => by
              have := hg.block wr.heap.size S1.out.lt (fun e => Nat.lt_irrefl _ (HRL.out _ e.symm))
              have k4 := S1.out
              unfold Blk at k4 ⊢
              rw [this]; exact k4
            clear K4
            generalize idxS fr nl 0 = ia at *
            generalize idxS to nl 0 = ib at *
            have HL1 : Hid (m + 1 ≤ maxLen) := by show _ ≤ _; unfold maxLen; omega
            have HL2 : Hid ((m + 1) * 24 ≤ 140737488355328) := by show _ ≤ _; omega
            have S0 := Lib.hid HE2.out.drew
            go_region_held_law (fun W => W.cell? ⟨wr.heap.size, 1, none⟩ = some (.string fr) ∧ W.cell? ⟨wr.heap.size, 2, none⟩ = some (.string to) ∧ W.cell? ⟨wr.heap.size, 3, none⟩ = some (.int .i64 xx))
              (first
                | exact ⟨S0.out.cell 1 rfl, S0.out.cell 2 rfl, S0.out.cell 3 rfl⟩
                | exact ⟨S1.out.cell 1 rfl, S1.out.cell 2 rfl, S1.out.cell 3 rfl⟩
                | exact ⟨SU.out.cell 1 rfl, SU.out.cell 2 rfl, SU.out.cell 3 rfl⟩)
              (first
                | (refine step_append_lies _ rfl (.tmp 47) (.tmp 60) 149 rfl W1.heap.size 178 i0 (.agg #[.int .i64 0, .int .i64 0, .int .i64 0]) 3 24 Try.underlying149 hi0 hz0 hz1 hz2 rfl (by decide) (.slice lva m lvc) m (flat Edg.cells es) rfl HL.out ⟨W2.heap.size, 0, none⟩ 1 1 [.int .i64 ia, .int .i64 ib, .int .i64 (1000 * xx)] rfl rfl N1.out (ints_one [ia, ib, 1000 * xx]) (by decide) HL1.out HL2.out HBA.out.size _ rfl ?_; intro g1 cap1 u1 hown1 hgrow1 hat1 hlt1; have HOW := Lib.hid hown1; have HGR := Lib.hid hgrow1; have SU := Lib.hid (HKP.out u1 hgrow1); clear hown1 hgrow1 hat1 hlt1)
                | (go_simp; go_at_call 113; refine HA1.out.mono ?_; rintro e w' ⟨rfl, rfl⟩)
                | (go_simp; go_at_call 113; refine HA2.out.mono ?_; rintro e w' ⟨rfl, rfl⟩))
            all_goals
              go_simp
              go_wp2_with fail
              go_roundw
              case rel => exact ⟨k + 1, es ++ [⟨ia, ib, 1000 * xx⟩], hlt, by go_num, by show _ = _; rw [← he.out, HDA.out]; simp, by rw [List.length_append, HM.out]; simp; omega, by rw [flat_snoc, List.length_append, HM.out]; exact HOW.out, Below.grown HBA.out HGR.out HBA.out.size (row_own HL.out)⟩
              case measure => simp [intOf]; omega
          ·
            have HDA := Lib.hid (HD.out.trans (if_pos hin))
            rw [hin] at HC1
            clear hin HD
            go_wp2_with fail
            refine HC1.out.mono ?_; rintro e w' ⟨rfl, rfl⟩
            go_wp2_with fail
            go_roundw
            case rel => exact ⟨k + 1, es, hlt, by go_num, by show _ = _; rw [← he.out, HDA.out], by rw [HM.out]; omega, by rw [HM.out]; exact HO3, HB3⟩
            case measure => simp [intOf]; omega
        ·
          have hkn : brs.drop k = [] := List.drop_eq_nil_of_le (by rw [hB]; omega)
          have HES : Hid (es = ER) := by show _ = _; rw [← he.out, hkn]; simp [brEdges]
          have hm0 : m ≤ 56 := by omega
          clear hkn he
          go_wp2_with fail
          go_ret
          refine ⟨_, rfl, ?_, belowT BW.out hbl.out⟩
          rw [← HES.out, HM.out]
          exact Reads.of_owns how.out (by omega)
end Go.Proofs.Ytplebibabcdipaa
