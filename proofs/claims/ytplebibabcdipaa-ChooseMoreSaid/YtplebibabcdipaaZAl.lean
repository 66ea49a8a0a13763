/- gridhallref2.Branch; what ZoneAlong needs in plain Lean. -/
import Derived.Test.YtplebibabcdipaaLawZFinds
import Derived.Deep.RegionLaw
namespace Go.Proofs.Ytplebibabcdipaa
open Go.RowKit

set_option maxHeartbeats 2000000 in
theorem refBranch_c (x0 : NAddr) (n : Net) (nm : ByteArray) (w : World) (hr : NetR w x0 n) :
    Calls Try.prog 15 #[x0.val n, .string nm] w fun e w' => e = .returned (.int .i64 (brAt n nm)) ∧ Below w.heap.size w w' := by
  have r2 := hr.brs
  clear hr
  obtain ⟨na, nc, sa, sc, ba, bc, ga, gc, la, lc, ta, tc⟩ := x0
  obtain ⟨nl, sws, brs, gens, loads, stores⟩ := n
  have HE : Hid (idxP (fun b : NBr => sameB b.name nm) (brs.drop 0) (0 : Nat) = brAt ⟨nl, sws, brs, gens, loads, stores⟩ nm) := rfl
  generalize brAt ⟨nl, sws, brs, gens, loads, stores⟩ nm = E at *
  simp only [NAddr.val] at r2 ⊢
  generalize nl.length = nn at *
  generalize sws.length = sn at *
  obtain ⟨bn, hB⟩ : ∃ n, brs.length = n := ⟨_, rfl⟩
  have HB := Lib.hid hB
  rw [hB] at r2 ⊢
  generalize gens.length = gn at *
  generalize loads.length = ln at *
  generalize stores.length = tn at *
  clear hB
  have B1 := Lib.hid (belowA (Below.refl w.heap.size w) (.cells #[.slice na nn nc, .slice sa sn sc, .slice ba bn bc, .slice ga gn gc, .slice la ln lc, .slice ta tn tc] 29))
  have K1 := Blk.new w #[.slice na nn nc, .slice sa sn sc, .slice ba bn bc, .slice ga gn gc, .slice la ln lc, .slice ta tn tc] 29
  generalize hW1 : w.alloc (.cells #[.slice na nn nc, .slice sa sn sc, .slice ba bn bc, .slice ga gn gc, .slice la ln lc, .slice ta tn tc] 29) = W1 at *
  have R2 := Lib.hid (r2.below B1.out)
  have hbn : bn ≤ 9223372036854775807 := by
    rcases r2 with ⟨h, _⟩ | ⟨_, _, _, _, _, h, _⟩
    · omega
    · exact h
  have x2 := K1.cell 2 rfl
  clear r2 K1
  go_enter Try.func15, Try.ntmps15
  go_wp2_with fail
  go_loopw [10] (fun i wr => ∃ k : Nat, k ≤ bn ∧ i = .int .i64 k ∧ Hid (idxP (fun b : NBr => sameB b.name nm) (brs.drop k) k = E) ∧ Hid (Below W1.heap.size W1 wr)) (fun i _ => bn - (intOf i).toNat)
  case atStart => exact ⟨0, Nat.zero_le _, rfl, HE, Below.refl _ _⟩
  case round =>
    clear x2
    obtain ⟨k, hk, rfl, he, hb⟩ := hrel
    by_cases hlt : k < bn
    · obtain ⟨g, off, cap', hvv, _, _, hbl, hc⟩ := (R2.out.below hb.out).addr (by omega)
      simp only [Value.slice.injEq] at hvv
      obtain ⟨rfl, _, rfl⟩ := hvv
      obtain ⟨x, hx⟩ : ∃ x, brs[k]? = some x := ⟨_, List.getElem?_eq_getElem (by rw [HB.out]; exact hlt)⟩
      obtain ⟨c0, c1, c2, c3, c4, c5, c6, c7, c8⟩ := br_cells hc hx
      have hd := idxP_drop (P := fun b : NBr => sameB b.name nm) hx
      obtain ⟨n0, fr, tt, y3, y4, y5, y6, y7, y8⟩ := x
      simp only at c0 c1 c2 c3 c4 c5 c6 c7 c8 hd
      have HD : Hid (idxP (fun b : NBr => sameB b.name nm) (brs.drop k) k = if (n0.toList == nm.toList) = true then (k : Int) else idxP (fun b : NBr => sameB b.name nm) (brs.drop (k + 1)) ((k + 1 : Nat) : Int)) := hd
      clear hd hc hx
      cases hq : (n0.toList == nm.toList)
      · have HN := Lib.hid (HD.out.trans (if_neg (by rw [hq]; decide)))
        go_wp2_with fail
        go_roundw
        case rel => exact ⟨k + 1, hlt, by go_num, by show _ = _; rw [← he.out, HN.out], belowA hb.out _⟩
        case measure => simp [intOf]; omega
      · have HN := Lib.hid (he.out.symm.trans (HD.out.trans (if_pos hq)))
        go_wp2_with fail
        go_ret
        exact ⟨by rw [HN.out]; rfl, belowT B1.out (belowA hb.out _)⟩
    · have hkn : brs.drop k = [] := List.drop_eq_nil_of_le (by rw [HB.out]; omega)
      have HX : Hid (E = -1) := by show _ = _; rw [← he.out, hkn]; rfl
      clear he hkn
      go_wp2_with fail
      go_ret
      exact ⟨by rw [HX.out]; rfl, belowT B1.out hb.out⟩

theorem br_ne {n : Net} (h : netE n = 0) : ∀ b ∈ n.brs, sameB b.fr b.to = false := by
  unfold netE at h
  split at h
  · cases h
  · simp only at h
    split at h
    · rename_i ha; exact absurd h ha
    · split at h
      · rename_i ha; exact absurd h ha
      · split at h
        · rename_i ha; exact absurd h ha
        · rename_i hbr
          intro b hb
          obtain ⟨_, h2⟩ := devAll_ok n.brs _ (by simpa using hbr) b hb
          unfold NBr.test at h2
          split at h2
          · cases h2
          · rename_i hs; simpa using hs
theorem sameB_self (s : ByteArray) : sameB s s = true := (Lib.bytes_beq_iff s s).2 rfl
theorem sameB_eq {s t : ByteArray} (h : sameB s t = true) : s = t := (Lib.bytes_beq_iff s t).1 h
/-- Seen from both ends of its branch, a place is at the distances x * part and x * (1000 - part). -/
theorem along {n : Net} {p : Plc} {k : Nat} {b : NBr} (h : placeE n p = 0) (hk : brAt n p.branch = k) (hb : n.brs[k]? = some b) :
    distE n ⟨b.fr, b.name, [⟨1, 0⟩]⟩ p = (b.x * p.part, 0) ∧ distE n ⟨b.to, b.name, [⟨1, 0⟩]⟩ p = (b.x * (1000 - p.part), 0) := by
  have hpo := placeE_ok h
  obtain ⟨k', b', hk', hb', hs⟩ := hpo.br
  have hkk : k' = k := by omega
  subst hkk
  have hbb : b' = b := by rw [hb'] at hb; exact Option.some.inj hb
  subst hbb
  have hn : b'.name = p.branch := sameB_eq hs
  have hne := br_ne hpo.net b' (List.mem_of_getElem? hb')
  have hne2 : sameB b'.to b'.fr = false := by
    cases hq : sameB b'.to b'.fr
    · rfl
    · have := sameB_eq hq; rw [this, sameB_self] at hne; cases hne
  have hz : zonesE none [(⟨1, 0⟩ : ZSt)] = 0 := by decide
  have key : ∀ node, (badEnd node b' = false) → relayE n ⟨node, b'.name, [⟨1, 0⟩]⟩ = 0 := fun node hbe => by
    unfold relayE
    simp only [hn]
    rw [hpo.net, brOf_eq hk' hb', hk', hbe, hz]
    simp
  have k1 : badEnd b'.fr b' = false := by unfold badEnd; rw [sameB_self]; rfl
  have k2 : badEnd b'.to b' = false := by unfold badEnd; rw [sameB_self, hne2]; rfl
  have d : ∀ node, distR n ⟨node, b'.name, [⟨1, 0⟩]⟩ p = if sameB node b'.fr = true then (b'.x * p.part, true) else (b'.x * (1000 - p.part), true) := fun node => by
    unfold distR distB
    simp only [hn]
    rw [if_pos trivial, brOf_eq hk' hb']
  constructor
  · unfold distE chkE
    rw [key _ k1, h, d, sameB_self]
    simp
  · unfold distE chkE
    rw [key _ k2, h, d, hne2]
    simp
end Go.Proofs.Ytplebibabcdipaa
