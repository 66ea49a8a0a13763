/- zone.edges. -/
import Derived.Test.YtplebibabcdipaaZon3
import Derived.Deep.AppendLies
import Derived.Deep.RegionLaw
import Derived.Deep.RegionHeldLaw
namespace Go.Proofs.Ytplebibabcdipaa
open Go.RowKit

theorem row_lt {W : World} {base : Nat} {e : TypeId} {sz n : Nat} {v : Value} {xs : List Value} (h : W.ownsRow base e sz v n xs) : ∀ j, v.ownBlock = some j → j < W.heap.size := by
  intro j hj
  rcases h.2 with ⟨rfl, _⟩ | ⟨g, cap, cur, rfl, _, hh, _⟩
  · cases hj
  · have : g = j := Option.some.inj hj
    rw [← this]; exact (Array.getElem?_eq_some_iff.1 hh).1
set_option maxHeartbeats 4000000 in
set_option maxRecDepth 100000 in
theorem edges_c (x0 : NAddr) (n : Net) (out : List Int) (v : Value) (w : World) (hr : NetR w x0 n) (h1 : n.sws.length ≤ 32) (h2 : n.brs.length ≤ 24) (h3 : ∀ b ∈ n.brs, 0 ≤ b.x ∧ b.x ≤ 10000) (hv : IVal w v out) :
    Calls Try.prog 86 #[x0.val n, v] w fun e w' => ∃ lv, e = .returned lv ∧ Reads w' lv (edgesR n out).length (flat Edg.cells (edgesR n out)) ∧ Below w.heap.size w w' := by
  obtain ⟨oa, oc, rfl⟩ := hv.slice
  obtain ⟨na, nc, sa, sc, ba, bc, ga, gc, la, lc, ta, tc⟩ := x0
  obtain ⟨nl, sws, brs, gens, loads, stores⟩ := n
  obtain ⟨r0, r1, r2, _, _, _⟩ := hr
  simp only at r0 r1 r2 h1 h2 h3
  obtain ⟨SE, hSE⟩ : ∃ E, swEdges nl sws = E := ⟨_, rfl⟩
  have hER : edgesR ⟨nl, sws, brs, gens, loads, stores⟩ out = SE ++ brEdges nl out brs 0 := by rw [← hSE]; rfl
  have HSE : Hid ([] ++ swEdges nl (sws.drop 0) = SE) := hSE
  have hSL : SE.length ≤ 32 := by rw [← hSE]; have := swEdges_len nl sws; omega
  generalize edgesR ⟨nl, sws, brs, gens, loads, stores⟩ out = ER at *
  have HER := Lib.hid hER
  clear hSE hER
  show Calls _ _ #[netV na nl.length nc sa sws.length sc ba brs.length bc ga gens.length gc la loads.length lc ta stores.length tc, _] _ _
  obtain ⟨nn, hN⟩ : ∃ n, nl.length = n := ⟨_, rfl⟩
  obtain ⟨sn, hS⟩ : ∃ n, sws.length = n := ⟨_, rfl⟩
  obtain ⟨bn, hB⟩ : ∃ n, brs.length = n := ⟨_, rfl⟩
  obtain ⟨on, hO⟩ : ∃ n, out.length = n := ⟨_, rfl⟩
  generalize gens.length = gn at *
  generalize loads.length = ln at *
  generalize stores.length = tn at *
  rw [hN] at r0
  rw [hS] at r1 h1
  rw [hB] at r2 h2
  rw [hN, hS, hB, hO]
  have hvO : Reads w (.slice oa on oc) on (ints out) := by rw [← hO]; exact hv
  have B1 := belowA (Below.refl w.heap.size w) (.cells #[.slice na nn nc, .slice sa sn sc, .slice ba bn bc, .slice ga gn gc, .slice la ln lc, .slice ta tn tc] 29)
  have K1 := Blk.new w #[.slice na nn nc, .slice sa sn sc, .slice ba bn bc, .slice ga gn gc, .slice la ln lc, .slice ta tn tc] 29
  generalize hW1 : w.alloc (.cells #[.slice na nn nc, .slice sa sn sc, .slice ba bn bc, .slice ga gn gc, .slice la ln lc, .slice ta tn tc] 29) = W1 at *
  have R0 := Lib.hid (r0.below B1)
  have R1 := Lib.hid (r1.below B1)
  have R2 := Lib.hid (r2.below B1)
  have HAT : Hid (∀ s W, Below W1.heap.size W1 W → Calls Try.prog 113 #[.string s, .pointer (some ⟨w.heap.size, 0, none⟩)] W fun e w' => e = .returned (.int .i64 (idxS s nl 0)) ∧ w' = W) := fun s W hW =>
    zat_c na nn nc nl s w.heap.size W hN (R0.out.below hW) (by rw [hW.cell (p := ⟨w.heap.size, 0, none⟩) K1.lt]; exact K1.cell 0 rfl)
  have HCO : Hid (∀ s W, Below W1.heap.size W1 W → Calls Try.prog 100 #[.slice oa on oc, .int .i64 s] W fun e w' => e = .returned (.bool (hasI s out)) ∧ W = w') := fun s W hW =>
    containsI_c (.slice oa on oc) out s W (by show Reads _ _ _ _; rw [hO]; exact (hvO.below B1).below hW)
  have BW := Lib.hid B1
  have hxb : w.heap.size < W1.heap.size := K1.lt
  have K1' := Lib.hid K1
  have x1 := K1.cell 1 rfl
  obtain ⟨i0, hi0, hz0, hz1, hz2⟩ := info_parts infoEdge
  clear r0 r1 r2 B1 K1 hv hvO
  go_enter Try.func86, Try.ntmps86
  go_wp2_with fail
  go_loopw [15, 6] (fun i l wr => ∃ (k : Nat) (es : List Edg), k ≤ sn ∧ i = .int .i64 k ∧ Hid (es ++ swEdges nl (sws.drop k) = SE) ∧ es.length ≤ k ∧ Hid (wr.ownsRow W1.heap.size 178 3 l es.length (flat Edg.cells es)) ∧ Hid (Below W1.heap.size W1 wr)) (fun i _ _ => sn - (intOf i).toNat)
  case atStart => exact ⟨0, [], Nat.zero_le _, rfl, HSE, by simp, World.ownsRow_nil _ _ _ _, Below.refl _ _⟩
  case round =>
    clear x1
    obtain ⟨k, es, hk, rfl, he, hel, how, hbl⟩ := hrel
    obtain ⟨lva, lvc, rfl⟩ := row_slice how.out
    obtain ⟨m, hm⟩ : ∃ m, es.length = m := ⟨_, rfl⟩
    have HM := Lib.hid hm
    rw [hm] at how hel ⊢
    clear hm
    by_cases hlt : k < sn
    ·
      have hlk : k < sws.length := by rw [hS]; exact hlt
      obtain ⟨x, hx⟩ : ∃ x, sws[k]? = some x := ⟨_, List.getElem?_eq_getElem hlk⟩
      have hr := (R1.out.below hbl.out).addr (by omega)
      obtain ⟨g, off, cap', hvv, _, _, _, hc⟩ := hr
      simp only [Value.slice.injEq] at hvv
      obtain ⟨rfl, _, rfl⟩ := hvv
      obtain ⟨c0, c1, c2, c3, c4⟩ := sw_cells hc hx
      have hd := swEdges_drop (nl := nl) hx
      obtain ⟨nm, fr, to, bk, op⟩ := x
      simp only at c0 c1 c2 c3 c4 hd
      have HD := Lib.hid hd
      clear hd hx hc
      cases op
      ·
        have hsz2 : (wr.alloc (.cells #[.string nm, .string fr, .string to, .bool bk, .bool false] 82)).heap.size = wr.heap.size + 1 := World.size_alloc _ _
        have e2 := Blk.new wr #[.string nm, .string fr, .string to, .bool bk, .bool false] 82
        have hb2 := hbl.out.alloc hbl.out.size (.cells #[.string nm, .string fr, .string to, .bool bk, .bool false] 82)
        have ho2 := row_alloc how.out (.cells #[.string nm, .string fr, .string to, .bool bk, .bool false] 82)
        have HA1 := Lib.hid (HAT.out fr (wr.alloc (.cells #[.string nm, .string fr, .string to, .bool bk, .bool false] 82)).drew ⟨hb2.os, hb2.tape, hb2.output, hb2.size, hb2.block⟩)
        have HA2 := Lib.hid (HAT.out to (wr.alloc (.cells #[.string nm, .string fr, .string to, .bool bk, .bool false] 82)).drew ⟨hb2.os, hb2.tape, hb2.output, hb2.size, hb2.block⟩)
        have z0 := e2.cell 1 rfl
        have z1 := e2.cell 2 rfl
        have HB2 : Hid (Below W1.heap.size W1 (wr.alloc (.cells #[.string nm, .string fr, .string to, .bool bk, .bool false] 82)).drew) := ⟨hb2.os, hb2.tape, hb2.output, hb2.size, hb2.block⟩
        have HO2 : Hid ((wr.alloc (.cells #[.string nm, .string fr, .string to, .bool bk, .bool false] 82)).drew.ownsRow W1.heap.size 178 3 (.slice lva m lvc) m (flat Edg.cells es)) := ho2
        clear e2 hb2 ho2 hsz2
        go_wp2_with fail
        generalize wr.alloc (.cells #[.string nm, .string fr, .string to, .bool bk, .bool false] 82) = W2 at *
        have HL : Hid ((W2.drew.alloc (.cells #[.int .i64 (idxS fr nl 0), .int .i64 (idxS to nl 0), .int .i64 0] 178)).ownsRow W1.heap.size 178 3 (.slice lva m lvc) m (flat Edg.cells es)) := row_alloc HO2.out _
        have HBA : Hid (Below W1.heap.size W1 (W2.drew.alloc (.cells #[.int .i64 (idxS fr nl 0), .int .i64 (idxS to nl 0), .int .i64 0] 178))) := HB2.out.alloc HB2.out.size _
        have N1 : Hid (∀ j u, [Value.int .i64 (idxS fr nl 0), .int .i64 (idxS to nl 0), .int .i64 0][j]? = some u → (W2.drew.alloc (.cells #[.int .i64 (idxS fr nl 0), .int .i64 (idxS to nl 0), .int .i64 0] 178)).cell? ((⟨W2.heap.size, 0, none⟩ : Addr).add j) = some u) := (Blk.new W2.drew #[.int .i64 (idxS fr nl 0), .int .i64 (idxS to nl 0), .int .i64 0] 178).row
        generalize idxS fr nl 0 = ia at *
        generalize idxS to nl 0 = ib at *
        have HL1 : Hid (m + 1 ≤ maxLen) := by show _ ≤ _; unfold maxLen; omega
        have HL2 : Hid ((m + 1) * 24 ≤ 140737488355328) := by show _ ≤ _; omega
        go_region_law
          (first
            | (refine step_append_lies _ rfl (.tmp 22) (.tmp 32) 149 rfl W1.heap.size 178 i0 (.agg #[.int .i64 0, .int .i64 0, .int .i64 0]) 3 24 Try.underlying149 hi0 hz0 hz1 hz2 rfl (by decide) (.slice lva m lvc) m (flat Edg.cells es) rfl HL.out ⟨W2.heap.size, 0, none⟩ 1 1 [.int .i64 ia, .int .i64 ib, .int .i64 0] rfl rfl N1.out (ints_one [ia, ib, 0]) (by decide) HL1.out HL2.out HBA.out.size _ rfl ?_; intro g1 cap1 u1 hown1 hgrow1 hat1 hlt1; have HOW := Lib.hid hown1; have HGR := Lib.hid hgrow1; clear hown1 hgrow1 hat1 hlt1)
            | (go_simp; go_at_call 113; refine HA1.out.mono ?_; rintro e w' ⟨rfl, rfl⟩)
            | (go_simp; go_at_call 113; refine HA2.out.mono ?_; rintro e w' ⟨rfl, rfl⟩))
        all_goals
          go_simp
          go_wp2_with fail
          go_roundw
          case rel => exact ⟨k + 1, es ++ [⟨ia, ib, 0⟩], hlt, by go_num, by show _ = _; rw [← he.out, HD.out]; simp, by rw [List.length_append, HM.out]; simp; omega, by rw [flat_snoc, List.length_append, HM.out]; exact HOW.out, Below.grown HBA.out HGR.out HBA.out.size (row_own HL.out)⟩
          case measure => simp [intOf]; omega
      ·
        go_wp2_with fail
        go_roundw
        case rel => exact ⟨k + 1, es, hlt, by go_num, by show _ = _; rw [← he.out, HD.out]; rfl, by rw [HM.out]; omega, by rw [HM.out]; exact row_alloc how.out _, hbl.out.alloc hbl.out.size _⟩
        case measure => simp [intOf]; omega
    ·
      have hkn : sws.drop k = [] := List.drop_eq_nil_of_le (by rw [hS]; omega)
      have HES : Hid (es = SE) := by show _ = _; rw [← he.out, hkn]; simp [swEdges]
      have HBE : Hid (es ++ brEdges nl out (brs.drop 0) 0 = ER) := by show _ = _; rw [HES.out, HER.out]; rfl
      have hm0 : m ≤ 32 := by rw [← HM.out, HES.out]; exact hSL
      clear hkn HES HER he
      have x2 := (below_blk hbl.out K1'.out hxb).cell 2 rfl
      go_wp2_with fail
      go_loopw [38, 6] (fun i l wr => ∃ (k : Nat) (es : List Edg), k ≤ bn ∧ i = .int .i64 k ∧ Hid (es ++ brEdges nl out (brs.drop k) k = ER) ∧ es.length ≤ 32 + k ∧ Hid (wr.ownsRow W1.heap.size 178 3 l es.length (flat Edg.cells es)) ∧ Hid (Below W1.heap.size W1 wr)) (fun i _ _ => bn - (intOf i).toNat)
      case atStart => exact ⟨0, es, Nat.zero_le _, rfl, HBE, by rw [HM.out]; omega, by rw [HM.out]; exact how, hbl⟩
      case round =>
        clear x2 hbl how hel HM hm0 hlt hk
        obtain ⟨k, es, hk, rfl, he, hel, how, hbl⟩ := hrel
        obtain ⟨lva, lvc, rfl⟩ := row_slice how.out
        obtain ⟨m, hm⟩ : ∃ m, es.length = m := ⟨_, rfl⟩
        have HM := Lib.hid hm
        rw [hm] at how hel ⊢
        clear hm
        by_cases hlt : k < bn
        ·
          have hlk : k < brs.length := by rw [hB]; exact hlt
          obtain ⟨x, hx⟩ : ∃ x, brs[k]? = some x := ⟨_, List.getElem?_eq_getElem hlk⟩
          have hr := (R2.out.below hbl.out).addr (by omega)
          obtain ⟨g, off, cap', hvv, _, _, _, hc⟩ := hr
          simp only [Value.slice.injEq] at hvv
          obtain ⟨rfl, _, rfl⟩ := hvv
          obtain ⟨c0, c1, c2, c3, c4, c5, c6, c7, c8⟩ := br_cells hc hx
          have hd := brEdges_drop (nl := nl) (out := out) hx
          have hxr := h3 x (List.mem_of_getElem? hx)
          obtain ⟨nm, fr, to, xx, tap, sh, lim, shrt, hold⟩ := x
          simp only at c0 c1 c2 c3 c4 c5 c6 c7 c8 hd hxr
          have HD := Lib.hid hd
          clear hd hx hc
          have e2 := Blk.new wr #[.string nm, .string fr, .string to, .int .i64 xx, .int .i64 tap, .int .i64 sh, .int .i64 lim, .int .i64 shrt, .int .i64 hold] 36
          have hb2 := hbl.out.alloc hbl.out.size (.cells #[.string nm, .string fr, .string to, .int .i64 xx, .int .i64 tap, .int .i64 sh, .int .i64 lim, .int .i64 shrt, .int .i64 hold] 36)
          have ho2 := row_alloc how.out (.cells #[.string nm, .string fr, .string to, .int .i64 xx, .int .i64 tap, .int .i64 sh, .int .i64 lim, .int .i64 shrt, .int .i64 hold] 36)
          have HC1 := Lib.hid (HCO.out k (wr.alloc (.cells #[.string nm, .string fr, .string to, .int .i64 xx, .int .i64 tap, .int .i64 sh, .int .i64 lim, .int .i64 shrt, .int .i64 hold] 36)) hb2)
          have HA1 := Lib.hid (HAT.out fr (wr.alloc (.cells #[.string nm, .string fr, .string to, .int .i64 xx, .int .i64 tap, .int .i64 sh, .int .i64 lim, .int .i64 shrt, .int .i64 hold] 36)).drew ⟨hb2.os, hb2.tape, hb2.output, hb2.size, hb2.block⟩)
          have HA2 := Lib.hid (HAT.out to (wr.alloc (.cells #[.string nm, .string fr, .string to, .int .i64 xx, .int .i64 tap, .int .i64 sh, .int .i64 lim, .int .i64 shrt, .int .i64 hold] 36)).drew ⟨hb2.os, hb2.tape, hb2.output, hb2.size, hb2.block⟩)
          have z0 := e2.cell 1 rfl
          have z1 := e2.cell 2 rfl
          have z2 := e2.cell 3 rfl
          have HE2 := Lib.hid e2
          have HB2 : Hid (Below W1.heap.size W1 (wr.alloc (.cells #[.string nm, .string fr, .string to, .int .i64 xx, .int .i64 tap, .int .i64 sh, .int .i64 lim, .int .i64 shrt, .int .i64 hold] 36)).drew) := ⟨hb2.os, hb2.tape, hb2.output, hb2.size, hb2.block⟩
          have HO2 : Hid ((wr.alloc (.cells #[.string nm, .string fr, .string to, .int .i64 xx, .int .i64 tap, .int .i64 sh, .int .i64 lim, .int .i64 shrt, .int .i64 hold] 36)).drew.ownsRow W1.heap.size 178 3 (.slice lva m lvc) m (flat Edg.cells es)) := ho2
          have HB3 := Lib.hid hb2
          have HO3 := Lib.hid ho2
          have HRL := Lib.hid (row_lt how.out)
          clear e2 hb2 ho2
          cases hin : hasI k out
          ·
            have HDA := Lib.hid (HD.out.trans (if_neg (by rw [hin]; decide)))
            rw [hin] at HC1
            clear hin HD
            go_wp2_with fail
            refine HC1.out.mono ?_; rintro e w' ⟨rfl, rfl⟩
            go_wp2_with fail
            generalize wr.alloc (.cells #[.string nm, .string fr, .string to, .int .i64 xx, .int .i64 tap, .int .i64 sh, .int .i64 lim, .int .i64 shrt, .int .i64 hold] 36) = W2 at *
            have hw := IntWalk.i64_in (1000 * xx) (by omega)
            have HL : Hid ((W2.drew.alloc (.cells #[.int .i64 (idxS fr nl 0), .int .i64 (idxS to nl 0), .int .i64 (1000 * xx)] 178)).ownsRow W1.heap.size 178 3 (.slice lva m lvc) m (flat Edg.cells es)) := row_alloc HO2.out _
            have HBA : Hid (Below W1.heap.size W1 (W2.drew.alloc (.cells #[.int .i64 (idxS fr nl 0), .int .i64 (idxS to nl 0), .int .i64 (1000 * xx)] 178))) := HB2.out.alloc HB2.out.size _
            have N1 : Hid (∀ j u, [Value.int .i64 (idxS fr nl 0), .int .i64 (idxS to nl 0), .int .i64 (1000 * xx)][j]? = some u → (W2.drew.alloc (.cells #[.int .i64 (idxS fr nl 0), .int .i64 (idxS to nl 0), .int .i64 (1000 * xx)] 178)).cell? ((⟨W2.heap.size, 0, none⟩ : Addr).add j) = some u) := (Blk.new W2.drew #[.int .i64 (idxS fr nl 0), .int .i64 (idxS to nl 0), .int .i64 (1000 * xx)] 178).row
            have K4 : Blk (W2.drew.alloc (.cells #[.int .i64 (idxS fr nl 0), .int .i64 (idxS to nl 0), .int .i64 (1000 * xx)] 178)) wr.heap.size #[.string nm, .string fr, .string to, .int .i64 xx, .int .i64 tap, .int .i64 sh, .int .i64 lim, .int .i64 shrt, .int .i64 hold] 36 := (HE2.out.drew).alloc _
            have S1 := Lib.hid K4
            have HKP : Hid (∀ u1, (W2.drew.alloc (.cells #[.int .i64 (idxS fr nl 0), .int .i64 (idxS to nl 0), .int .i64 (1000 * xx)] 178)).grownBy u1 (Value.slice lva m lvc).ownBlock → Blk u1 wr.heap.size #[.string nm, .string fr, .string to, .int .i64 xx, .int .i64 tap, .int .i64 sh, .int .i64 lim, .int .i64 shrt, .int .i64 hold] 36) := fun u1 hg => by
              have := hg.block wr.heap.size S1.out.lt (fun e => Nat.lt_irrefl _ (HRL.out _ e.symm))
              have k4 := S1.out
              unfold Blk at k4 ⊢
              rw [this]; exact k4
            clear K4
            generalize idxS fr nl 0 = ia at *
            generalize idxS to nl 0 = ib at *
            have HL1 : Hid (m + 1 ≤ maxLen) := by show _ ≤ _; unfold maxLen; omega
            have HL2 : Hid ((m + 1) * 24 ≤ 140737488355328) := by show _ ≤ _; omega
            have S0 := Lib.hid HE2.out.drew
            go_region_held_law (fun W => W.cell? ⟨wr.heap.size, 1, none⟩ = some (.string fr) ∧ W.cell? ⟨wr.heap.size, 2, none⟩ = some (.string to) ∧ W.cell? ⟨wr.heap.size, 3, none⟩ = some (.int .i64 xx))
              (first
                | exact ⟨S0.out.cell 1 rfl, S0.out.cell 2 rfl, S0.out.cell 3 rfl⟩
                | exact ⟨S1.out.cell 1 rfl, S1.out.cell 2 rfl, S1.out.cell 3 rfl⟩
                | exact ⟨SU.out.cell 1 rfl, SU.out.cell 2 rfl, SU.out.cell 3 rfl⟩)
              (first
                | (refine step_append_lies _ rfl (.tmp 47) (.tmp 60) 149 rfl W1.heap.size 178 i0 (.agg #[.int .i64 0, .int .i64 0, .int .i64 0]) 3 24 Try.underlying149 hi0 hz0 hz1 hz2 rfl (by decide) (.slice lva m lvc) m (flat Edg.cells es) rfl HL.out ⟨W2.heap.size, 0, none⟩ 1 1 [.int .i64 ia, .int .i64 ib, .int .i64 (1000 * xx)] rfl rfl N1.out (ints_one [ia, ib, 1000 * xx]) (by decide) HL1.out HL2.out HBA.out.size _ rfl ?_; intro g1 cap1 u1 hown1 hgrow1 hat1 hlt1; have HOW := Lib.hid hown1; have HGR := Lib.hid hgrow1; have SU := Lib.hid (HKP.out u1 hgrow1); clear hown1 hgrow1 hat1 hlt1)
                | (go_simp; go_at_call 113; refine HA1.out.mono ?_; rintro e w' ⟨rfl, rfl⟩)
                | (go_simp; go_at_call 113; refine HA2.out.mono ?_; rintro e w' ⟨rfl, rfl⟩))
            all_goals
              go_simp
              go_wp2_with fail
              go_roundw
              case rel => exact ⟨k + 1, es ++ [⟨ia, ib, 1000 * xx⟩], hlt, by go_num, by show _ = _; rw [← he.out, HDA.out]; simp, by rw [List.length_append, HM.out]; simp; omega, by rw [flat_snoc, List.length_append, HM.out]; exact HOW.out, Below.grown HBA.out HGR.out HBA.out.size (row_own HL.out)⟩
              case measure => simp [intOf]; omega
          ·
            have HDA := Lib.hid (HD.out.trans (if_pos hin))
            rw [hin] at HC1
            clear hin HD
            go_wp2_with fail
            refine HC1.out.mono ?_; rintro e w' ⟨rfl, rfl⟩
            go_wp2_with fail
            go_roundw
            case rel => exact ⟨k + 1, es, hlt, by go_num, by show _ = _; rw [← he.out, HDA.out], by rw [HM.out]; omega, by rw [HM.out]; exact HO3, HB3⟩
            case measure => simp [intOf]; omega
        ·
          have hkn : brs.drop k = [] := List.drop_eq_nil_of_le (by rw [hB]; omega)
          have HES : Hid (es = ER) := by show _ = _; rw [← he.out, hkn]; simp [brEdges]
          have hm0 : m ≤ 56 := by omega
          clear hkn he
          go_wp2_with fail
          go_ret
          refine ⟨_, rfl, ?_, belowT BW.out hbl.out⟩
          rw [← HES.out, HM.out]
          exact Reads.of_owns how.out (by omega)
end Go.Proofs.Ytplebibabcdipaa
