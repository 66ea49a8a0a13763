/- The law ZoneCovered walked. -/
import Derived.Test.YtplebibabcdipaaLawZFinds
namespace Go.Proofs.Ytplebibabcdipaa
open Go.RowKit

/-- What gridhallref2.HasInt answers. -/
def refHas (l : List Int) (s : Int) : Bool := l.any (fun x => x == s)
theorem refHas_iff {l : List Int} {s : Int} : refHas l s = true ↔ s ∈ l := by
  unfold refHas
  rw [List.any_eq_true]
  constructor
  · rintro ⟨x, h1, h2⟩; rw [← (beq_iff_eq).1 h2]; exact h1
  · intro h; exact ⟨s, h, by simp⟩
theorem refHas_drop {l : List Int} {k : Nat} {s : Int} (h : k < l.length) : refHas (l.drop k) s = ((l.getD k 0 == s) || refHas (l.drop (k + 1)) s) := by
  unfold refHas
  rw [List.drop_eq_getElem_cons h, List.any_cons]
  simp [h]
set_option maxHeartbeats 400000 in
theorem refHas_c (a : Option Addr) (m c : Nat) (l : List Int) (s : Int) (w : World) (hl : l.length = m) (hv : Reads w (.slice a m c) m (ints l)) :
    Calls Try.prog 20 #[.slice a m c, .int .i64 s] w fun e w' => e = .returned (.bool (refHas l s)) ∧ w = w' := by
  have hn : m ≤ 9223372036854775807 := by
    rcases hv with ⟨h, _⟩ | ⟨_, _, _, _, _, h, _⟩
    · omega
    · exact h
  have HE : Hid (refHas (l.drop 0) s = refHas l s) := rfl
  generalize refHas l s = E at *
  have HV := Lib.hid hv
  have HL := Lib.hid hl
  clear hv hl
  go_enter Try.func20, Try.ntmps20
  go_wp2_with fail
  go_loopw [9] (fun i wr => ∃ k : Nat, k ≤ m ∧ i = .int .i64 k ∧ Hid (refHas (l.drop k) s = E) ∧ w = wr) (fun i _ => m - (intOf i).toNat)
  case atStart => exact ⟨0, Nat.zero_le _, rfl, HE, rfl⟩
  case round =>
    obtain ⟨k, hk, rfl, he, rfl⟩ := hrel
    by_cases hlt : k < m
    · obtain ⟨b, off, cap', hvv, _, _, hbl, hc⟩ := HV.out.addr (by omega)
      simp only [Value.slice.injEq] at hvv
      obtain ⟨rfl, _, rfl⟩ := hvv
      have hlk : k < l.length := by rw [HL.out]; exact hlt
      have x0 := hc k _ (ints_get hlk)
      have hd := refHas_drop (s := s) hlk
      generalize l.getD k 0 = x at *
      have HD := Lib.hid hd
      clear hd hc
      cases hp : (x == s)
      · have HP : Hid (refHas (l.drop (k + 1)) s = E) := by show _ = _; rw [← he.out, HD.out, hp]; rfl
        go_wp2_with fail
        go_roundw
        case rel => exact ⟨k + 1, by omega, by go_num, HP, by first | rfl | trivial⟩
        case measure => simp [intOf]; omega
      · have HP : Hid (E = true) := by show _ = _; rw [← he.out, HD.out, hp]; rfl
        go_wp2_with fail
        go_ret
        exact ⟨by rw [HP.out]; rfl, rfl⟩
    · have hkn : l.drop k = [] := List.drop_eq_nil_of_le (by rw [HL.out]; omega)
      have HX : Hid (E = false) := by show _ = _; rw [← he.out, hkn]; rfl
      clear he hkn
      go_wp2_with fail
      go_ret
      exact ⟨by rw [HX.out]; rfl, rfl⟩

theorem RelsR.take {w : World} {a : Option Addr} {N c k : Nat} {l : List ZRA} (h : RelsR w (.slice a N c) l) (hN : l.length = N) (hk : k ≤ N) : RelsR w (.slice a k c) (l.take k) := by
  refine ⟨?_, fun r hr => h.2 r (List.mem_of_mem_take hr)⟩
  have hlen : (l.take k).length = k := by rw [List.length_take]; omega
  rw [hlen]
  rcases h.1 with ⟨h0, _, a', c', e⟩ | ⟨g, off, cap, e, h1, h2, h3, h4⟩
  · simp only [Value.slice.injEq] at e
    have : k = 0 := by omega
    subst this
    exact Or.inl ⟨rfl, by simp [flat], a, c, rfl⟩
  · simp only [Value.slice.injEq] at e
    obtain ⟨rfl, e2, rfl⟩ := e
    refine Or.inr ⟨g, off, c, rfl, by omega, by omega, h3, fun j u hj => h4 j u ?_⟩
    have hl : j < (flat ZRA.cells (l.take k)).length := (List.getElem?_eq_some_iff.1 hj).1
    have e3 : flat ZRA.cells l = flat ZRA.cells (l.take k) ++ flat ZRA.cells (l.drop k) := by
      conv => lhs; rw [← List.take_append_drop k l]
      unfold flat; rw [List.flatMap_append]
    rw [e3, List.getElem?_append_left hl]; exact hj
theorem RelsR.cap {w : World} {a : Option Addr} {N c : Nat} {l : List ZRA} (h : RelsR w (.slice a N c) l) (hN : l.length = N) (h0 : 0 < N) : N ≤ c := by
  obtain ⟨g, off, cap, e, h1, _⟩ := h.1.addr (by omega)
  cases e; rw [← hN]; exact h1
theorem timeE_nonneg {n : Net} {r : ZRel} {p : Plc} (h : (timeE n r p).2 = 0) : 0 ≤ (timeE n r p).1 := by
  have h2 : (findE n r p).2 = 0 := by rw [← timeE_find]; exact h
  obtain ⟨hd, k, z, hk, hz, _⟩ := findE_ok h2
  have hb := zBad_range (zonesE_ok _ _ (distE_ok hd).1.zs z (List.mem_of_getElem? hz))
  unfold timeE
  rw [if_neg (fun hn => hn h2), hk]
  simp [hz]
  omega

set_option maxHeartbeats 8000000 in
set_option maxRecDepth 100000 in
theorem zoneCovered_c (x0 : NAddr) (n : Net) (l0 : List ZRA) (lv : Value) (pbr : ByteArray) (part : Int) (w : World) (hr : NetR w x0 n) (hwf : n.Wf) (hl : RelsR w lv l0) :
    Calls Try.prog 6 #[x0.val n, lv, .agg #[.string pbr, .int .i64 part]] w fun e w' => e = .returned (.bool true) ∧ Below w.heap.size w w' := by
  obtain ⟨ra, rc, rfl⟩ := hl.1.slice
  have HCO := Lib.hid (fun (l : List ZRA) lv W (hW : Below w.heap.size w W) hl h6 => covered_c x0 n l lv pbr part W (hr.below hW) hwf hl h6)
  have HTM := Lib.hid (fun (x : ZRA) W (hW : Below w.heap.size w W) hz => time_c x0 n x.node x.branch pbr x.za x.zc x.zs part W (hr.below hW) hwf hz)
  have HNN : Hid (∀ r : ZRel, (timeE n r ⟨pbr, part⟩).2 = 0 → 0 ≤ (timeE n r ⟨pbr, part⟩).1) := fun r h => timeE_nonneg h
  obtain ⟨N0, hN0⟩ : ∃ k, l0.length = k := ⟨_, rfl⟩
  have HN0 := Lib.hid hN0
  rw [hN0] at hl ⊢
  have HRL := Lib.hid hl
  have hcap : 0 < N0 → N0 ≤ rc := fun h => hl.cap hN0 h
  have hmx : N0 ≤ 9223372036854775807 := by
    rcases hl.1 with ⟨h, _⟩ | ⟨_, _, _, _, _, h, _⟩
    · omega
    · omega
  clear hr hwf hl hN0
  obtain ⟨na, nc, sa, sc, ba, bc, ga, gc, la, lc, ta, tc⟩ := x0
  obtain ⟨nl, sws, brs, gens, loads, stores⟩ := n
  simp only [NAddr.val] at HCO HTM ⊢
  generalize nl.length = nn at *
  generalize sws.length = sn at *
  generalize brs.length = bn at *
  generalize gens.length = gn at *
  generalize loads.length = ln at *
  generalize stores.length = tn at *
  have B1 := belowA (Below.refl w.heap.size w) (.cells #[.slice na nn nc, .slice sa sn sc, .slice ba bn bc, .slice ga gn gc, .slice la ln lc, .slice ta tn tc] 29)
  have K1 := Blk.new w #[.slice na nn nc, .slice sa sn sc, .slice ba bn bc, .slice ga gn gc, .slice la ln lc, .slice ta tn tc] 29
  generalize hW1 : w.alloc (.cells #[.slice na nn nc, .slice sa sn sc, .slice ba bn bc, .slice ga gn gc, .slice la ln lc, .slice ta tn tc] 29) = W1 at *
  have B2 := Lib.hid (belowA B1 (.cells #[.string pbr, .int .i64 part] 31))
  have K2 := Lib.hid (K1.alloc (.cells #[.string pbr, .int .i64 part] 31))
  have M2 := Lib.hid (Blk.new W1 #[.string pbr, .int .i64 part] 31)
  generalize hW2 : W1.alloc (.cells #[.string pbr, .int .i64 part] 31) = W2 at *
  clear B1 K1
  go_enter Try.func6, Try.ntmps6
  go_upto_region 1 with fail
  go_cut [1] from 18 to 22 (fun s1 wx => ∃ (l : List ZRA) (N : Nat), l.length = N ∧ N ≤ 6 ∧ s1 = .slice ra N rc ∧ Hid (RelsR W2 (.slice ra N rc) l) ∧ W2 = wx)
  case first =>
    by_cases h6 : 6 < N0
    · have hc6 : 6 ≤ rc := by have := hcap (by omega); omega
      have HT := Lib.hid ((HRL.out.take HN0.out (Nat.le_of_lt h6)).below B2.out)
      have hlen : (l0.take 6).length = 6 := by rw [List.length_take, HN0.out]; omega
      go_wp2_with fail
      go_meet
      exact ⟨l0.take 6, 6, hlen, by omega, rfl, HT, rfl⟩
    · have hcc : N0 ≤ rc := by
        rcases Nat.eq_zero_or_pos N0 with h | h
        · omega
        · exact hcap h
      have HT := Lib.hid (HRL.out.below B2.out)
      go_wp2_with fail
      go_meet
      exact ⟨l0, N0, HN0.out, by omega, rfl, HT, rfl⟩
  case rest =>
    obtain ⟨l, N, hN, hN6, rfl, hrl, rfl⟩ := hcut
    have HN := Lib.hid hN
    obtain ⟨T, hT⟩ : ∃ T, timeAt ⟨nl, sws, brs, gens, loads, stores⟩ l ⟨pbr, part⟩ = T := ⟨_, rfl⟩
    have HTA : Hid (∀ i x, l[i]? = some x → timeE ⟨nl, sws, brs, gens, loads, stores⟩ x.rel ⟨pbr, part⟩ = T i) := fun i x hx => by rw [← hT]; unfold timeAt; simp [hx]
    have HNG : Hid (∀ i, (T i).2 = 0 → 0 ≤ (T i).1) := fun i h => by rw [← hT] at h ⊢; exact HNN.out _ h
    have HCV : Hid (∀ W, Below W2.heap.size W2 W → Calls Try.prog 19 #[netV na nn nc sa sn sc ba bn bc ga gn gc la ln lc ta tn tc, .slice ra N rc, .agg #[.string pbr, .int .i64 part]] W fun e w' =>
        ∃ (a : Option Addr) (m c : Nat) (r : List Int) (E : Int), e = .returned (.tuple #[.slice a m c, .int .i64 E]) ∧ Below W.heap.size W w' ∧ r.length = m ∧ Reads w' (.slice a m c) m (ints r) ∧ (E ≠ 0 → m = 0) ∧ (E = 0 → (∀ x, x ∈ r ↔ x ∈ okL T N) ∧ SrtTo (fun x => (T x.toNat).1) m r)) := fun W hW => by
      refine (HCO.out l (.slice ra N rc) W (belowT B2.out hW) (hrl.out.below hW) (by omega)).mono ?_
      rintro e w' ⟨a, m, c, r, he, hb, h1, h2, h3, h4⟩
      rw [hT, hN] at h4
      exact ⟨a, m, c, r, _, he, hb, h1, h2, h3, h4⟩
    have HTC : Hid (∀ i x, l[i]? = some x → ∀ W, Below W2.heap.size W2 W → Calls Try.prog 18 #[netV na nn nc sa sn sc ba bn bc ga gn gc la ln lc ta tn tc, .agg #[.string x.node, .string x.branch, .slice x.za x.zs.length x.zc], .agg #[.string pbr, .int .i64 part]] W fun e w' => e = .returned (.tuple #[.int .i64 (T i).1, .int .i64 (T i).2]) ∧ Below W.heap.size W w') := fun i x hx W hW => by
      rw [← HTA.out i x hx]
      exact HTM.out x W (belowT B2.out hW) ((hrl.out.2 x (List.mem_of_getElem? hx)).below hW)
    have HL := Lib.hid hrl.out.1
    rw [hN] at HL
    clear hT HTA HNN HCO HTM hrl HRL HN0 hcap hmx hN
    go_wp2_with fail
    refine (zoneWorks_c W2).mono ?_; rintro e w4 ⟨rfl, hb4⟩
    have B4 := Lib.hid hb4
    have x0 := (below_blk B4.out K2.out K2.out.lt).cell 0 rfl
    have x1 := (below_blk B4.out K2.out K2.out.lt).cell 1 rfl
    have x2 := (below_blk B4.out K2.out K2.out.lt).cell 2 rfl
    have x3 := (below_blk B4.out K2.out K2.out.lt).cell 3 rfl
    have x4 := (below_blk B4.out K2.out K2.out.lt).cell 4 rfl
    have x5 := (below_blk B4.out K2.out K2.out.lt).cell 5 rfl
    have p0 := (below_blk B4.out M2.out M2.out.lt).cell 0 rfl
    have p1 := (below_blk B4.out M2.out M2.out.lt).cell 1 rfl
    clear hb4
    go_wp2_with fail
    refine (HCV.out w4 B4.out).mono ?_; rintro e w5 ⟨a, m, c, r, E, rfl, hb5, hrm, hrd, he0, he1⟩
    have B5 := Lib.hid (belowT B4.out hb5)
    have HRD := Lib.hid hrd
    have HRM := Lib.hid hrm
    clear x0 x1 x2 x3 x4 x5 p0 p1 hb5 hrd hrm B4 HCV
    by_cases hE : E = 0
    · have g1 : (E != 0) = false := by simp [hE]
      have HOK := Lib.hid (he1 hE).1
      have HSR := Lib.hid (he1 hE).2
      clear he0 he1 hE
      have hm9 : m ≤ 9223372036854775807 := by
        rcases HRD.out with ⟨h, _⟩ | ⟨_, _, _, _, _, h, _⟩
        · omega
        · exact h
      have HSB : Hid (∀ W, Below W2.heap.size W2 W → Blk W w.heap.size #[.slice na nn nc, .slice sa sn sc, .slice ba bn bc, .slice ga gn gc, .slice la ln lc, .slice ta tn tc] 29 ∧ Blk W W1.heap.size #[.string pbr, .int .i64 part] 31) := fun W hW => ⟨below_blk hW K2.out K2.out.lt, below_blk hW M2.out M2.out.lt⟩
      go_wp2_with fail
      go_loopw [39, 9] (fun i la9 wr => ∃ (j : Nat) (last : Int), j ≤ m ∧ i = .int .i64 j ∧ la9 = .int .i64 last ∧ Hid ((j = 0 ∧ last = -1) ∨ (∃ q, j = q + 1 ∧ last = (T (r.getD q 0).toNat).1)) ∧ Hid (Below w5.heap.size w5 wr)) (fun i _ _ => m - (intOf i).toNat)
      case atStart => exact ⟨0, -1, Nat.zero_le _, rfl, rfl, Or.inl ⟨rfl, rfl⟩, Below.refl _ _⟩
      case round =>
        obtain ⟨j, last, hj, rfl, rfl, hlast, hbl⟩ := hrel
        have B6 := Lib.hid (belowT B5.out hbl.out)
        by_cases hlt : j < m
        ·
          obtain ⟨cg, coff, ccap, cvv, _, _, hcgl, hcc⟩ := (HRD.out.below hbl.out).addr (by omega)
          simp only [Value.slice.injEq] at cvv
          obtain ⟨rfl, _, rfl⟩ := cvv
          have hjr : j < r.length := by rw [HRM.out]; exact hlt
          have z0 := hcc j _ (ints_get hjr)
          obtain ⟨i, hi, hiN, hti⟩ := okL_mem.1 ((HOK.out (r.getD j 0)).1 (getD_mem hjr))
          obtain ⟨x, hx⟩ : ∃ x, l[i]? = some x := ⟨_, List.getElem?_eq_getElem (by rw [HN.out]; exact hiN)⟩
          obtain ⟨g, off, cap', hvv, _, _, hgl, hc⟩ := (HL.out.below B6.out).addr (by omega)
          simp only [Value.slice.injEq] at hvv
          obtain ⟨rfl, _, rfl⟩ := hvv
          have hcl := zra_cells hc hx
          have HC := Lib.hid (HTC.out i x hx)
          obtain ⟨nd, br, za, zc, zs⟩ := x
          simp only at hcl HC
          have HCL := Lib.hid hcl
          have HS9 : Hid (∀ W, Below wr.heap.size wr W → (W.cell? ⟨w.heap.size, 0, none⟩ = some (.slice na nn nc) ∧ W.cell? ⟨w.heap.size, 1, none⟩ = some (.slice sa sn sc) ∧ W.cell? ⟨w.heap.size, 2, none⟩ = some (.slice ba bn bc) ∧ W.cell? ⟨w.heap.size, 3, none⟩ = some (.slice ga gn gc) ∧ W.cell? ⟨w.heap.size, 4, none⟩ = some (.slice la ln lc) ∧ W.cell? ⟨w.heap.size, 5, none⟩ = some (.slice ta tn tc) ∧ W.cell? ⟨W1.heap.size, 0, none⟩ = some (.string pbr) ∧ W.cell? ⟨W1.heap.size, 1, none⟩ = some (.int .i64 part) ∧ W.cell? ⟨g, off + i * 3, none⟩ = some (.string nd) ∧ W.cell? ⟨g, off + i * 3 + 1, none⟩ = some (.string br) ∧ W.cell? ⟨g, off + i * 3 + 2, none⟩ = some (.slice za zs.length zc))) := fun W hW => by
            obtain ⟨kk, mm⟩ := HSB.out W (belowT B6.out hW)
            have cc : ∀ q, W.cell? ⟨g, q, none⟩ = wr.cell? ⟨g, q, none⟩ := fun q => hW.cell (p := ⟨g, q, none⟩) hgl
            obtain ⟨y0, y1, y2⟩ := HCL.out
            exact ⟨kk.cell 0 rfl, kk.cell 1 rfl, kk.cell 2 rfl, kk.cell 3 rfl, kk.cell 4 rfl, kk.cell 5 rfl, mm.cell 0 rfl, mm.cell 1 rfl, (cc _).trans y0, (cc _).trans y1, (cc _).trans y2⟩
          have HNL : Hid (last ≤ (T i).1) := by
            show _ ≤ _
            rcases hlast.out with ⟨h1, h2⟩ | ⟨q, h1, h2⟩
            · have := HNG.out i hti; omega
            · have hs := HSR.out q j (by omega) hlt
              simp only at hs
              rw [← h2, hi] at hs
              simpa using hs
          have HLN : Hid ((T i).1 = (T (r.getD j 0).toNat).1) := by show _ = _; rw [hi]; rfl
          rw [hi] at z0
          rw [hti] at HC
          clear hc hcl hcc hx hi hlast
          generalize (T i).1 = t at *
          have g2 : decide ((i : Int) < 0) = false := decide_eq_false (by omega)
          have g3 : decide ((N : Int) ≤ (i : Int)) = false := decide_eq_false (by omega)
          have g4 : decide (t < last) = false := decide_eq_false (by have := HNL.out; omega)
          go_upto_region 13 with fail
          go_cut [12, 13] from 40 to 69 (fun s12 s13 wx => s12 = .int .i64 t ∧ s13 = .int .i64 0 ∧ Hid (Below wr.heap.size wr wx))
          case first =>
            have D0 : Hid (Below wr.heap.size wr wr.drew) := ⟨rfl, rfl, rfl, Nat.le_refl _, fun _ _ => rfl⟩
            go_region_held3 (fun W => (W.cell? ⟨w.heap.size, 0, none⟩ = some (.slice na nn nc) ∧ W.cell? ⟨w.heap.size, 1, none⟩ = some (.slice sa sn sc) ∧ W.cell? ⟨w.heap.size, 2, none⟩ = some (.slice ba bn bc) ∧ W.cell? ⟨w.heap.size, 3, none⟩ = some (.slice ga gn gc) ∧ W.cell? ⟨w.heap.size, 4, none⟩ = some (.slice la ln lc) ∧ W.cell? ⟨w.heap.size, 5, none⟩ = some (.slice ta tn tc) ∧ W.cell? ⟨W1.heap.size, 0, none⟩ = some (.string pbr) ∧ W.cell? ⟨W1.heap.size, 1, none⟩ = some (.int .i64 part) ∧ W.cell? ⟨g, off + i * 3, none⟩ = some (.string nd) ∧ W.cell? ⟨g, off + i * 3 + 1, none⟩ = some (.string br) ∧ W.cell? ⟨g, off + i * 3 + 2, none⟩ = some (.slice za zs.length zc)))
              (first
                | exact HS9.out _ D0.out
                | exact HS9.out _ D1.out)
              (first
                | (go_at_call 18; refine (HC.out wr.drew (belowT B6.out D0.out)).mono ?_; rintro e w7 ⟨rfl, hb7⟩; have D1 := Lib.hid (belowT D0.out hb7); clear hb7))
            all_goals
              go_simp
              go_wp2_with fail
              go_meet
              exact ⟨rfl, rfl, D1⟩
          case rest =>
            obtain ⟨rfl, rfl, hbx⟩ := hcut
            go_wp2_with fail
            go_roundw
            case rel => exact ⟨j + 1, t, hlt, by go_num, rfl, Or.inr ⟨j, rfl, HLN.out⟩, belowT hbl.out hbx.out⟩
            case measure => simp [intOf]; omega
        ·
          have HBL := Lib.hid hbl.out
          clear hlast hbl
          go_wp2_with fail
          clear hlt hj
          rename_i wq
          go_loopw [72] (fun i wr => ∃ k : Nat, k ≤ N ∧ i = .int .i64 k ∧ Hid (Below w5.heap.size w5 wr)) (fun i _ => N - (intOf i).toNat)
          case atStart => exact ⟨0, Nat.zero_le _, rfl, HBL⟩
          case round =>
            clear HBL B6
            obtain ⟨k, hk, rfl, hbl⟩ := hrel
            have B6 := Lib.hid (belowT B5.out hbl.out)
            by_cases hlt : k < N
            ·
              obtain ⟨x, hx⟩ : ∃ x, l[k]? = some x := ⟨_, List.getElem?_eq_getElem (by rw [HN.out]; exact hlt)⟩
              obtain ⟨g, off, cap', hvv, _, _, hgl, hc⟩ := (HL.out.below B6.out).addr (by omega)
              simp only [Value.slice.injEq] at hvv
              obtain ⟨rfl, _, rfl⟩ := hvv
              obtain ⟨c0, c1, c2⟩ := zra_cells hc hx
              have HC0 := Lib.hid (HTC.out k x hx (wr.alloc (.cells x.cells.toArray 44)) (belowA B6.out _))
              obtain ⟨nd, br, za, zc, zs⟩ := x
              simp only at c0 c1 c2 HC0
              have HC : Hid (Calls Try.prog 18 #[netV na nn nc sa sn sc ba bn bc ga gn gc la ln lc ta tn tc, .agg #[.string nd, .string br, .slice za zs.length zc], .agg #[.string pbr, .int .i64 part]] (wr.alloc (.cells #[.string nd, .string br, .slice za zs.length zc] 44)) fun e w' => e = .returned (.tuple #[.int .i64 (T k).1, .int .i64 (T k).2]) ∧ Below (wr.alloc (.cells #[.string nd, .string br, .slice za zs.length zc] 44)).heap.size (wr.alloc (.cells #[.string nd, .string br, .slice za zs.length zc] 44)) w') := HC0.out
              have HMK : Hid (refHas r k = decide ((T k).2 = 0)) := by
                show _ = _
                have h1 := @refHas_iff r k
                have h2 := HOK.out k
                have h3 : (k : Int) ∈ okL T N ↔ (T k).2 = 0 := by
                  rw [okL_mem]
                  constructor
                  · rintro ⟨q, hq, _, hqt⟩
                    have : k = q := by omega
                    subst this; exact hqt
                  · intro h; exact ⟨k, rfl, hlt, h⟩
                by_cases hq : (T k).2 = 0
                · rw [decide_eq_true hq]; exact h1.2 (h2.2 (h3.2 hq))
                · rw [decide_eq_false hq]
                  cases hb : refHas r k
                  · rfl
                  · exact absurd (h3.1 (h2.1 (h1.1 hb))) hq
              have K7 := (HSB.out wr B6.out).1.alloc (.cells #[.string nd, .string br, .slice za zs.length zc] 44)
              have M7 := (HSB.out wr B6.out).2.alloc (.cells #[.string nd, .string br, .slice za zs.length zc] 44)
              have x0 := K7.cell 0 rfl
              have x1 := K7.cell 1 rfl
              have x2 := K7.cell 2 rfl
              have x3 := K7.cell 3 rfl
              have x4 := K7.cell 4 rfl
              have x5 := K7.cell 5 rfl
              have p0 := M7.cell 0 rfl
              have p1 := M7.cell 1 rfl
              have BW := Lib.hid (belowA hbl.out (.cells #[.string nd, .string br, .slice za zs.length zc] 44))
              have HRH : Hid (∀ W, Below w5.heap.size w5 W → Calls Try.prog 20 #[.slice a m c, .int .i64 k] W fun e w' => e = .returned (.bool (decide ((T k).2 = 0))) ∧ W = w') := fun W hW => by
                rw [← HMK.out]; exact refHas_c a m c r k W HRM.out (HRD.out.below hW)
              clear hc hx HC0 K7 M7 HMK
              generalize (T k).1 = t at *
              generalize (T k).2 = q at *
              go_wp2_with fail
              refine HC.out.mono ?_; rintro e w7 ⟨rfl, hb7⟩
              have B7 := Lib.hid (belowT BW.out hb7)
              have HH := Lib.hid (HRH.out w7 B7.out)
              clear hb7 BW x0 x1 x2 x3 x4 x5 p0 p1 c0 c1 c2 HC HRH
              by_cases hq : q = 0
              · rw [decide_eq_true hq] at HH
                have g5 : (q == 0) = true := by simp [hq]
                clear hq
                go_wp2_with fail
                refine HH.out.mono ?_; rintro e w8 ⟨rfl, rfl⟩
                go_wp2_with fail
                go_roundw
                case rel => exact ⟨k + 1, hlt, by go_num, B7⟩
                case measure => simp [intOf]; omega
              · rw [decide_eq_false hq] at HH
                have g5 : (q == 0) = false := by simp [hq]
                clear hq
                go_wp2_with fail
                refine HH.out.mono ?_; rintro e w8 ⟨rfl, rfl⟩
                go_wp2_with fail
                go_roundw
                case rel => exact ⟨k + 1, hlt, by go_num, B7⟩
                case measure => simp [intOf]; omega
            ·
              go_wp2_with fail
              go_ret
              exact ⟨rfl, belowT B2.out B6.out⟩
    · have g1 : (E != 0) = true := by simp [hE]
      have hm0 := he0 hE
      subst hm0
      clear he0 he1 hE
      go_wp2_with fail
      go_ret
      exact ⟨rfl, belowT B2.out B5.out⟩
end Go.Proofs.Ytplebibabcdipaa
