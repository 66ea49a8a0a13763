/- zone.Covered, for at most six relays. -/
import Derived.Test.YtplebibabcdipaaSrtS
namespace Go.Proofs.Ytplebibabcdipaa
open Go.RowKit

/-- A relay in memory. -/
structure ZRA where
  node : ByteArray
  branch : ByteArray
  za : Option Addr
  zc : Nat
  zs : List ZSt
def ZRA.cells (x : ZRA) : List Value := [.string x.node, .string x.branch, .slice x.za x.zs.length x.zc]
abbrev ZRA.rel (x : ZRA) : ZRel := ⟨x.node, x.branch, x.zs⟩
instance : Inhabited ZRA := ⟨⟨.empty, .empty, none, 0, []⟩⟩
theorem zra_cells {w : World} {b off : Nat} {l : List ZRA} (h : ∀ j u, (flat ZRA.cells l)[j]? = some u → w.cell? ⟨b, off + j, none⟩ = some u) {k : Nat} {x : ZRA} (hx : l[k]? = some x) :
    w.cell? ⟨b, off + k * 3, none⟩ = some (.string x.node) ∧ w.cell? ⟨b, off + k * 3 + 1, none⟩ = some (.string x.branch) ∧ w.cell? ⟨b, off + k * 3 + 2, none⟩ = some (.slice x.za x.zs.length x.zc) := by
  have e := fun j u hj hu => Reads.elem (sz := 3) (fun _ => rfl) h hx (j := j) (u := u) hj hu
  exact ⟨e 0 _ (by decide) rfl, by rw [Nat.add_assoc]; exact e 1 _ (by decide) rfl, by rw [Nat.add_assoc]; exact e 2 _ (by decide) rfl⟩
/-- A list of relays in memory. -/
def RelsR (w : World) (v : Value) (l : List ZRA) : Prop := Reads w v l.length (flat ZRA.cells l) ∧ ∀ r ∈ l, Reads w (.slice r.za r.zs.length r.zc) r.zs.length (flat ZSt.cells r.zs)
theorem RelsR.below {w w' : World} {v : Value} {l : List ZRA} (h : RelsR w v l) (k : Below w.heap.size w w') : RelsR w' v l := ⟨h.1.below k, fun r hr => (h.2 r hr).below k⟩
def relsE (n : Net) : List ZRA → Int
  | [] => 0
  | r :: rs => if relayE n r.rel ≠ 0 then relayE n r.rel else relsE n rs
theorem relsE_drop {n : Net} {l : List ZRA} {k : Nat} {x : ZRA} (h : l[k]? = some x) : relsE n (l.drop k) = if relayE n x.rel ≠ 0 then relayE n x.rel else relsE n (l.drop (k + 1)) := by
  obtain ⟨hk, hx⟩ := List.getElem?_eq_some_iff.1 h
  rw [List.drop_eq_getElem_cons hk, hx]; rfl
def covE (n : Net) (l : List ZRA) (p : Plc) : Int := if 24 < l.length then 2 else if placeE n p ≠ 0 then placeE n p else relsE n l
/-- The time of relay number i. -/
def timeAt (n : Net) (l : List ZRA) (p : Plc) (i : Nat) : Int × Int := timeE n (l.getD i default).rel p
/-- The relays that operate, of the first k. -/
def okL (T : Nat → Int × Int) (k : Nat) : List Int := ((List.range k).filter (fun i => decide ((T i).2 = 0))).map Int.ofNat
theorem okL_succ (T : Nat → Int × Int) (k : Nat) : okL T (k + 1) = if (T k).2 = 0 then okL T k ++ [(k : Int)] else okL T k := by
  unfold okL
  rw [List.range_succ, List.filter_append, List.map_append]
  split
  · rename_i h; simp [h]
  · rename_i h; simp [h]
theorem okL_mem {T : Nat → Int × Int} {k : Nat} {x : Int} : x ∈ okL T k ↔ ∃ i : Nat, x = i ∧ i < k ∧ (T i).2 = 0 := by
  unfold okL
  rw [List.mem_map]
  constructor
  · rintro ⟨i, hi, rfl⟩
    rw [List.mem_filter] at hi
    exact ⟨i, rfl, List.mem_range.1 hi.1, of_decide_eq_true hi.2⟩
  · rintro ⟨i, rfl, h1, h2⟩
    exact ⟨i, List.mem_filter.2 ⟨List.mem_range.2 h1, decide_eq_true h2⟩, rfl⟩
theorem okL_len (T : Nat → Int × Int) (k : Nat) : (okL T k).length ≤ k := by
  unfold okL
  rw [List.length_map]
  exact Nat.le_trans (List.length_filter_le _ _) (by simp)
/-- What Covered answers. -/
def CovIs (n : Net) (l : List ZRA) (p : Plc) (w : World) (e : Ending) (w' : World) : Prop :=
  ∃ (a : Option Addr) (m c : Nat) (r : List Int), e = .returned (.tuple #[.slice a m c, .int .i64 (covE n l p)]) ∧ Below w.heap.size w w' ∧ r.length = m ∧ Reads w' (.slice a m c) m (ints r) ∧ (covE n l p ≠ 0 → m = 0) ∧
    (covE n l p = 0 → (∀ x, x ∈ r ↔ x ∈ okL (timeAt n l p) l.length) ∧ SrtTo (fun x => (timeAt n l p x.toNat).1) m r)


theorem infoInt2 : (Try.prog.info? 3).map (fun i => (i.zero, i.size, i.bytes)) = some (some (.int .i64 0), 1, 8) := by kernel_rfl
theorem blk_grown {w w' : World} {b : Nat} {c : Array Value} {t : TypeId} {row : Option Nat} (h : Blk w b c t) (k : w.grownBy w' row) (hn : some b ≠ row) : Blk w' b c t := by
  have := k.block b h.lt hn
  unfold Blk at h ⊢; rw [this]; exact h
theorem row_len {W : World} {base : Nat} {e : TypeId} {sz n : Nat} {a : Addr} {c : Nat} {xs : List Value} (h : W.ownsRow base e sz (.slice (some a) n c) n xs) : n ≤ c := by
  rcases h.2 with ⟨e, _⟩ | ⟨g, cap, cur, e, _, _, hn, _⟩
  · cases e
  · cases e; exact hn
theorem ib_reads {w : World} {g m c : Nat} {r : List Int} (h : IB w g r) (hc : m ≤ c) (hs : m ≤ 9223372036854775807) : Reads w (.slice (some ⟨g, 0, none⟩) m c) m (ints r) :=
  Or.inr ⟨g, 0, c, rfl, hc, hs, h.lt, fun j u hj => by
    have hl : j < r.length := by have := (List.getElem?_eq_some_iff.1 hj).1; simpa [ints] using this
    rw [ints_get hl] at hj
    cases hj
    rw [Nat.zero_add]; exact h.cell hl⟩
set_option maxHeartbeats 4000000 in
set_option maxRecDepth 100000 in
theorem covered_c (x0 : NAddr) (n : Net) (l : List ZRA) (lv : Value) (pbr : ByteArray) (part : Int) (w : World) (hr : NetR w x0 n) (hwf : n.Wf) (hl : RelsR w lv l) (h6 : l.length ≤ 6) :
    Calls Try.prog 19 #[x0.val n, lv, .agg #[.string pbr, .int .i64 part]] w fun e w' => CovIs n l ⟨pbr, part⟩ w e w' := by
  obtain ⟨ra, rc, rfl⟩ := hl.1.slice
  have HPL := Lib.hid (fun W (hW : Below w.heap.size w W) => place_c x0 n pbr part W (hr.below hW) hwf)
  have HCK := Lib.hid (fun (x : ZRA) (hx : x ∈ l) W (hW : Below w.heap.size w W) => zcheck_c x0 n x.node x.branch x.za x.zc x.zs W (hr.below hW) hwf ((hl.2 x hx).below hW))
  have HTM := Lib.hid (fun (x : ZRA) (hx : x ∈ l) W (hW : Below w.heap.size w W) => time_c x0 n x.node x.branch pbr x.za x.zc x.zs part W (hr.below hW) hwf ((hl.2 x hx).below hW))
  have HBD : Hid (∀ e w' E, covE n l ⟨pbr, part⟩ = E → E ≠ 0 → e = .returned (.tuple #[.slice none 0 0, .int .i64 E]) → Below w.heap.size w w' → CovIs n l ⟨pbr, part⟩ w e w') := fun e w' E hE hE0 he hb =>
    ⟨none, 0, 0, [], by rw [hE]; exact he, hb, rfl, Or.inl ⟨rfl, rfl, none, 0, rfl⟩, fun _ => rfl, fun h => absurd (hE.symm.trans h) hE0⟩
  have HGD : Hid (∀ e w' a m c r, covE n l ⟨pbr, part⟩ = 0 → e = .returned (.tuple #[.slice a m c, .int .i64 0]) → Below w.heap.size w w' → r.length = m → Reads w' (.slice a m c) m (ints r) → (∀ x, x ∈ r ↔ x ∈ okL (timeAt n l ⟨pbr, part⟩) l.length) → SrtTo (fun x => (timeAt n l ⟨pbr, part⟩ x.toNat).1) m r → CovIs n l ⟨pbr, part⟩ w e w') := fun e w' a m c r hE he hb h1 h2 h3 h4 =>
    ⟨a, m, c, r, by rw [hE]; exact he, hb, h1, h2, fun h => absurd hE h, fun _ => ⟨h3, h4⟩⟩
  have HE : Hid (covE n l ⟨pbr, part⟩ = if placeE n ⟨pbr, part⟩ ≠ 0 then placeE n ⟨pbr, part⟩ else relsE n l) := if_neg (by omega)
  have HTA : Hid (∀ i x, l[i]? = some x → timeE n x.rel ⟨pbr, part⟩ = timeAt n l ⟨pbr, part⟩ i) := fun i x hx => by unfold timeAt; simp [hx]
  have HRD : Hid (∀ (k : Nat) x, l[k]? = some x → relsE n (l.drop k) = if relayE n x.rel ≠ 0 then relayE n x.rel else relsE n (l.drop (k + 1))) := fun k x hx => relsE_drop hx
  have HR0 : Hid (relsE n (l.drop 0) = relsE n l) := rfl
  generalize timeAt n l ⟨pbr, part⟩ = T at *
  generalize CovIs n l ⟨pbr, part⟩ = CI at *
  generalize covE n l ⟨pbr, part⟩ = E at *
  generalize placeE n ⟨pbr, part⟩ = PE at *
  have hl1 := hl.1
  clear hr hwf hl
  obtain ⟨N, hN⟩ : ∃ k, l.length = k := ⟨_, rfl⟩
  have HN := Lib.hid hN
  rw [hN] at hl1 h6 HGD ⊢
  have HL := Lib.hid hl1
  clear hN hl1
  generalize relsE n l = RE at *
  obtain ⟨na, nc, sa, sc, ba, bc, ga, gc, la, lc, ta, tc⟩ := x0
  obtain ⟨nl, sws, brs, gens, loads, stores⟩ := n
  simp only [NAddr.val] at HPL HCK HTM ⊢
  generalize nl.length = nn at *
  generalize sws.length = sn at *
  generalize brs.length = bn at *
  generalize gens.length = gn at *
  generalize loads.length = ln at *
  generalize stores.length = tn at *
  have B1 := belowA (Below.refl w.heap.size w) (.cells #[.slice na nn nc, .slice sa sn sc, .slice ba bn bc, .slice ga gn gc, .slice la ln lc, .slice ta tn tc] 29)
  have K1 := Blk.new w #[.slice na nn nc, .slice sa sn sc, .slice ba bn bc, .slice ga gn gc, .slice la ln lc, .slice ta tn tc] 29
  generalize hW1 : w.alloc (.cells #[.slice na nn nc, .slice sa sn sc, .slice ba bn bc, .slice ga gn gc, .slice la ln lc, .slice ta tn tc] 29) = W1 at *
  have B2 := Lib.hid (belowA B1 (.cells #[.string pbr, .int .i64 part] 31))
  have K2 := Lib.hid (K1.alloc (.cells #[.string pbr, .int .i64 part] 31))
  have M2 := Lib.hid (Blk.new W1 #[.string pbr, .int .i64 part] 31)
  generalize hW2 : W1.alloc (.cells #[.string pbr, .int .i64 part] 31) = W2 at *
  clear B1 K1
  have x0 := K2.out.cell 0 rfl
  have x1 := K2.out.cell 1 rfl
  have x2 := K2.out.cell 2 rfl
  have x3 := K2.out.cell 3 rfl
  have x4 := K2.out.cell 4 rfl
  have x5 := K2.out.cell 5 rfl
  have p0 := M2.out.cell 0 rfl
  have p1 := M2.out.cell 1 rfl
  have g0 : decide ((24 : Int) < (N : Int)) = false := decide_eq_false (by omega)
  have HPL1 := Lib.hid (HPL.out W2 B2.out)
  refine Calls.mono (R := fun e w' => CI w e w' ∧ True) ?_ (fun _ _ h => h.1)
  go_enter Try.func19, Try.ntmps19
  go_wp2_with fail
  refine HPL1.out.mono ?_; rintro e w4 ⟨rfl, hb4⟩
  have B4 := Lib.hid (belowT B2.out hb4)
  have K4 := Lib.hid (below_blk hb4 K2.out K2.out.lt)
  have M4 := Lib.hid (below_blk hb4 M2.out M2.out.lt)
  clear x0 x1 x2 x3 x4 x5 p0 p1 hb4 HPL1 HPL
  by_cases hP : PE = 0
  · have g1 : (PE != 0) = false := by simp [hP]
    have HE2 : Hid (E = RE) := HE.out.trans (if_neg (fun h => h hP))
    clear hP HE
    go_wp2_with fail
    go_loopw [29] (fun i wr => ∃ k : Nat, k ≤ N ∧ i = .int .i64 k ∧ Hid (relsE ⟨nl, sws, brs, gens, loads, stores⟩ (l.drop k) = RE) ∧ Hid (Below w4.heap.size w4 wr)) (fun i _ => N - (intOf i).toNat)
    case atStart => exact ⟨0, Nat.zero_le _, rfl, HR0, Below.refl _ _⟩
    case round =>
      obtain ⟨k, hk, rfl, he, hbl⟩ := hrel
      have HB5 := Lib.hid (belowT B4.out hbl.out)
      by_cases hlt : k < N
      ·
        obtain ⟨x, hx⟩ : ∃ x, l[k]? = some x := ⟨_, List.getElem?_eq_getElem (by rw [HN.out]; exact hlt)⟩
        obtain ⟨g, off, cap', hvv, _, _, hgl, hc⟩ := (HL.out.below HB5.out).addr (by omega)
        simp only [Value.slice.injEq] at hvv
        obtain ⟨rfl, _, rfl⟩ := hvv
        obtain ⟨c0, c1, c2⟩ := zra_cells hc hx
        have hmem := List.mem_of_getElem? hx
        have hrd := HRD.out k x hx
        rw [he.out] at hrd
        have HC := Lib.hid (HCK.out x hmem (wr.alloc (.cells x.cells.toArray 44)) (belowA HB5.out _))
        obtain ⟨nd, br, za, zc, zs⟩ := x
        simp only at c0 c1 c2 HC hrd
        have HC1 : Hid (Calls Try.prog 41 #[netV na nn nc sa sn sc ba bn bc ga gn gc la ln lc ta tn tc, .agg #[.string nd, .string br, .slice za zs.length zc]] (wr.alloc (.cells #[.string nd, .string br, .slice za zs.length zc] 44)) fun e w' => e = .returned (.int .i64 (relayE ⟨nl, sws, brs, gens, loads, stores⟩ ⟨nd, br, zs⟩)) ∧ Below (wr.alloc (.cells #[.string nd, .string br, .slice za zs.length zc] 44)).heap.size (wr.alloc (.cells #[.string nd, .string br, .slice za zs.length zc] 44)) w') := HC.out
        have HRDk := Lib.hid hrd
        have K5 := (below_blk hbl.out K4.out K4.out.lt).alloc (.cells #[.string nd, .string br, .slice za zs.length zc] 44)
        have BW := Lib.hid (belowA hbl.out (.cells #[.string nd, .string br, .slice za zs.length zc] 44))
        have x0 := K5.cell 0 rfl
        have x1 := K5.cell 1 rfl
        have x2 := K5.cell 2 rfl
        have x3 := K5.cell 3 rfl
        have x4 := K5.cell 4 rfl
        have x5 := K5.cell 5 rfl
        clear HC hrd hx hc hmem K5 he
        generalize relayE ⟨nl, sws, brs, gens, loads, stores⟩ ⟨nd, br, zs⟩ = D at *
        go_wp2_with fail
        refine HC1.out.mono ?_; rintro e w6 ⟨rfl, hb6⟩
        have B6 := Lib.hid (belowT BW.out hb6)
        clear hb6 HC1 x0 x1 x2 x3 x4 x5 c0 c1 c2
        by_cases hD : D = 0
        · have g2 : (D != 0) = false := by simp [hD]
          have HN2 := Lib.hid (HRDk.out.trans (if_neg (fun h => h hD))).symm
          clear hD HRDk
          go_wp2_with fail
          go_roundw
          case rel => exact ⟨k + 1, hlt, by go_num, HN2.out, B6⟩
          case measure => simp [intOf]; omega
        · have g2 : (D != 0) = true := by simp [hD]
          have HR : Hid (E = D) := HE2.out.trans (HRDk.out.trans (if_pos hD))
          have HDN := Lib.hid hD
          clear hD HRDk
          go_wp2_with fail
          go_ret2
          exact ⟨HBD.out _ _ D HR.out HDN.out rfl (belowT B4.out B6.out), trivial⟩
      ·
        have hkn : l.drop k = [] := List.drop_eq_nil_of_le (by rw [HN.out]; omega)
        have HE3 : Hid (E = 0) := by show _ = _; rw [HE2.out, ← he.out, hkn]; rfl
        clear he hkn HE2
        obtain ⟨w7, hw7⟩ : ∃ x, x = wr := ⟨_, rfl⟩
        subst hw7
        have KS := Lib.hid (below_blk hbl.out K4.out K4.out.lt)
        have MS := Lib.hid (below_blk hbl.out M4.out M4.out.lt)
        obtain ⟨i0, hi0, hz0, hz1, hz2⟩ := info_parts infoInt2
        have T6 : Hid (Blk (((w7.alloc (.cells (madeCells #[.int .i64 0] N) 3))).alloc (.cells #[.slice (some ⟨w7.heap.size, 0, none⟩) N N] 49)) w7.heap.size (ints (List.replicate N 0)).toArray 3) := by
          show Blk _ _ _ _
          rw [← made_ints]; exact (Blk.new _ _ _).alloc _
        have X6 : Hid (Blk (((w7.alloc (.cells (madeCells #[.int .i64 0] N) 3))).alloc (.cells #[.slice (some ⟨w7.heap.size, 0, none⟩) N N] 49)) (w7.heap.size + 1) #[.slice (some ⟨w7.heap.size, 0, none⟩) N N] 49) := Blk.new2 _ _ _ _
        have B6 : Hid (Below w7.heap.size w7 (((w7.alloc (.cells (madeCells #[.int .i64 0] N) 3))).alloc (.cells #[.slice (some ⟨w7.heap.size, 0, none⟩) N N] 49))) := belowA (belowA (Below.refl _ w7) _) _
        clear K4 M4 B4 hbl HCK HRD HR0 HBD
        go_wp2_with (at_make; refine wpList_make_row _ rfl _ _ 49 rfl 3 i0 (.int .i64 0) Try.underlying49 hi0 hz0 hz1 rfl .i64 .i64 N rfl rfl (by rw [hz2]; omega) (by omega) ?_)
        generalize ((w7.alloc (.cells (madeCells #[.int .i64 0] N) 3))).alloc (.cells #[.slice (some ⟨w7.heap.size, 0, none⟩) N N] 49) = W6 at *
        generalize htg : w7.heap.size = tg at *
        go_loopw [45, 12] (fun i lv wr => ∃ (k : Nat) (ts os : List Int), k ≤ N ∧ i = .int .i64 k ∧ Hid (os = okL T k) ∧ ts.length = N ∧ os.length ≤ k ∧ Hid (∀ i, i < k → (T i).2 = 0 → ts.getD i 0 = (T i).1) ∧ Hid (Blk wr tg (ints ts).toArray 3) ∧ Hid (Blk wr (tg + 1) #[.slice (some ⟨tg, 0, none⟩) N N] 49) ∧ Hid (wr.ownsRow (tg + 2) 3 1 lv os.length (ints os)) ∧ Hid (Below tg w7 wr)) (fun i _ _ => N - (intOf i).toNat)
        case atStart => exact ⟨0, List.replicate N 0, [], Nat.zero_le _, rfl, rfl, by simp, by simp, fun i hi => by omega, T6, X6, World.ownsRow_nil _ _ _ _, B6⟩
        case round =>
          clear T6 X6 B6 hk hlt
          obtain ⟨k, ts, os, hk, rfl, hos, htl, hol, hts, ht6, hx6, how, hbl⟩ := hrel
          obtain ⟨oa, oc, rfl⟩ := row_slice how.out
          obtain ⟨m, hm⟩ : ∃ m, os.length = m := ⟨_, rfl⟩
          have HM := Lib.hid hm
          rw [hm] at how hol ⊢
          clear hm
          have HBW := Lib.hid (belowT HB5.out (by rw [htg]; exact hbl.out))
          have ltb : tg + 1 < wr.heap.size := hx6.out.lt
          by_cases hlt : k < N
          ·
            obtain ⟨x, hx⟩ : ∃ x, l[k]? = some x := ⟨_, List.getElem?_eq_getElem (by rw [HN.out]; exact hlt)⟩
            obtain ⟨g, off, cap', hvv, _, _, hgl, hc⟩ := (HL.out.below HBW.out).addr (by omega)
            simp only [Value.slice.injEq] at hvv
            obtain ⟨rfl, _, rfl⟩ := hvv
            obtain ⟨c0, c1, c2⟩ := zra_cells hc hx
            have hmem := List.mem_of_getElem? hx
            have hta := HTA.out k x hx
            have HC := Lib.hid (HTM.out x hmem (wr.alloc (.cells x.cells.toArray 44)) (belowA HBW.out _))
            obtain ⟨nd, br, za, zc, zs⟩ := x
            simp only at c0 c1 c2 HC hta
            have HC1 : Hid (Calls Try.prog 18 #[netV na nn nc sa sn sc ba bn bc ga gn gc la ln lc ta tn tc, .agg #[.string nd, .string br, .slice za zs.length zc], .agg #[.string pbr, .int .i64 part]] (wr.alloc (.cells #[.string nd, .string br, .slice za zs.length zc] 44)) fun e w' =>
              e = .returned (.tuple #[.int .i64 (T k).1, .int .i64 (T k).2]) ∧ Below (wr.alloc (.cells #[.string nd, .string br, .slice za zs.length zc] 44)).heap.size (wr.alloc (.cells #[.string nd, .string br, .slice za zs.length zc] 44)) w') := by show Calls _ _ _ _ _; rw [← hta]; exact HC.out
            have hle : tg ≤ wr.heap.size := by omega
            have K5 := (below_blk (B := tg) hbl.out KS.out (by rw [← htg]; exact KS.out.lt)).alloc (.cells #[.string nd, .string br, .slice za zs.length zc] 44)
            have M5 := (below_blk (B := tg) hbl.out MS.out (by rw [← htg]; exact MS.out.lt)).alloc (.cells #[.string nd, .string br, .slice za zs.length zc] 44)
            have T5 := Lib.hid (ht6.out.alloc (.cells #[.string nd, .string br, .slice za zs.length zc] 44))
            have X5 := Lib.hid (hx6.out.alloc (.cells #[.string nd, .string br, .slice za zs.length zc] 44))
            have O5 := Lib.hid (row_alloc how.out (.cells #[.string nd, .string br, .slice za zs.length zc] 44))
            have BW := Lib.hid (hbl.out.alloc hle (.cells #[.string nd, .string br, .slice za zs.length zc] 44))
            have x0 := K5.cell 0 rfl
            have x1 := K5.cell 1 rfl
            have x2 := K5.cell 2 rfl
            have x3 := K5.cell 3 rfl
            have x4 := K5.cell 4 rfl
            have x5 := K5.cell 5 rfl
            have p0 := M5.cell 0 rfl
            have p1 := M5.cell 1 rfl
            have HOS := Lib.hid (okL_succ T k)
            have HTK : Hid (∀ i, i < k + 1 → i ≠ k → i < k) := fun i h1 h2 => by omega
            clear HC hx hc hmem K5 M5 hta how ht6 hx6 hbl
            obtain ⟨Z, hZ⟩ : ∃ Z, T k = Z := ⟨_, rfl⟩
            have HZ := Lib.hid hZ
            rw [hZ] at HC1 HOS
            clear hZ
            obtain ⟨t, tq⟩ := Z
            simp only at HC1 HOS
            go_wp2_with fail
            refine HC1.out.mono ?_; rintro e w9 ⟨rfl, hb9⟩
            have B9 := Lib.hid (BW.out.trans (hb9.mono (by have := BW.out.size; have := (World.size_alloc wr (.cells #[.string nd, .string br, .slice za zs.length zc] 44)); omega)))
            have T9 := Lib.hid (below_blk hb9 T5.out T5.out.lt)
            have X9 := Lib.hid (below_blk hb9 X5.out X5.out.lt)
            have O9 := Lib.hid (row_below O5.out hb9)
            clear hb9 HC1 x0 x1 x2 x3 x4 x5 p0 p1 c0 c1 c2 BW T5 X5 O5
            by_cases hD : tq = 0
            · have g2 : (tq == 0) = true := by simp [hD]
              have HOS2 := Lib.hid (HOS.out.trans (if_pos hD))
              have z0 := X9.out.cell 0 rfl
              have y0 := T9.out.int (i := k) (by omega)
              have yf := T9.out.free k
              have lt9 := T9.out.lt
              have lx9 := X9.out.lt
              have T10 : Hid (Blk (w9.setCell ⟨tg, k, none⟩ (.int .i64 t)) tg (ints (ts.set k t)).toArray 3) := by show Blk _ _ _ _; rw [← ints_set]; exact T9.out.set k _
              have X10 : Hid (Blk (w9.setCell ⟨tg, k, none⟩ (.int .i64 t)) (tg + 1) #[.slice (some ⟨tg, 0, none⟩) N N] 49) := X9.out.setOther ⟨tg, k, none⟩ (by show tg + 1 ≠ tg; omega) _
              have O10 := Lib.hid (row_kept O9.out ((But.refl tg w9).set k (.int .i64 t)) (by omega))
              have B10 : Hid (Below tg w7 (w9.setCell ⟨tg, k, none⟩ (.int .i64 t))) := Below.setCell B9.out (Nat.le_refl _) _
              have sz10 : (w9.setCell ⟨tg, k, none⟩ (.int .i64 t)).heap.size = w9.heap.size := by simp [World.setCell]
              have HL11 : Hid (((w9.setCell ⟨tg, k, none⟩ (.int .i64 t)).alloc (.cells #[.int .i64 k] 3)).ownsRow (tg + 2) 3 1 (.slice oa m oc) m (ints os)) := row_alloc O10.out _
              have T11 := Lib.hid (T10.out.alloc (.cells #[.int .i64 k] 3))
              have X11 := Lib.hid (X10.out.alloc (.cells #[.int .i64 k] 3))
              have B11 := Lib.hid (B10.out.alloc (by rw [sz10]; omega) (.cells #[.int .i64 k] 3))
              have sz11 : tg + 2 ≤ ((w9.setCell ⟨tg, k, none⟩ (.int .i64 t)).alloc (.cells #[.int .i64 k] 3)).heap.size := by rw [World.size_alloc, sz10]; omega
              have HTS : Hid (∀ i, i < k + 1 → (T i).2 = 0 → (ts.set k t).getD i 0 = (T i).1) := fun i h1 h2 => by
                rw [List.getD_eq_getElem?_getD, List.getElem?_set]
                by_cases hik : k = i
                · rw [if_pos hik, if_pos (by omega), ← hik, HZ.out]; rfl
                · rw [if_neg hik, ← List.getD_eq_getElem?_getD]; exact hts.out i (by omega) h2
              have HS11 := Lib.hid sz11
              clear hD HOS T10 X10 O10 B10 T9 X9 O9 B9 sz11
              go_wp2_with (at_builtin; refine wpList_append_own _ rfl _ _ 49 rfl (tg + 2) 3 i0 (.int .i64 0) 1 8 Try.underlying49 hi0 hz0 hz1 hz2 rfl (by decide) _ m (ints os) rfl HL11.out ⟨w9.heap.size, 0, none⟩ 1 1 [.int .i64 k] rfl rfl (by rw [← sz10]; exact cell_one_new _ _ _) (ints_one [(k : Int)]) (by unfold maxLen; omega) (by omega) HS11.out ?_; intro v' w3 hown' hgrow3 hnil3; obtain ⟨g3, cap3, rfl⟩ := row_succ hown'; have HOW := Lib.hid hown'; have HGR := Lib.hid hgrow3; clear hown' hgrow3 hnil3)
              go_roundw
              case rel => exact ⟨k + 1, ts.set k t, os ++ [(k : Int)], hlt, by go_num, by show _ = _; rw [hos.out, HOS2.out], by simp; exact htl, by rw [List.length_append, HM.out]; simp; omega, HTS, blk_grown T11.out HGR.out (fun h => by have := row_own HL11.out tg h.symm; omega), blk_grown X11.out HGR.out (fun h => by have := row_own HL11.out (tg + 1) h.symm; omega), by show World.ownsRow _ _ _ _ _ _ _; rw [List.length_append, HM.out]; simpa [ints] using HOW.out, Below.grown B11.out HGR.out (by have := HS11.out; omega) (fun j hj => by have := row_own HL11.out j hj; omega)⟩
              case measure => simp [intOf]; omega
            · have g2 : (tq == 0) = false := by simp [hD]
              have HOS2 := Lib.hid (HOS.out.trans (if_neg hD))
              have HTS : Hid (∀ i, i < k + 1 → (T i).2 = 0 → ts.getD i 0 = (T i).1) := fun i h1 h2 => by
                by_cases hik : i = k
                · rw [hik, HZ.out] at h2; exact absurd h2 hD
                · exact hts.out i (by omega) h2
              clear hD HOS
              go_wp2_with fail
              go_roundw
              case rel => exact ⟨k + 1, ts, os, hlt, by go_num, by show _ = _; rw [hos.out, HOS2.out], htl, by rw [HM.out]; omega, HTS, T9, X9, by rw [HM.out]; exact O9, B9⟩
              case measure => simp [intOf]; omega
          ·
            have hok : N = k := by omega
            subst hok
            by_cases hm0 : m = 0
            ·
              subst hm0
              have hos0 : os = [] := List.eq_nil_of_length_eq_zero HM.out
              have HMM : Hid (∀ x, x ∈ ([] : List Int) ↔ x ∈ okL T N) := fun x => by rw [← hos.out, hos0]
              have HSRT := Lib.hid (sortStable_c oa 0 oc 43 #[.pointer (some ⟨tg + 1, 0, none⟩)] wr (fun w' => wr = w') (by decide) (ins0_c oa oc _ _ wr))
              clear hos0 how
              go_wp2_with fail
              refine HSRT.out.mono ?_; rintro e w8 ⟨rfl, rfl⟩
              go_wp2_with fail
              go_ret2
              exact ⟨HGD.out _ _ oa 0 oc [] HE3.out rfl HBW.out rfl (Or.inl ⟨rfl, rfl, oa, oc, rfl⟩) HMM.out (fun p q h1 h2 => by omega), trivial⟩
            ·
              obtain ⟨m', rfl⟩ : ∃ m', m = m' + 1 := ⟨m - 1, by omega⟩
              obtain ⟨g3, cap3, hv3⟩ := row_succ how.out
              simp only [Value.slice.injEq] at hv3
              obtain ⟨rfl, _, rfl⟩ := hv3
              have hcap := row_len how.out
              have hib : IB wr g3 os := IB.of_row how.out
              have hg3 : tg + 2 ≤ g3 := row_own how.out g3 rfl
              have HCMP : Hid (CmpAt g3 wr 43 #[.pointer (some ⟨tg + 1, 0, none⟩)] (fun x => (T x.toNat).1) os) := fun W hW x y hx hy => by
                obtain ⟨i, rfl, hi, hti⟩ := okL_mem.1 (by rw [← hos.out]; exact hx)
                obtain ⟨j, rfl, hj, htj⟩ := okL_mem.1 (by rw [← hos.out]; exact hy)
                have := cov1_c i j ts (tg + 1) tg 0 N N W hi hj ((hW.blk hx6.out (by omega)).cell 0 rfl) (fun q hq => by rw [Nat.zero_add]; exact (hW.blk ht6.out (by omega)).int (by omega))
                rw [hts.out i hi hti, hts.out j hj htj] at this
                exact this
              have HSRT := Lib.hid (sortStable_c (some ⟨g3, 0, none⟩) (m' + 1) oc 43 #[.pointer (some ⟨tg + 1, 0, none⟩)] wr (Sorted g3 wr (fun x => (T x.toNat).1) os (m' + 1)) (by omega)
                (ins_c g3 (m' + 1) oc os (fun x => (T x.toNat).1) _ _ wr HM.out (by omega) hib (fun a w' => enters_of Try.func43 (by kernel_rfl) rfl a w') HCMP))
              have HOS := Lib.hid hos.out
              clear hib how HCMP hm0
              go_wp2_with fail
              refine HSRT.out.mono ?_; rintro e w8 ⟨rfl, hso⟩
              have HSO := Lib.hid hso
              clear hso
              go_wp2_with fail
              go_ret2
              obtain ⟨r, h1, h2, h3, h4, h5⟩ := HSO.out
              exact ⟨HGD.out _ _ (some ⟨g3, 0, none⟩) (m' + 1) oc r HE3.out rfl (But.below HBW.out h5 (by have := HBW.out.size; have := HB5.out.size; omega) (Nat.le_refl _)) h2 (ib_reads h1 hcap (by omega)) (fun x => by rw [h3 x, HOS.out]) h4, trivial⟩
  · have g1 : (PE != 0) = true := by simp [hP]
    have HR : Hid (E = PE) := HE.out.trans (if_pos hP)
    have HDN := Lib.hid hP
    clear hP HE
    go_wp2_with fail
    go_ret2
    exact ⟨HBD.out _ _ PE HR.out HDN.out rfl B4.out, trivial⟩
end Go.Proofs.Ytplebibabcdipaa
