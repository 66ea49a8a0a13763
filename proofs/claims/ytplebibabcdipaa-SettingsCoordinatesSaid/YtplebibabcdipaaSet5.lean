/- The closures of settings.Pairs. What settings.Pairs answers. settings.Pairs. -/
import Derived.Test.YtplebibabcdipaaSet3
import Derived.Test.YtplebibabcdipaaTop6
import Derived.Laws.EntriesVeiled
namespace Go.Proofs.Ytplebibabcdipaa
open Go.RowKit

/-- What the closures of Pairs find: the network, the topology, the closure 'bus' in its variable. -/
structure PEnv (x0 : NAddr) (n : Net) (BE : List Int) (nb tb ub bb : Nat) (isl : Value) (W : World) : Prop where
  net : NetR W x0 n
  nk : Blk W nb #[.slice x0.na n.nodes.length x0.nc, .slice x0.sa n.sws.length x0.sc, .slice x0.ba n.brs.length x0.bc, .slice x0.ga n.gens.length x0.gc, .slice x0.la n.loads.length x0.lc, .slice x0.ta n.stores.length x0.tc] 29
  tk : Blk W tb #[.slice (some ⟨bb, 0, none⟩) n.nodes.length n.nodes.length, isl] 104
  uk : Blk W ub #[.func (.func 51) #[] #[.pointer (some ⟨tb, 0, none⟩), .pointer (some ⟨nb, 0, none⟩)]] 107
  bk : Blk W bb (ints BE).toArray 3
theorem PEnv.below {x0 : NAddr} {n : Net} {BE : List Int} {nb tb ub bb : Nat} {isl : Value} {W W' : World} (h : PEnv x0 n BE nb tb ub bb isl W) (k : Below W.heap.size W W') : PEnv x0 n BE nb tb ub bb isl W' :=
  ⟨h.net.below k, below_blk k h.nk h.nk.lt, below_blk k h.tk h.tk.lt, below_blk k h.uk h.uk.lt, below_blk k h.bk h.bk.lt⟩
/-- The bus of a node. -/
def busAt (n : Net) (BE : List Int) (s : ByteArray) : Int := BE.getD (idxS s n.nodes 0).toNat 0
/-- The bus at the other end of a relay's branch. -/
def farE (n : Net) (BE : List Int) (node branch : ByteArray) : Int := if sameB node (brOf n branch).fr = true then busAt n BE (brOf n branch).to else busAt n BE (brOf n branch).fr

set_option maxHeartbeats 1000000 in
theorem pbus_c (x0 : NAddr) (n : Net) (BE : List Int) (nb tb ub bb : Nat) (isl : Value) (s : ByteArray) (w : World) (h : PEnv x0 n BE nb tb ub bb isl w) (hs : hasS s n.nodes = true) (hl : BE.length = n.nodes.length) :
    Calls Try.prog 51 #[.string s, .pointer (some ⟨tb, 0, none⟩), .pointer (some ⟨nb, 0, none⟩)] w fun e w' => e = .returned (.int .i64 (busAt n BE s)) ∧ Below w.heap.size w w' := by
  obtain ⟨k, hk, hkl⟩ := idxS_nat hs
  have hE : busAt n BE s = BE.getD k 0 := by unfold busAt; rw [hk]; rfl
  have HE := Lib.hid hE
  have HI : Hid (∀ nd, Calls Try.prog 52 #[.slice x0.na n.nodes.length x0.nc, .string s] (w.drewN nd) fun e w' => e = .returned (.int .i64 k) ∧ ∃ md, w' = w.drewN md) := fun nd => by
    have := index_c (.slice x0.na n.nodes.length x0.nc) n.nodes s (w.drewN nd) (h.net.nodes.below (below_drewN (Below.refl _ _) nd))
    rw [hk] at this
    exact Calls.quiet_of_same (this.mono fun e w' h => ⟨h.1, h.2.symm⟩)
  have y1 := h.bk.int (i := k) (by rw [hl]; exact hkl)
  generalize busAt n BE s = E at *
  generalize BE.getD k 0 = X at *
  have x0' := h.nk.cell 0 rfl
  have x1' := h.tk.cell 0 rfl
  clear h hE hl hs hk
  generalize n.nodes.length = nn at *
  go_enter Try.func51, Try.ntmps51
  go_wp2_with fail
  refine wp_region_quiet_lit (by kernel_rfl) (by kernel_rfl) ?_
  repeat (first | go_big_quiet_step ((exact HI.out _)) | (go_big_quiet_want; go_simp; go_big_quiet_on))
  refine wpQuiet_nil ?_
  intro _ hw'
  obtain ⟨nq, hw''⟩ := hw'
  subst hw''
  go_wp2_with fail
  go_ret
  exact ⟨by rw [HE.out]; rfl, below_drewN (Below.refl _ _) _⟩

set_option maxHeartbeats 1000000 in
theorem pfar1_c (x : NBr) (bk br nd : ByteArray) (cv pv ov : Value) (rb : Nat) (w : World) (K : Blk w rb #[.string bk, .string br, .string nd, cv, pv, ov] 56) :
    Calls Try.prog 55 #[.agg x.cells.toArray, .pointer (some ⟨rb, 0, none⟩)] w fun e w' => e = .returned (.bool (sameB x.name br)) ∧ Below w.heap.size w w' := by
  obtain ⟨n0, fr, tt, x3, x4, x5, x6, x7, x8⟩ := x
  show Calls _ _ #[.agg #[.string n0, .string fr, .string tt, .int .i64 x3, .int .i64 x4, .int .i64 x5, .int .i64 x6, .int .i64 x7, .int .i64 x8], _] _ _
  have HE : Hid (sameB n0 br = (n0.toList == br.toList)) := rfl
  have B : Hid (Below w.heap.size w (w.alloc (.cells #[.string n0, .string fr, .string tt, .int .i64 x3, .int .i64 x4, .int .i64 x5, .int .i64 x6, .int .i64 x7, .int .i64 x8] 36))) := belowA (Below.refl _ _) _
  have y1 := K.cell 1 rfl
  have ly := K.lt
  clear K
  simp only
  generalize sameB n0 br = E at *
  go_enter Try.func55, Try.ntmps55
  go_wp2_with fail
  go_ret
  exact ⟨by rw [HE.out]; rfl, B.out⟩

theorem blw_setAt {B j : Nat} {a w : World} {u : Value} (h : Below B a w) : Below B a (w.setCell ⟨B, j, none⟩ u) := Below.setCell h (Nat.le_refl _) u
theorem blk_set9 {w : World} {g : Nat} {a0 a1 a2 a3 a4 a5 a6 a7 a8 : Value} {t : TypeId} (h : Blk w g #[a0, a1, a2, a3, a4, a5, a6, a7, a8] t) (c0 c1 c2 c3 c4 c5 c6 c7 c8 : Value) :
    Blk (((((((((w.setCell ⟨g, 0, none⟩ c0).setCell ⟨g, 1, none⟩ c1).setCell ⟨g, 2, none⟩ c2).setCell ⟨g, 3, none⟩ c3).setCell ⟨g, 4, none⟩ c4).setCell ⟨g, 5, none⟩ c5).setCell ⟨g, 6, none⟩ c6).setCell ⟨g, 7, none⟩ c7).setCell ⟨g, 8, none⟩ c8) g #[c0, c1, c2, c3, c4, c5, c6, c7, c8] t :=
  (((((((((h.set 0 c0).set 1 c1).set 2 c2).set 3 c3).set 4 c4).set 5 c5).set 6 c6).set 7 c7).set 8 c8).congr (by simp)

set_option maxHeartbeats 4000000 in
set_option maxRecDepth 100000 in
theorem pfar_c (x0 : NAddr) (n : Net) (BE : List Int) (nb tb ub bb : Nat) (isl : Value) (r : CRA) (k : Nat) (b : NBr) (w : World) (h : PEnv x0 n BE nb tb ub bb isl w) (hl : BE.length = n.nodes.length)
    (hk : brAt n r.branch = k) (hb : n.brs[k]? = some b) (hf : hasS b.fr n.nodes = true) (ht : hasS b.to n.nodes = true) :
    Calls Try.prog 53 #[.agg r.cells.toArray, .pointer (some ⟨nb, 0, none⟩), .pointer (some ⟨ub, 0, none⟩)] w fun e w' => e = .returned (.int .i64 (farE n BE r.node r.branch)) ∧ Below w.heap.size w w' := by
  have hE : farE n BE r.node r.branch = if sameB r.node b.fr = true then busAt n BE b.to else busAt n BE b.fr := by unfold farE; rw [brOf_eq hk hb]
  have HE := Lib.hid hE
  generalize farE n BE r.node r.branch = E at *
  have HBU := Lib.hid (fun s W (hs : hasS s n.nodes = true) (hW : Below w.heap.size w W) => pbus_c x0 n BE nb tb ub bb isl s W (h.below hW) hs hl)
  obtain ⟨bk, br, nd, ca, cl, cc, pts, pk, op⟩ := r
  simp only at hE hk HE ⊢
  show Calls _ _ #[.agg #[.string bk, .string br, .string nd, .slice ca cl cc, .int .i64 pk, .int .i64 op], _, _] _ _
  have B1 := belowA (Below.refl w.heap.size w) (.cells #[.string bk, .string br, .string nd, .slice ca cl cc, .int .i64 pk, .int .i64 op] 56)
  have R1 := Blk.new w #[.string bk, .string br, .string nd, .slice ca cl cc, .int .i64 pk, .int .i64 op] 56
  obtain ⟨rb, hrb⟩ : ∃ x, w.heap.size = x := ⟨_, rfl⟩
  rw [hrb] at R1
  have HIX : Hid (∀ W, Below (w.alloc (.cells #[.string bk, .string br, .string nd, .slice ca cl cc, .int .i64 pk, .int .i64 op] 56)).heap.size (w.alloc (.cells #[.string bk, .string br, .string nd, .slice ca cl cc, .int .i64 pk, .int .i64 op] 56)) W →
      Calls Try.prog 54 #[.slice x0.ba n.brs.length x0.bc, .func (.func 55) #[] #[.pointer (some ⟨rb, 0, none⟩)]] W fun e w' => e = .returned (.int .i64 k) ∧ Below W.heap.size W w') := by
    intro W hW
    rw [← hk]
    refine indexBr_c (.slice x0.ba n.brs.length x0.bc) n.brs (fun y : NBr => sameB y.name br) _ _ W (h.net.brs.below (belowT B1 hW)) (fun a w' => enters_of Try.func55 (by kernel_rfl) rfl a w') ?_
    intro a W' _ hW'
    exact (pfar1_c a bk br nd _ _ _ rb W' (below_blk (belowT hW hW') R1 R1.lt)).mono fun e w' ⟨he, hw⟩ => ⟨he, hW'.trans (hw.mono hW'.size)⟩
  obtain ⟨g, off, cap', hvv, _, hnm, hgl, hcc⟩ := h.net.brs.addr (by have := (List.getElem?_eq_some_iff.1 hb).1; omega)
  simp only [Value.slice.injEq] at hvv
  obtain ⟨hba, _, rfl⟩ := hvv
  have hkl : k < n.brs.length := (List.getElem?_eq_some_iff.1 hb).1
  obtain ⟨c0, c1, c2, c3, c4, c5, c6, c7, c8⟩ := br_cells hcc hb
  have HNK := Lib.hid h.nk
  have HUK := Lib.hid h.uk
  have hnl := h.nk.lt
  have hul := h.uk.lt
  generalize hW1 : w.alloc (.cells #[.string bk, .string br, .string nd, .slice ca cl cc, .int .i64 pk, .int .i64 op] 56) = W1 at *
  have HX2 : Hid (∀ W, Below W1.heap.size W1 W → W.cell? ⟨nb, 2, none⟩ = some (.slice x0.ba n.brs.length x0.bc)) := fun W hW => (below_blk (belowT B1 hW) HNK.out hnl).cell 2 rfl
  have e1 : ∀ W, Below W1.heap.size W1 W → ∀ o u, w.cell? ⟨g, o, none⟩ = some u → W.cell? ⟨g, o, none⟩ = some u := fun W hW o u hu => by
    rw [(belowT B1 hW).cell (p := ⟨g, o, none⟩) hgl]; exact hu
  have HEC := Lib.hid e1
  have HC0 := Lib.hid c0
  have HC1 := Lib.hid c1
  have HC2 := Lib.hid c2
  have HC3 := Lib.hid c3
  have HC4 := Lib.hid c4
  have HC5 := Lib.hid c5
  have HC6 := Lib.hid c6
  have HC7 := Lib.hid c7
  have HC8 := Lib.hid c8
  have HR1 := Lib.hid R1
  have HB1 := Lib.hid B1
  have HF := Lib.hid hf
  have HT := Lib.hid ht
  have D0 : Hid (Below W1.heap.size W1 W1.drew) := ⟨rfl, rfl, rfl, Nat.le_refl _, fun _ _ => rfl⟩
  have hgl1 : g < W1.heap.size := Nat.lt_of_lt_of_le hgl B1.size
  have hrl : rb < W1.heap.size := R1.lt
  obtain ⟨b0, fr, tt, b3, b4, b5, b6, b7, b8⟩ := b
  simp only at HE HC0 HC1 HC2 HC3 HC4 HC5 HC6 HC7 HC8 HF HT
  rw [hba] at HIX HX2
  generalize n.brs.length = bn at *
  clear h hE hk hb hcc c0 c1 c2 c3 c4 c5 c6 c7 c8 e1 R1 hf ht hba B1 hl hgl
  have HW1 := Lib.hid hW1
  have HRB := Lib.hid hrb
  clear hW1 hrb
  go_enter Try.func53, Try.ntmps53
  go_wp2_with fail
  rw [HW1.out, HRB.out]
  go_cut [5] from 6 to 13 (fun s5 wx => ∃ d : Nat, s5 = .pointer (some ⟨d, 0, none⟩) ∧ Hid (Blk wx d #[.string b0, .string fr, .string tt, .int .i64 b3, .int .i64 b4, .int .i64 b5, .int .i64 b6, .int .i64 b7, .int .i64 b8] 36) ∧ Hid (Below W1.heap.size W1 wx))
  case first =>
    have HS : Hid (∀ W, Below W1.heap.size W1 W → (W.cell? ⟨nb, 2, none⟩ = some (.slice (some ⟨g, off, none⟩) bn x0.bc) ∧ W.cell? ⟨g, off + k * 9, none⟩ = some (.string b0) ∧ W.cell? ⟨g, off + k * 9 + 1, none⟩ = some (.string fr) ∧ W.cell? ⟨g, off + k * 9 + 2, none⟩ = some (.string tt) ∧ W.cell? ⟨g, off + k * 9 + 3, none⟩ = some (.int .i64 b3) ∧ W.cell? ⟨g, off + k * 9 + 4, none⟩ = some (.int .i64 b4) ∧ W.cell? ⟨g, off + k * 9 + 5, none⟩ = some (.int .i64 b5) ∧ W.cell? ⟨g, off + k * 9 + 6, none⟩ = some (.int .i64 b6) ∧ W.cell? ⟨g, off + k * 9 + 7, none⟩ = some (.int .i64 b7) ∧ W.cell? ⟨g, off + k * 9 + 8, none⟩ = some (.int .i64 b8))) := fun W hW =>
      ⟨HX2.out _ hW, HEC.out _ hW _ _ HC0.out, HEC.out _ hW _ _ HC1.out, HEC.out _ hW _ _ HC2.out, HEC.out _ hW _ _ HC3.out, HEC.out _ hW _ _ HC4.out, HEC.out _ hW _ _ HC5.out, HEC.out _ hW _ _ HC6.out, HEC.out _ hW _ _ HC7.out, HEC.out _ hW _ _ HC8.out⟩
    have DA : Hid (Below W1.heap.size W1 (W1.alloc (.cells #[.string {data := #[]}, .string {data := #[]}, .string {data := #[]}, .int .i64 0, .int .i64 0, .int .i64 0, .int .i64 0, .int .i64 0, .int .i64 0] 36)).drew) := D0.out.alloc (Nat.le_refl _) (.cells #[.string {data := #[]}, .string {data := #[]}, .string {data := #[]}, .int .i64 0, .int .i64 0, .int .i64 0, .int .i64 0, .int .i64 0, .int .i64 0] 36)
    have BA : Hid (Blk (W1.alloc (.cells #[.string {data := #[]}, .string {data := #[]}, .string {data := #[]}, .int .i64 0, .int .i64 0, .int .i64 0, .int .i64 0, .int .i64 0, .int .i64 0] 36)).drew W1.heap.size #[.string {data := #[]}, .string {data := #[]}, .string {data := #[]}, .int .i64 0, .int .i64 0, .int .i64 0, .int .i64 0, .int .i64 0, .int .i64 0] 36) := (Blk.new W1 _ _).drew
    go_region_held3 (fun W => (W.cell? ⟨nb, 2, none⟩ = some (.slice (some ⟨g, off, none⟩) bn x0.bc) ∧ W.cell? ⟨g, off + k * 9, none⟩ = some (.string b0) ∧ W.cell? ⟨g, off + k * 9 + 1, none⟩ = some (.string fr) ∧ W.cell? ⟨g, off + k * 9 + 2, none⟩ = some (.string tt) ∧ W.cell? ⟨g, off + k * 9 + 3, none⟩ = some (.int .i64 b3) ∧ W.cell? ⟨g, off + k * 9 + 4, none⟩ = some (.int .i64 b4) ∧ W.cell? ⟨g, off + k * 9 + 5, none⟩ = some (.int .i64 b5) ∧ W.cell? ⟨g, off + k * 9 + 6, none⟩ = some (.int .i64 b6) ∧ W.cell? ⟨g, off + k * 9 + 7, none⟩ = some (.int .i64 b7) ∧ W.cell? ⟨g, off + k * 9 + 8, none⟩ = some (.int .i64 b8)))
      ((refine HS.out _ ?_; first
        | with_reducible exact D0.out
        | with_reducible exact DA.out
        | with_reducible exact D1.out
        | with_reducible exact (belowA D1.out _)
        | with_reducible exact D2.out
        | (repeat (with_reducible refine blw_setAt ?_)
           with_reducible exact D2.out)
        | exact (belowA D1.out _)))
      (first
        | (go_at_call 54; refine (HIX.out W1.drew D0.out).mono ?_; rintro e w5 ⟨rfl, hb5⟩; have D1 := Lib.hid (belowT D0.out hb5); have D2 := D1; clear hb5)
        | (go_at_call 54; refine (HIX.out (W1.alloc (.cells #[.string {data := #[]}, .string {data := #[]}, .string {data := #[]}, .int .i64 0, .int .i64 0, .int .i64 0, .int .i64 0, .int .i64 0, .int .i64 0] 36)).drew DA.out).mono ?_; rintro e w5 ⟨rfl, hb5⟩; have D2 := Lib.hid (belowT DA.out hb5); have D1 := D2; have BA1 := Lib.hid (below_blk hb5 BA.out BA.out.lt); have v0 := BA1.out.cell 0 rfl; have f0 := BA1.out.free 0; have v1 := BA1.out.cell 1 rfl; have f1 := BA1.out.free 1; have v2 := BA1.out.cell 2 rfl; have f2 := BA1.out.free 2; have v3 := BA1.out.cell 3 rfl; have f3 := BA1.out.free 3; have v4 := BA1.out.cell 4 rfl; have f4 := BA1.out.free 4; have v5 := BA1.out.cell 5 rfl; have f5 := BA1.out.free 5; have v6 := BA1.out.cell 6 rfl; have f6 := BA1.out.free 6; have v7 := BA1.out.cell 7 rfl; have f7 := BA1.out.free 7; have v8 := BA1.out.cell 8 rfl; have f8 := BA1.out.free 8; clear hb5))
    all_goals
      go_wp2_with fail
      go_meet
      first
        | ((with_reducible refine ⟨w5.heap.size, rfl, ?_, ?_⟩); exact Blk.new _ _ _; exact belowA D1.out _)
        | exact ⟨W1.heap.size, rfl, blk_set9 BA1.out _ _ _ _ _ _ _ _ _, blw_setAt (blw_setAt (blw_setAt (blw_setAt (blw_setAt (blw_setAt (blw_setAt (blw_setAt (blw_setAt D2.out))))))))⟩
  case rest =>
    obtain ⟨d1, rfl, hd1, hbd⟩ := hcut
    have BX := Lib.hid (belowT HB1.out hbd.out)
    have RX := Lib.hid (below_blk hbd.out HR1.out HR1.out.lt)
    have UX := Lib.hid (below_blk BX.out HUK.out hul)
    have r0 := RX.out.cell 2 rfl
    have d2 := hd1.out.cell 1 rfl
    have d3 := hd1.out.cell 2 rfl
    have u0 := UX.out.cell 0 rfl
    cases hs : sameB nd fr
    · have HR : Hid (E = busAt n BE fr) := HE.out.trans (if_neg (by rw [hs]; decide))
      have HBB := Lib.hid (HBU.out fr wc HF.out BX.out)
      have g1 : (nd.toList == fr.toList) = false := hs
      generalize busAt n BE fr = Z at *
      clear hs HE hbd
      go_wp2_with fail
      refine HBB.out.mono ?_; rintro e w6 ⟨rfl, hb6⟩
      have B6 := Lib.hid (belowT BX.out hb6)
      clear hb6
      go_wp2_with fail
      go_ret
      exact ⟨by rw [HR.out]; rfl, B6.out⟩
    · have HR : Hid (E = busAt n BE tt) := HE.out.trans (if_pos hs)
      have HBB := Lib.hid (HBU.out tt wc HT.out BX.out)
      have g1 : (nd.toList == fr.toList) = true := hs
      generalize busAt n BE tt = Z at *
      clear hs HE hbd
      go_wp2_with fail
      refine HBB.out.mono ?_; rintro e w6 ⟨rfl, hb6⟩
      have B6 := Lib.hid (belowT BX.out hb6)
      clear hb6
      go_wp2_with fail
      go_ret
      exact ⟨by rw [HR.out]; rfl, B6.out⟩
end Go.Proofs.Ytplebibabcdipaa
namespace Go.Proofs.Ytplebibabcdipaa
open Go.RowKit

def pairHit (n : Net) (BE : List Int) (x y : CRA) : Bool := !sameB x.branch y.branch && (farE n BE y.node y.branch == busAt n BE x.node)
def rowL (n : Net) (BE : List Int) (x : CRA) (i : Nat) : List CRA → Nat → List (Int × Int)
  | [], _ => []
  | y :: ys, k => if pairHit n BE x y = true then ((i : Int), (k : Int)) :: rowL n BE x i ys (k + 1) else rowL n BE x i ys (k + 1)
def pairsL (n : Net) (BE : List Int) (l : List CRA) : List CRA → Nat → List (Int × Int)
  | [], _ => []
  | x :: xs, i => rowL n BE x i l 0 ++ pairsL n BE l xs (i + 1)
def pairsE (n : Net) (l : List CRA) : List (Int × Int) := if clearE n l ≠ 0 then [] else pairsL n (busesE n) l l 0
theorem rowL_drop {n : Net} {BE : List Int} {x : CRA} {i : Nat} {l : List CRA} {k : Nat} {y : CRA} (h : l[k]? = some y) : rowL n BE x i (l.drop k) k = if pairHit n BE x y = true then ((i : Int), (k : Int)) :: rowL n BE x i (l.drop (k + 1)) (k + 1) else rowL n BE x i (l.drop (k + 1)) (k + 1) := by
  obtain ⟨hk, hx⟩ := List.getElem?_eq_some_iff.1 h
  rw [List.drop_eq_getElem_cons hk, hx]; rfl
theorem pairsL_drop {n : Net} {BE : List Int} {l l' : List CRA} {k : Nat} {y : CRA} (h : l'[k]? = some y) : pairsL n BE l (l'.drop k) k = rowL n BE y k l 0 ++ pairsL n BE l (l'.drop (k + 1)) (k + 1) := by
  obtain ⟨hk, hx⟩ := List.getElem?_eq_some_iff.1 h
  rw [List.drop_eq_getElem_cons hk, hx]; rfl
theorem clrAll_ok {n : Net} : ∀ (l : List CRA), clrAll n l = 0 → ∀ r ∈ l, clrOne n r = 0 := by
  intro l
  induction l with
  | nil => intro _ r hr; cases hr
  | cons x xs ih =>
    intro h r hr
    unfold clrAll at h
    split at h
    · rename_i h1; exact absurd h h1
    · rename_i h1
      rcases List.mem_cons.1 hr with rfl | hr
      · simpa using h1
      · exact ih h r hr
/-- What a relay that is let pass has. -/
structure ClrOk (n : Net) (r : CRA) : Prop where
  br : ∃ (k : Nat) (x : NBr), brAt n r.branch = k ∧ n.brs[k]? = some x ∧ badEnd r.node x = false ∧ sameB x.name r.branch = true
  err : r.pts.err = 0
  pk : 1 ≤ r.pk ∧ r.pk ≤ 1000000
theorem clrOne_ok {n : Net} {r : CRA} (h : clrOne n r = 0) : ClrOk n r := by
  unfold clrOne at h
  split at h
  · cases h
  · rename_i h1
    split at h
    · cases h
    · rename_i h2
      split at h
      · rename_i h3; exact absurd h h3
      · rename_i h3
        split at h
        · cases h
        · rename_i h4
          refine ⟨?_, by simpa using h3, ?_⟩
          · rcases brAt_range n r.branch with e | ⟨k, x, e1, e2, e3⟩
            · omega
            · refine ⟨k, x, e1, e2, ?_, e3⟩
              rw [brOf_eq e1 e2] at h2
              cases hb : badEnd r.node x
              · rfl
              · exact absurd (Or.inr hb) h2
          · unfold badPk at h4
            simp only [Bool.or_eq_true, decide_eq_true_eq] at h4
            omega
theorem clearE_ok {n : Net} {l : List CRA} (h : clearE n l = 0) : netE n = 0 ∧ l.length ≤ 24 ∧ ∀ r ∈ l, ClrOk n r := by
  unfold clearE at h
  split at h
  · rename_i h1; exact absurd h h1
  · rename_i h1
    split at h
    · cases h
    · rename_i h2
      exact ⟨by simpa using h1, by omega, fun r hr => clrOne_ok (clrAll_ok l h r hr)⟩
theorem badEnd_has {n : Net} {node : ByteArray} {b : NBr} (h : badEnd node b = false) (hf : hasS b.fr n.nodes = true) (ht : hasS b.to n.nodes = true) : hasS node n.nodes = true := by
  unfold badEnd at h
  simp only [Bool.and_eq_false_iff, Bool.not_eq_false'] at h
  rcases h with h | h
  · rw [sameB_eq h]; exact hf
  · rw [sameB_eq h]; exact ht
end Go.Proofs.Ytplebibabcdipaa
namespace Go.Proofs.Ytplebibabcdipaa
open Go.RowKit

set_option maxHeartbeats 8000000 in
set_option maxRecDepth 100000 in
theorem pairs_c (x0 : NAddr) (n : Net) (l : List CRA) (lv : Value) (w : World) (hr : NetR w x0 n) (hwf : n.Wf) (hl : CRels w lv l) :
    Calls Try.prog 26 #[x0.val n, lv] w fun e w' => ∃ pv, e = .returned (.tuple #[pv, .int .i64 (clearE n l)]) ∧ Reads w' pv (pairsE n l).length (flat pairC (pairsE n l)) ∧ Below w.heap.size w w' := by
  obtain ⟨ra, rc, rfl⟩ := hl.1.slice
  have B1 := belowA (Below.refl w.heap.size w) (.cells #[.slice x0.na n.nodes.length x0.nc, .slice x0.sa n.sws.length x0.sc, .slice x0.ba n.brs.length x0.bc, .slice x0.ga n.gens.length x0.gc, .slice x0.la n.loads.length x0.lc, .slice x0.ta n.stores.length x0.tc] 29)
  have K1 := Blk.new w #[.slice x0.na n.nodes.length x0.nc, .slice x0.sa n.sws.length x0.sc, .slice x0.ba n.brs.length x0.bc, .slice x0.ga n.gens.length x0.gc, .slice x0.la n.loads.length x0.lc, .slice x0.ta n.stores.length x0.tc] 29
  obtain ⟨nb, hnb0⟩ : ∃ b, w.heap.size = b := ⟨_, rfl⟩
  obtain ⟨W1, hW1⟩ : ∃ W, w.alloc (.cells #[.slice x0.na n.nodes.length x0.nc, .slice x0.sa n.sws.length x0.sc, .slice x0.ba n.brs.length x0.bc, .slice x0.ga n.gens.length x0.gc, .slice x0.la n.loads.length x0.lc, .slice x0.ta n.stores.length x0.tc] 29) = W := ⟨_, rfl⟩
  rw [hW1] at B1 K1
  rw [hnb0] at K1
  have HCK : Hid (Calls Try.prog 49 #[x0.val n, .slice none 0 0, .slice ra l.length rc] W1 fun e w' => e = .returned (.int .i64 (clearE n l)) ∧ Below W1.heap.size W1 w') := clear_c x0 n l _ W1 (hr.below B1) hwf (hl.below B1)
  have HFR : Hid (clearE n l = 0 → ∀ W, Below W1.heap.size W1 W → Calls Try.prog 50 #[x0.val n] W fun e w' => ∃ b c m : Nat, e = .returned (.agg #[.slice (some ⟨b, 0, none⟩) n.nodes.length n.nodes.length, .slice (some ⟨c, 0, none⟩) m m]) ∧ Blk w' b (ints (busesE n)).toArray 3 ∧ Below W.heap.size W w') := fun hz W hW =>
    (fresh_c x0 n W (hr.below (belowT B1 hW)) (netE_ok (clearE_ok hz).1)).mono fun e w' ⟨b, c, m, h1, _, _, _, h5, _, h7⟩ => ⟨b, c, m, h1, h5, h7⟩
  have HNR := Lib.hid (hr.below B1)
  have HNK := Lib.hid K1
  have HEV : Hid (∀ tb ub bb isl W, Below W1.heap.size W1 W → Blk W tb #[.slice (some ⟨bb, 0, none⟩) n.nodes.length n.nodes.length, isl] 104 → Blk W ub #[.func (.func 51) #[] #[.pointer (some ⟨tb, 0, none⟩), .pointer (some ⟨nb, 0, none⟩)]] 107 → Blk W bb (ints (busesE n)).toArray 3 → PEnv x0 n (busesE n) nb tb ub bb isl W) := fun tb ub bb isl W hW h1 h2 h3 =>
    ⟨(hr.below B1).below hW, below_blk hW K1 K1.lt, h1, h2, h3⟩
  have HBU : Hid (∀ (x : CRA), x ∈ l → clearE n l = 0 → ∀ tb ub bb isl W, PEnv x0 n (busesE n) nb tb ub bb isl W → Calls Try.prog 51 #[.string x.node, .pointer (some ⟨tb, 0, none⟩), .pointer (some ⟨nb, 0, none⟩)] W fun e w' => e = .returned (.int .i64 (busAt n (busesE n) x.node)) ∧ Below W.heap.size W w') := by
    intro x hx hz tb ub bb isl W hW
    obtain ⟨h1, _, h3⟩ := clearE_ok hz
    obtain ⟨k, b, h4, h5, h6, _⟩ := (h3 x hx).br
    have hb := (netE_ok h1).br b (List.mem_of_getElem? h5)
    exact pbus_c x0 n (busesE n) nb tb ub bb isl x.node W hW (badEnd_has h6 hb.1 hb.2.1) (busesE_ok n).1
  have HFA : Hid (∀ (x : CRA), x ∈ l → clearE n l = 0 → ∀ tb ub bb isl W, PEnv x0 n (busesE n) nb tb ub bb isl W → Calls Try.prog 53 #[.agg x.cells.toArray, .pointer (some ⟨nb, 0, none⟩), .pointer (some ⟨ub, 0, none⟩)] W fun e w' => e = .returned (.int .i64 (farE n (busesE n) x.node x.branch)) ∧ Below W.heap.size W w') := by
    intro x hx hz tb ub bb isl W hW
    obtain ⟨h1, _, h3⟩ := clearE_ok hz
    obtain ⟨k, b, h4, h5, h6, _⟩ := (h3 x hx).br
    have hb := (netE_ok h1).br b (List.mem_of_getElem? h5)
    exact pfar_c x0 n (busesE n) nb tb ub bb isl x k b W hW (busesE_ok n).1 h4 h5 hb.1 hb.2.1
  have HE : Hid (pairsE n l = if clearE n l ≠ 0 then [] else pairsL n (busesE n) l (l.drop 0) 0) := rfl
  have HLN : Hid (clearE n l = 0 → l.length ≤ 24) := fun hz => (clearE_ok hz).2.1
  have hl1 := hl.1
  obtain ⟨N, hN⟩ : ∃ k, l.length = k := ⟨_, rfl⟩
  have HN := Lib.hid hN
  rw [hN] at hl1 HCK HLN ⊢
  have HL := Lib.hid (hl1.below B1)
  have hnm : N ≤ 9223372036854775807 := by
    rcases hl1 with ⟨h, _⟩ | ⟨_, _, _, _, _, h, _⟩
    · omega
    · exact h
  generalize pairsE n l = PE at *
  generalize clearE n l = Z at *
  have HB1 := Lib.hid B1
  have hn1 := K1.lt
  have z0 := K1.cell 0 rfl
  have z1 := K1.cell 1 rfl
  have z2 := K1.cell 2 rfl
  have z3 := K1.cell 3 rfl
  have z4 := K1.cell 4 rfl
  have z5 := K1.cell 5 rfl
  obtain ⟨PB, hPB⟩ : ∃ f : CRA → Int, (fun x : CRA => busAt n (busesE n) x.node) = f := ⟨_, rfl⟩
  obtain ⟨PF, hPF⟩ : ∃ f : CRA → Int, (fun x : CRA => farE n (busesE n) x.node x.branch) = f := ⟨_, rfl⟩
  have HPH : Hid (∀ x y, pairHit n (busesE n) x y = (!sameB x.branch y.branch && (PF y == PB x))) := fun x y => by rw [← hPB, ← hPF]; rfl
  have HBU' : Hid (∀ (x : CRA), x ∈ l → Z = 0 → ∀ tb ub bb isl W, PEnv x0 n (busesE n) nb tb ub bb isl W → Calls Try.prog 51 #[.string x.node, .pointer (some ⟨tb, 0, none⟩), .pointer (some ⟨nb, 0, none⟩)] W fun e w' => e = .returned (.int .i64 (PB x)) ∧ Below W.heap.size W w') := by rw [← hPB]; exact HBU
  have HFA' : Hid (∀ (x : CRA), x ∈ l → Z = 0 → ∀ tb ub bb isl W, PEnv x0 n (busesE n) nb tb ub bb isl W → Calls Try.prog 53 #[.agg x.cells.toArray, .pointer (some ⟨nb, 0, none⟩), .pointer (some ⟨ub, 0, none⟩)] W fun e w' => e = .returned (.int .i64 (PF x)) ∧ Below W.heap.size W w') := by rw [← hPF]; exact HFA
  clear hr hwf hl hl1 hN B1 K1 HBU HFA hPB hPF HNR HNK
  have HNA : Hid (x0.val n = .agg #[.slice x0.na n.nodes.length x0.nc, .slice x0.sa n.sws.length x0.sc, .slice x0.ba n.brs.length x0.bc, .slice x0.ga n.gens.length x0.gc, .slice x0.la n.loads.length x0.lc, .slice x0.ta n.stores.length x0.tc]) := rfl
  rw [HNA.out] at HCK HFR ⊢
  have HW1 := Lib.hid hW1
  have HNB := Lib.hid hnb0
  generalize x0.na = na at *
  generalize x0.nc = nc at *
  generalize x0.sa = sa at *
  generalize x0.sc = sc at *
  generalize x0.ba = ba at *
  generalize x0.bc = bc at *
  generalize x0.ga = ga at *
  generalize x0.gc = gc at *
  generalize x0.la = la at *
  generalize x0.lc = lc at *
  generalize x0.ta = ta at *
  generalize x0.tc = tc at *
  generalize n.nodes.length = nn at *
  generalize n.sws.length = sn at *
  generalize n.brs.length = bn at *
  generalize n.gens.length = gn at *
  generalize n.loads.length = ln at *
  generalize n.stores.length = tn at *
  clear hW1 hnb0 HNA
  go_enter Try.func26, Try.ntmps26
  go_wp2_with fail
  rw [HW1.out, HNB.out]
  refine HCK.out.mono ?_; rintro e w2 ⟨rfl, hb2⟩
  have B2 := Lib.hid hb2
  have z0 := (hb2.cell (p := ⟨nb, 0, none⟩) hn1).trans z0
  have z1 := (hb2.cell (p := ⟨nb, 1, none⟩) hn1).trans z1
  have z2 := (hb2.cell (p := ⟨nb, 2, none⟩) hn1).trans z2
  have z3 := (hb2.cell (p := ⟨nb, 3, none⟩) hn1).trans z3
  have z4 := (hb2.cell (p := ⟨nb, 4, none⟩) hn1).trans z4
  have z5 := (hb2.cell (p := ⟨nb, 5, none⟩) hn1).trans z5
  clear hb2 HCK
  by_cases hz : Z = 0
  ·
    have g1 : (Z != 0) = false := by simp [hz]
    have HZ := Lib.hid hz
    have HPE := Lib.hid (HE.out.trans (if_neg (fun h => h hz)))
    have h24 := HLN.out hz
    have HFR2 := Lib.hid (HFR.out hz w2 B2.out)
    clear hz HE HLN HFR
    go_wp2_with fail
    refine HFR2.out.mono ?_; rintro e w3 ⟨bb, cb, cm, rfl, hkb, hb3⟩
    have B3 := Lib.hid (belowT B2.out hb3)
    have KB3 := Lib.hid hkb
    clear hb3 hkb HFR2 z0 z1 z2 z3 z4 z5
    have TK := (Blk.new w3 #[.slice (some ⟨bb, 0, none⟩) nn nn, .slice (some ⟨cb, 0, none⟩) cm cm] 104).alloc (.cells #[.func (.func 51) #[] #[.pointer (some ⟨w3.heap.size, 0, none⟩), .pointer (some ⟨nb, 0, none⟩)]] 107)
    have UK := Blk.new2 w3 (.cells #[.slice (some ⟨bb, 0, none⟩) nn nn, .slice (some ⟨cb, 0, none⟩) cm cm] 104) #[.func (.func 51) #[] #[.pointer (some ⟨w3.heap.size, 0, none⟩), .pointer (some ⟨nb, 0, none⟩)]] 107
    have B4 := belowA (belowA B3.out (.cells #[.slice (some ⟨bb, 0, none⟩) nn nn, .slice (some ⟨cb, 0, none⟩) cm cm] 104)) (.cells #[.func (.func 51) #[] #[.pointer (some ⟨w3.heap.size, 0, none⟩), .pointer (some ⟨nb, 0, none⟩)]] 107)
    have KB4 := (KB3.out.alloc (.cells #[.slice (some ⟨bb, 0, none⟩) nn nn, .slice (some ⟨cb, 0, none⟩) cm cm] 104)).alloc (.cells #[.func (.func 51) #[] #[.pointer (some ⟨w3.heap.size, 0, none⟩), .pointer (some ⟨nb, 0, none⟩)]] 107)
    go_wp2_with fail
    obtain ⟨tb, htb⟩ : ∃ x, w3.heap.size = x := ⟨_, rfl⟩
    rw [htb] at TK UK B4 KB4 ⊢
    obtain ⟨We, hWe⟩ : ∃ x, (w3.alloc (.cells #[.slice (some ⟨bb, 0, none⟩) nn nn, .slice (some ⟨cb, 0, none⟩) cm cm] 104)).alloc (.cells #[.func (.func 51) #[] #[.pointer (some ⟨tb, 0, none⟩), .pointer (some ⟨nb, 0, none⟩)]] 107) = x := ⟨_, rfl⟩
    rw [hWe] at TK UK B4 KB4
    have HWe := Lib.hid hWe
    have HEN : Hid (∀ W, Below We.heap.size We W → PEnv x0 n (busesE n) nb tb (tb + 1) bb (.slice (some ⟨cb, 0, none⟩) cm cm) W) := fun W hW =>
      HEV.out tb (tb + 1) bb _ W (belowT B4 hW) (below_blk hW TK TK.lt) (below_blk hW UK UK.lt) (below_blk hW KB4 KB4.lt)
    have HBB := Lib.hid (fun x (hx : x ∈ l) W (hW : Below We.heap.size We W) => HBU'.out x hx HZ.out tb (tb + 1) bb _ W (HEN.out W hW))
    have HFF := Lib.hid (fun x (hx : x ∈ l) W (hW : Below We.heap.size We W) => HFA'.out x hx HZ.out tb (tb + 1) bb _ W (HEN.out W hW))
    have HUK := Lib.hid UK
    have HLE := Lib.hid (HL.out.below B4)
    have BWE := Lib.hid (belowT HB1.out B4)
    have hul := UK.lt
    obtain ⟨i0, hi0, hz0, hz1, hz2⟩ := info_parts infoPr
    clear TK UK B4 KB4 B3 KB3 B2 HEV HBU' HFA' HEN htb hWe HB1
    obtain ⟨PR, hPR⟩ : ∃ f, rowL n (busesE n) = f := ⟨_, rfl⟩
    obtain ⟨PL, hPL⟩ : ∃ f, pairsL n (busesE n) l = f := ⟨_, rfl⟩
    have HRD : Hid (∀ (x : CRA) (i k : Nat) (y : CRA), l[k]? = some y → PR x i (l.drop k) k = if pairHit n (busesE n) x y = true then ((i : Int), (k : Int)) :: PR x i (l.drop (k + 1)) (k + 1) else PR x i (l.drop (k + 1)) (k + 1)) := fun x i k y h => by rw [← hPR]; exact rowL_drop h
    have HPD : Hid (∀ (k : Nat) (y : CRA), l[k]? = some y → PL (l.drop k) k = PR y k (l.drop 0) 0 ++ PL (l.drop (k + 1)) (k + 1)) := fun k y h => by rw [← hPL, ← hPR]; exact pairsL_drop h
    have HRN : Hid (∀ x i k, PR x i [] k = []) := fun x i k => by rw [← hPR]; rfl
    have HPN : Hid (∀ k, PL [] k = []) := fun k => by rw [← hPL]; rfl
    have HP0 : Hid (PE = PL (l.drop 0) 0) := by show _ = _; rw [← hPL]; exact HPE.out
    clear hPR hPL HPE
    rw [HWe.out]
    go_loopw [27, 10] (fun i ov wr => ∃ (k : Nat) (acc : List (Int × Int)), k ≤ N ∧ i = .int .i64 k ∧ acc.length ≤ k * 24 ∧ Hid (acc ++ PL (l.drop k) k = PE) ∧ Hid (wr.ownsRow We.heap.size 71 2 ov acc.length (flat prC acc)) ∧ Hid (Below We.heap.size We wr)) (fun i _ _ => N - (intOf i).toNat)
    case atStart => exact ⟨0, [], Nat.zero_le _, rfl, Nat.zero_le _, HP0.out.symm, World.ownsRow_nil _ _ _ _, Below.refl _ _⟩
    case round =>
      obtain ⟨k, acc, hk, rfl, hac, hpe, how, hbl⟩ := hrel
      obtain ⟨ova, ovc, rfl⟩ := row_slice how.out
      by_cases hlt : k < N
      ·
        obtain ⟨x, hx⟩ : ∃ x, l[k]? = some x := ⟨_, List.getElem?_eq_getElem (by rw [HN.out]; exact hlt)⟩
        obtain ⟨g, off, cap', hvv, _, _, hgl, hc⟩ := (HLE.out.below hbl.out).addr (by omega)
        simp only [Value.slice.injEq] at hvv
        obtain ⟨rfl, _, rfl⟩ := hvv
        obtain ⟨c0, c1, c2, c3, c4, c5⟩ := cra_cells hc hx
        have hpd := HPD.out k x hx
        have HPR : Hid (acc ++ (PR x k (l.drop 0) 0 ++ PL (l.drop (k + 1)) (k + 1)) = PE) := by show _ = _; rw [← hpd]; exact hpe.out
        have HXM := Lib.hid (List.mem_of_getElem? hx)
        have HPX := Lib.hid (fun y => HPH.out x y)
        have HRX := Lib.hid (fun k' y h => HRD.out x k k' y h)
        have HXB := Lib.hid (HBB.out x HXM.out)
        have HXN := Lib.hid (HRN.out x k)
        generalize PB x = BX at *
        obtain ⟨PX, hPX⟩ : ∃ f, PR x k = f := ⟨_, rfl⟩
        rw [hPX] at HPR HRX HXN
        obtain ⟨QX, hQX⟩ : ∃ f, pairHit n (busesE n) x = f := ⟨_, rfl⟩
        rw [hQX] at HPX HRX
        clear hx hc hpd hpe hPX hQX
        obtain ⟨xbk, xbr, xnd, xca, xcl, xcc, xpts, xpk, xop⟩ := x
        simp only at c0 c1 c2 c3 c4 c5 HPX HXB
        have XK := Lib.hid (Blk.new wr #[.string xbk, .string xbr, .string xnd, .slice xca xcl xcc, .int .i64 xpk, .int .i64 xop] 56)
        have HO1 := Lib.hid (row_alloc how.out (.cells #[.string xbk, .string xbr, .string xnd, .slice xca xcl xcc, .int .i64 xpk, .int .i64 xop] 56))
        have HB1 := Lib.hid (belowA hbl.out (.cells #[.string xbk, .string xbr, .string xnd, .slice xca xcl xcc, .int .i64 xpk, .int .i64 xop] 56))
        obtain ⟨xb, hxb⟩ : ∃ x, wr.heap.size = x := ⟨_, rfl⟩
        rw [hxb] at XK
        have HXS := Lib.hid hxb
        have HXO : Hid (∀ j, (Value.slice ova acc.length ovc).ownBlock = some j → j < xb) := fun j hj => by rw [← hxb]; exact row_lt how.out j hj
        have hxw : We.heap.size ≤ xb := by rw [← hxb]; exact hbl.out.size
        clear hxb how hbl
        go_wp2_with fail
        rw [HXS.out]
        generalize wr.alloc (.cells #[.string xbk, .string xbr, .string xnd, .slice xca xcl xcc, .int .i64 xpk, .int .i64 xop] 56) = W5 at *
        clear c0 c1 c2 c3 c4 c5 HXS
        go_loopw [34, 10] (fun i ov w2 => ∃ (j : Nat) (ac2 : List (Int × Int)), j ≤ N ∧ i = .int .i64 j ∧ ac2.length ≤ k * 24 + j ∧ Hid (ac2 ++ (PX (l.drop j) j ++ PL (l.drop (k + 1)) (k + 1)) = PE) ∧ Hid (w2.ownsRow We.heap.size 71 2 ov ac2.length (flat prC ac2)) ∧ Hid (ov.ownBlock ≠ some xb) ∧ Hid (Blk w2 xb #[.string xbk, .string xbr, .string xnd, .slice xca xcl xcc, .int .i64 xpk, .int .i64 xop] 56) ∧ Hid (Below We.heap.size We w2)) (fun i _ _ => N - (intOf i).toNat)
        case atStart => exact ⟨0, acc, Nat.zero_le _, rfl, by omega, HPR, HO1, fun e => Nat.lt_irrefl _ (HXO.out _ e), XK, HB1⟩
        case round =>
          clear HO1 XK HB1 HPR HXO
          obtain ⟨j, ac2, hj, rfl, hac2, hpe, how, hnx, hxk, hbl⟩ := hrel
          obtain ⟨ova, ovc, rfl⟩ := row_slice how.out
          by_cases hlt : j < N
          ·
            obtain ⟨y, hy⟩ : ∃ x, l[j]? = some x := ⟨_, List.getElem?_eq_getElem (by rw [HN.out]; exact hlt)⟩
            obtain ⟨g, off, cap', hvv, _, _, hgl, hc⟩ := (HLE.out.below hbl.out).addr (by omega)
            simp only [Value.slice.injEq] at hvv
            obtain ⟨hga, _, rfl⟩ := hvv
            cases hga
            obtain ⟨c0, c1, c2, c3, c4, c5⟩ := cra_cells hc hy
            have HYM := List.mem_of_getElem? hy
            have HRY := Lib.hid (HRX.out j y hy)
            have HYF := Lib.hid (HFF.out y HYM)
            have HPY := Lib.hid (HPX.out y)
            obtain ⟨QY, hQY⟩ : ∃ b, QX y = b := ⟨_, rfl⟩
            rw [hQY] at HRY HPY
            generalize PF y = FY at *
            clear hy hc HYM hQY
            obtain ⟨ybk, ybr, ynd, yca, ycl, ycc, ypts, ypk, yop⟩ := y
            simp only at c0 c1 c2 c3 c4 c5 HPY HYF
            have HYA : Hid ((CRA.cells ⟨ybk, ybr, ynd, yca, ycl, ycc, ypts, ypk, yop⟩).toArray = #[.string ybk, .string ybr, .string ynd, .slice yca ycl ycc, .int .i64 ypk, .int .i64 yop]) := rfl
            rw [HYA.out] at HYF
            have YK := Blk.new wr #[.string ybk, .string ybr, .string ynd, .slice yca ycl ycc, .int .i64 ypk, .int .i64 yop] 56
            have XK := hxk.out.alloc (.cells #[.string ybk, .string ybr, .string ynd, .slice yca ycl ycc, .int .i64 ypk, .int .i64 yop] 56)
            have HO1 := Lib.hid (row_alloc how.out (.cells #[.string ybk, .string ybr, .string ynd, .slice yca ycl ycc, .int .i64 ypk, .int .i64 yop] 56))
            have HB1 := Lib.hid (belowA hbl.out (.cells #[.string ybk, .string ybr, .string ynd, .slice yca ycl ycc, .int .i64 ypk, .int .i64 yop] 56))
            obtain ⟨yb, hyb⟩ : ∃ x, wr.heap.size = x := ⟨_, rfl⟩
            rw [hyb] at YK
            have HYS := Lib.hid hyb
            clear hyb how hbl hxk HYA
            go_wp2_with fail
            rw [HYS.out]
            generalize wr.alloc (.cells #[.string ybk, .string ybr, .string ynd, .slice yca ycl ycc, .int .i64 ypk, .int .i64 yop] 56) = W6 at *
            clear c0 c1 c2 c3 c4 c5 HYS
            have HUX := Lib.hid (below_blk HB1.out HUK.out hul)
            have q1 := XK.cell 1 rfl
            have q2 := XK.cell 2 rfl
            have p0 := YK.cell 0 rfl
            have p1 := YK.cell 1 rfl
            have p2 := YK.cell 2 rfl
            have p3 := YK.cell 3 rfl
            have p4 := YK.cell 4 rfl
            have p5 := YK.cell 5 rfl
            have uu := HUX.out.cell 0 rfl
            have HXK := Lib.hid XK
            have HYK := Lib.hid YK
            clear XK YK
            have HSE : Hid (sameB xbr ybr = (xbr.toList == ybr.toList)) := rfl
            cases hs : sameB xbr ybr
            ·
              rw [hs] at HSE HPY
              have g1 : (xbr.toList == ybr.toList) = false := HSE.out.symm
              have HQY : Hid (QY = (FY == BX)) := by show _ = _; rw [HPY.out]; rfl
              have HS : Hid (∀ W, Below W6.heap.size W6 W → (W.cell? ⟨xb, 1, none⟩ = some (.string xbr) ∧ W.cell? ⟨xb, 2, none⟩ = some (.string xnd) ∧ W.cell? ⟨yb, 0, none⟩ = some (.string ybk) ∧ W.cell? ⟨yb, 1, none⟩ = some (.string ybr) ∧ W.cell? ⟨yb, 2, none⟩ = some (.string ynd) ∧ W.cell? ⟨yb, 3, none⟩ = some (.slice yca ycl ycc) ∧ W.cell? ⟨yb, 4, none⟩ = some (.int .i64 ypk) ∧ W.cell? ⟨yb, 5, none⟩ = some (.int .i64 yop) ∧ W.cell? ⟨tb + 1, 0, none⟩ = some (.func (.func 51) #[] #[.pointer (some ⟨tb, 0, none⟩), .pointer (some ⟨nb, 0, none⟩)]))) := fun W hW => by
                have h1 := below_blk hW HXK.out HXK.out.lt
                have h2 := below_blk hW HYK.out HYK.out.lt
                have h3 := below_blk hW HUX.out HUX.out.lt
                exact ⟨h1.cell 1 rfl, h1.cell 2 rfl, h2.cell 0 rfl, h2.cell 1 rfl, h2.cell 2 rfl, h2.cell 3 rfl, h2.cell 4 rfl, h2.cell 5 rfl, h3.cell 0 rfl⟩
              have D0 : Hid (Below W6.heap.size W6 W6.drew) := ⟨rfl, rfl, rfl, Nat.le_refl _, fun _ _ => rfl⟩
              have HF6 := Lib.hid (HYF.out W6.drew (belowT HB1.out D0.out))
              clear hs HSE q1 q2 p0 p1 p2 p3 p4 p5 uu HYF
              go_cut [53] from 39 to 53 (fun s53 wx => s53 = .bool (FY == BX) ∧ Hid (Below W6.heap.size W6 wx))
              case first =>
                go_region_held3 (fun W => (W.cell? ⟨xb, 1, none⟩ = some (.string xbr) ∧ W.cell? ⟨xb, 2, none⟩ = some (.string xnd) ∧ W.cell? ⟨yb, 0, none⟩ = some (.string ybk) ∧ W.cell? ⟨yb, 1, none⟩ = some (.string ybr) ∧ W.cell? ⟨yb, 2, none⟩ = some (.string ynd) ∧ W.cell? ⟨yb, 3, none⟩ = some (.slice yca ycl ycc) ∧ W.cell? ⟨yb, 4, none⟩ = some (.int .i64 ypk) ∧ W.cell? ⟨yb, 5, none⟩ = some (.int .i64 yop) ∧ W.cell? ⟨tb + 1, 0, none⟩ = some (.func (.func 51) #[] #[.pointer (some ⟨tb, 0, none⟩), .pointer (some ⟨nb, 0, none⟩)])))
                  (first
                    | with_reducible exact HS.out _ D0.out
                    | with_reducible exact HS.out _ D1.out
                    | with_reducible exact HS.out _ D2.out)
                  (first
                    | (go_at_call 53; refine HF6.out.mono ?_; rintro e w7 ⟨rfl, hb7⟩; have D1 := Lib.hid (belowT D0.out hb7); clear hb7)
                    | (go_at_call 51; refine (HXB.out w7 (belowT HB1.out D1.out)).mono ?_; rintro e w8 ⟨rfl, hb8⟩; have D2 := Lib.hid (belowT D1.out hb8); clear hb8))
                all_goals
                  go_simp
                  go_wp2_with fail
                  go_meet
                  exact ⟨rfl, D2⟩
              case rest =>
                obtain ⟨rfl, hb6⟩ := hcut
                have HO2 := Lib.hid (row_below HO1.out hb6.out)
                have HB2 := Lib.hid (belowT HB1.out hb6.out)
                have HX2 := Lib.hid (below_blk hb6.out HXK.out HXK.out.lt)
                clear HO1 HB1 hb6 HXK HYK HUX HS D0 HF6
                cases hq : (FY == BX)
                ·
                  have HN1 : Hid (ac2 ++ (PX (l.drop (j + 1)) (j + 1) ++ PL (l.drop (k + 1)) (k + 1)) = PE) := by
                    show _ = _
                    have h := hpe.out
                    rw [HRY.out, HQY.out, hq] at h
                    exact h
                  clear hpe HRY
                  go_wp2_with fail
                  go_roundw
                  case rel => exact ⟨j + 1, ac2, hlt, by go_num, by omega, HN1, HO2, hnx, HX2, HB2⟩
                  case measure => simp [intOf]; omega
                ·
                  have HN1 : Hid ((ac2 ++ [((k : Int), (j : Int))]) ++ (PX (l.drop (j + 1)) (j + 1) ++ PL (l.drop (k + 1)) (k + 1)) = PE) := by
                    show _ = _
                    have h := hpe.out
                    rw [HRY.out, HQY.out, hq] at h
                    rw [← h]
                    simp
                  clear hpe HRY
                  have HO3 := Lib.hid (row_alloc HO2.out (.cells #[.int .i64 k, .int .i64 j] 71))
                  have HB3 := Lib.hid (belowA HB2.out (.cells #[.int .i64 k, .int .i64 j] 71))
                  have HX3 := Lib.hid (HX2.out.alloc (.cells #[.int .i64 k, .int .i64 j] 71))
                  have N1 := Lib.hid (Blk.new wc #[.int .i64 k, .int .i64 j] 71).row
                  have HXL := Lib.hid HX2.out.lt
                  go_wp2_with (refine wpList_append_lies _ rfl (.tmp 54) (.tmp 58) 64 rfl We.heap.size 71 i0 (.agg #[.int .i64 0, .int .i64 0]) 2 16 Try.underlying64 hi0 hz0 hz1 hz2 rfl (by decide) (.slice ova ac2.length ovc) ac2.length (flat prC ac2) rfl HO3.out ⟨wc.heap.size, 0, none⟩ 1 1 [.int .i64 k, .int .i64 j] rfl rfl N1.out (ints_one [(k : Int), (j : Int)]) (by decide) (by unfold maxLen; omega) (by omega) HB3.out.size _ rfl ?_; intro g1 cap1 u1 hown1 hgrow1 hat1 hlt1)
                  have HOW : Hid (u1.ownsRow We.heap.size 71 2 (.slice (some ⟨g1, 0, none⟩) (ac2 ++ [((k : Int), (j : Int))]).length cap1) (ac2 ++ [((k : Int), (j : Int))]).length (flat prC (ac2 ++ [((k : Int), (j : Int))]))) := by
                    show World.ownsRow _ _ _ _ _ _ _
                    rw [flat_snoc, List.length_append]
                    exact hown1
                  have HLL : Hid ((ac2 ++ [((k : Int), (j : Int))]).length = ac2.length + 1) := by show _ = _; simp
                  have HX4 := Lib.hid (blk_grown HX3.out hgrow1 (fun e => hnx.out e.symm))
                  have HB4 := Lib.hid (Below.grown HB3.out hgrow1 HB3.out.size (row_own HO3.out))
                  have HNX : Hid ((Value.slice (some ⟨g1, 0, none⟩) (ac2.length + 1) cap1).ownBlock ≠ some xb) := by
                    intro e
                    have e' : g1 = xb := Option.some.inj e
                    rcases hat1 with h | h
                    · exact hnx.out (by rw [← e']; exact h)
                    · have := HXL.out; rw [World.size_alloc] at h; omega
                  clear hown1 hgrow1 hat1 hlt1
                  go_wp2_with fail
                  go_roundw
                  case rel => exact ⟨j + 1, ac2 ++ [((k : Int), (j : Int))], hlt, by go_num, by rw [HLL.out]; omega, HN1, by rw [HLL.out] at HOW ⊢; exact HOW, HNX, HX4, HB4⟩
                  case measure => simp [intOf]; omega
            ·
              rw [hs] at HSE HPY
              have g1 : (xbr.toList == ybr.toList) = true := HSE.out.symm
              have HN1 : Hid (ac2 ++ (PX (l.drop (j + 1)) (j + 1) ++ PL (l.drop (k + 1)) (k + 1)) = PE) := by
                show _ = _
                have h := hpe.out
                rw [HRY.out, HPY.out] at h
                exact h
              clear hs HSE hpe HRY HPY
              refine wp_region_quiet_lit (by kernel_rfl) (by kernel_rfl) ?_
              repeat (first | go_big_quiet_step (fail) | (go_big_quiet_want; go_simp; go_big_quiet_on))
              refine wpQuiet_nil ?_
              intro _ hw'
              obtain ⟨nq, hw''⟩ := hw'
              subst hw''
              have HO2 := Lib.hid (row_below HO1.out (below_drewN (Below.refl _ W6) nq))
              have HB2 := Lib.hid (below_drewN HB1.out nq)
              have HX2 := Lib.hid (HXK.out.drewN nq)
              clear HO1 HB1 HXK HYK HUX
              go_wp2_with fail
              go_roundw
              case rel => exact ⟨j + 1, ac2, hlt, by go_num, by omega, HN1, HO2, hnx, HX2, HB2⟩
              case measure => simp [intOf]; omega
          ·
            have hjn : l.drop j = [] := List.drop_eq_nil_of_le (by rw [HN.out]; omega)
            have HN1 : Hid (ac2 ++ PL (l.drop (k + 1)) (k + 1) = PE) := by
              show _ = _
              have h := hpe.out
              rw [hjn, HXN.out] at h
              exact h
            clear hjn hpe
            go_wp2_with fail
            go_roundw
            case rel => exact ⟨k + 1, ac2, by omega, by go_num, by omega, HN1, how, hbl⟩
            case measure => simp [intOf]; omega
      ·
        have hkn : l.drop k = [] := List.drop_eq_nil_of_le (by rw [HN.out]; omega)
        have HAP : Hid (acc = PE) := by
          show _ = _
          have h := hpe.out
          rw [hkn, HPN.out, List.append_nil] at h
          exact h
        clear hkn hpe
        go_wp2_with fail
        go_ret2
        refine ⟨_, by rw [HZ.out]; rfl, ?_, belowT BWE.out hbl.out⟩
        rw [← HAP.out]
        exact Reads.of_owns how.out (by omega)
  ·
    have g1 : (Z != 0) = true := by simp [hz]
    have HPE := Lib.hid (HE.out.trans (if_pos hz))
    clear hz HE HLN HFR z0 z1 z2 z3 z4 z5
    go_wp2_with fail
    go_ret2
    refine ⟨_, rfl, ?_, belowT HB1.out B2.out⟩
    rw [HPE.out]
    exact Or.inl ⟨rfl, rfl, none, 0, rfl⟩
end Go.Proofs.Ytplebibabcdipaa
