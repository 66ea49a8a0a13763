/- slices.IndexFunc, ContainsFunc at pairs; settings.sequence. settings.sequence. -/
import Derived.Test.YtplebibabcdipaaSet5
import Derived.Deep.LoopGhost
namespace Go.Proofs.Ytplebibabcdipaa
open Go.RowKit

abbrev IPr := Int × Int
def IPr.cells (x : IPr) : List Value := pairC x
theorem ipr_cells {w : World} {b off : Nat} {l : List IPr} (h : ∀ j u, (flat IPr.cells l)[j]? = some u → w.cell? ⟨b, off + j, none⟩ = some u) {k : Nat} {x : IPr} (hx : l[k]? = some x) :
    w.cell? ⟨b, off + k * 2, none⟩ = some (.int .i64 x.1) ∧ w.cell? ⟨b, off + k * 2 + 1, none⟩ = some (.int .i64 x.2) := pair_cells h hx
set_option maxHeartbeats 400000 in
theorem indexPr_c (v : Value) (l : List IPr) (P : IPr → Bool) (g : FuncId) (caps : Array Value) (w : World) (hv : Reads w v l.length (flat IPr.cells l))
    (eg : ∀ (args : Array Value) (w : World), (callFunc g args).run Try.prog w = .ok (.enter g args) w) (hf : Hid (TellsE w g caps (fun a : IPr => .agg a.cells.toArray) l P)) :
    Calls Try.prog 124 #[v, .func (.func g) #[] caps] w fun e w' => e = .returned (.int .i64 (idxP P l 0)) ∧ Below w.heap.size w w' := by
  obtain ⟨a, cap, rfl⟩ := hv.slice
  have hn : l.length ≤ 9223372036854775807 := by
    rcases hv with ⟨h, _⟩ | ⟨_, _, _, _, _, h, _⟩
    · omega
    · exact h
  have HE : Hid (idxP P (l.drop 0) (0 : Nat) = idxP P l 0) := by show _ = _; rfl
  generalize idxP P l 0 = E at *
  obtain ⟨n, hN⟩ : ∃ n, l.length = n := ⟨_, rfl⟩
  have HN := Lib.hid hN
  have HV2 : Hid (Reads w (.slice a n cap) n (flat IPr.cells l)) := by show Reads _ _ _ _; rw [← hN]; exact hv
  rw [hN] at hn ⊢
  clear hN hv
  go_enter Try.func124, Try.ntmps124
  go_wp2_with fail
  go_loopw [8] (fun i wr => ∃ k : Nat, k ≤ n ∧ i = .int .i64 k ∧ Hid (idxP P (l.drop k) k = E) ∧ Hid (Below w.heap.size w wr)) (fun i _ => n - (intOf i).toNat)
  case atStart => exact ⟨0, Nat.zero_le _, rfl, HE.out, Below.refl _ _⟩
  case round =>
    obtain ⟨k, hk, rfl, he, hb⟩ := hrel
    by_cases hlt : k < n
    · obtain ⟨b, off, cap', hvv, _, _, hbl, hc⟩ := (HV2.out.below hb.out).addr (by omega)
      simp only [Value.slice.injEq] at hvv
      obtain ⟨rfl, _, rfl⟩ := hvv
      have hlk : k < l.length := by rw [HN.out]; exact hlt
      obtain ⟨x, hx⟩ : ∃ x, l[k]? = some x := ⟨_, List.getElem?_eq_getElem hlk⟩
      obtain ⟨c0, c1⟩ := ipr_cells hc hx
      have hd := idxP_drop (P := P) hx
      have hm := List.mem_of_getElem? hx
      have HD := Lib.hid hd
      have HF := Lib.hid (hf.out x wr hm hb.out)
      clear hd hc hx hm
      go_wp2_with fail
      refine HF.out.mono ?_; rintro e w2 ⟨rfl, hb2⟩
      have HB2 := Lib.hid hb2
      clear hb2 hb
      cases hp : P x
      · have HP := Lib.hid hp
        clear hp
        go_wp2_with fail
        go_roundw
        case rel => exact ⟨k + 1, by omega, by go_num, by show _ = _; rw [← he.out, HD.out, HP.out]; rfl, HB2⟩
        case measure => simp [intOf]; omega
      · have HP := Lib.hid hp
        clear hp
        go_wp2_with fail
        go_ret
        exact ⟨by rw [← he.out, HD.out, HP.out]; rfl, HB2.out⟩
    · have hkn : l.drop k = [] := List.drop_eq_nil_of_le (by rw [HN.out]; omega)
      have HX : Hid (E = -1) := by show _ = _; rw [← he.out, hkn]; rfl
      clear he hkn
      go_wp2_with fail
      go_ret
      exact ⟨by rw [HX.out]; rfl, hb.out⟩

set_option maxHeartbeats 400000 in
theorem containsPr_c (v : Value) (l : List IPr) (P : IPr → Bool) (g : FuncId) (caps : Array Value) (w : World) (hv : Reads w v l.length (flat IPr.cells l))
    (eg : ∀ (args : Array Value) (w : World), (callFunc g args).run Try.prog w = .ok (.enter g args) w) (hf : Hid (TellsE w g caps (fun a : IPr => .agg a.cells.toArray) l P)) :
    Calls Try.prog 101 #[v, .func (.func g) #[] caps] w fun e w' => e = .returned (.bool (l.any P)) ∧ Below w.heap.size w w' := by
  have HC := Lib.hid (indexPr_c v l P g caps w hv eg hf)
  have hi := idxP_neg P l 0 (by decide)
  obtain ⟨a, cap, rfl⟩ := hv.slice
  clear hv hf eg
  generalize idxP P l 0 = E at *
  cases hp : l.any P
  · have h : ¬ 0 ≤ E := fun h => by rw [hi.1 h] at hp; cases hp
    have g1 : decide (0 ≤ E) = false := decide_eq_false (by omega)
    clear hi hp
    go_enter Try.func101, Try.ntmps101
    go_wp2_with fail
    refine HC.out.mono ?_; rintro e w2 ⟨rfl, hb2⟩
    go_wp2_with fail
    go_ret
    exact ⟨rfl, hb2⟩
  · have h : 0 ≤ E := hi.2 hp
    have g1 : decide (0 ≤ E) = true := decide_eq_true h
    clear hi hp
    go_enter Try.func101, Try.ntmps101
    go_wp2_with fail
    refine HC.out.mono ?_; rintro e w2 ⟨rfl, hb2⟩
    go_wp2_with fail
    go_ret
    exact ⟨rfl, hb2⟩

/-- Whether a pair keeps relay k waiting. -/
def waitP (k : Int) (out : List Int) (p : IPr) : Bool := (p.2 == k) && !hasI p.1 out
def readyS (ps : List IPr) (out : List Int) (k : Int) : Bool := !hasI k out && !ps.any (waitP k out)
def findR (ps : List IPr) (out : List Int) : Nat → Nat → Option Nat
  | 0, _ => none
  | r + 1, k => if readyS ps out k = true then some k else findR ps out r (k + 1)
def seqF (ps : List IPr) (n : Nat) : Nat → List Int → List Int
  | 0, out => out
  | f + 1, out => match findR ps out n 0 with
    | none => out
    | some k => seqF ps n f (out ++ [(k : Int)])
/-- How many numbers below n are not in a list. -/
def muR (out : List Int) : Nat → Nat
  | 0 => 0
  | n + 1 => muR out n + (if hasI n out = true then 0 else 1)
def seqE (ps : List IPr) (n : Nat) (out : List Int) : List Int := seqF ps n (muR out n + 1) out
theorem hasI_snoc (j k : Int) (out : List Int) : hasI j (out ++ [k]) = (hasI j out || (j == k)) := by unfold hasI; simp
theorem muR_snoc (out : List Int) (k : Nat) : ∀ (n : Nat), muR (out ++ [(k : Int)]) n ≤ muR out n ∧ (k < n → hasI k out = false → muR (out ++ [(k : Int)]) n < muR out n) := by
  intro n
  induction n with
  | zero => exact ⟨Nat.le_refl _, fun h => by omega⟩
  | succ n ih =>
    unfold muR
    rw [hasI_snoc]
    cases h1 : hasI (n : Int) out
    · by_cases h2 : n = k
      · subst h2
        simp only [Bool.false_or, beq_self_eq_true, if_true, if_false, Bool.false_eq_true]
        exact ⟨by have := ih.1; omega, fun _ _ => by have := ih.1; omega⟩
      · have h3 : ((n : Int) == (k : Int)) = false := by rw [beq_eq_false_iff_ne]; omega
        simp only [h3, Bool.false_or, Bool.false_eq_true, if_false]
        exact ⟨by have := ih.1; omega, fun h4 h5 => by have := ih.2 (by omega) h5; omega⟩
    · simp only [Bool.true_or, if_true]
      refine ⟨by have := ih.1; omega, fun h4 h5 => ?_⟩
      have h6 : k ≠ n := fun e => by subst e; rw [h1] at h5; cases h5
      have := ih.2 (by omega) h5; omega
theorem findR_some {ps : List IPr} {out : List Int} : ∀ (r k j : Nat), findR ps out r k = some j → k ≤ j ∧ j < k + r ∧ readyS ps out j = true := by
  intro r
  induction r with
  | zero => intro k j h; cases h
  | succ r ih =>
    intro k j h
    unfold findR at h
    split at h
    · rename_i hr
      cases h; exact ⟨Nat.le_refl _, by omega, hr⟩
    · have := ih _ _ h; exact ⟨by omega, by omega, this.2.2⟩
theorem ready_not {ps : List IPr} {out : List Int} {k : Int} (h : readyS ps out k = true) : hasI k out = false := by
  unfold readyS at h
  simp only [Bool.and_eq_true, Bool.not_eq_true'] at h
  exact h.1
theorem seqF_eq {ps : List IPr} {n : Nat} : ∀ (f g : Nat) (out : List Int), muR out n < f → muR out n < g → seqF ps n f out = seqF ps n g out := by
  intro f
  induction f with
  | zero => intro g out h; omega
  | succ f ih =>
    intro g out hf hg
    cases g with
    | zero => omega
    | succ g =>
      unfold seqF
      cases h : findR ps out n 0 with
      | none => rfl
      | some k =>
        have h1 := findR_some _ _ _ h
        have h2 := (muR_snoc out k n).2 (by omega) (ready_not h1.2.2)
        exact ih g _ (by omega) (by omega)
theorem seqE_none {ps : List IPr} {n : Nat} {out : List Int} (h : findR ps out n 0 = none) : seqE ps n out = out := by
  unfold seqE seqF; rw [h]
theorem seqE_some {ps : List IPr} {n k : Nat} {out : List Int} (h : findR ps out n 0 = some k) : seqE ps n out = seqE ps n (out ++ [(k : Int)]) := by
  have h1 := findR_some _ _ _ h
  have h2 := (muR_snoc out k n).2 (by omega) (ready_not h1.2.2)
  show seqF ps n (muR out n + 1) out = _
  conv => lhs; unfold seqF
  rw [h]
  exact seqF_eq _ _ _ (by omega) (by omega)

set_option maxHeartbeats 1000000 in
theorem seq1_c (p : IPr) (k : Int) (out : List Int) (ov : Value) (kb ob : Nat) (w : World) (h1 : w.cell? ⟨kb, 0, none⟩ = some (.int .i64 k)) (h2 : w.cell? ⟨ob, 0, none⟩ = some ov) (hk : kb < w.heap.size) (ho : ob < w.heap.size) (hv : IVal w ov out) :
    Calls Try.prog 102 #[.agg p.cells.toArray, .pointer (some ⟨kb, 0, none⟩), .pointer (some ⟨ob, 0, none⟩)] w fun e w' => e = .returned (.bool (waitP k out p)) ∧ Below w.heap.size w w' := by
  obtain ⟨a, b⟩ := p
  show Calls _ _ #[.agg #[.int .i64 a, .int .i64 b], _, _] _ _
  have HE : Hid (waitP k out (a, b) = ((b == k) && !hasI a out)) := rfl
  have B1 := belowA (Below.refl w.heap.size w) (.cells #[.int .i64 a, .int .i64 b] 71)
  have HC := Lib.hid (containsI_c ov out a (w.alloc (.cells #[.int .i64 a, .int .i64 b] 71)) (hv.below B1))
  obtain ⟨oa, oc, rfl⟩ := hv.slice
  have HB := Lib.hid B1
  generalize waitP k out (a, b) = E at *
  generalize hasI a out = H at *
  generalize out.length = on at *
  clear hv B1
  cases hb : (b == k)
  · rw [hb] at HE
    go_enter Try.func102, Try.ntmps102
    go_wp2_with fail
    go_ret
    exact ⟨by rw [HE.out]; rfl, HB.out⟩
  · rw [hb] at HE
    go_enter Try.func102, Try.ntmps102
    go_wp2_with fail
    refine HC.out.mono ?_; rintro e w2 ⟨rfl, rfl⟩
    go_wp2_with fail
    go_ret
    exact ⟨by rw [HE.out]; rfl, HB.out⟩
end Go.Proofs.Ytplebibabcdipaa
namespace Go.Proofs.Ytplebibabcdipaa
open Go.RowKit

theorem muR_nil (n : Nat) : muR [] n = n := by
  induction n with
  | zero => rfl
  | succ n ih => unfold muR; rw [ih]; rfl
set_option maxHeartbeats 8000000 in
set_option maxRecDepth 100000 in
theorem seq_c (n : Nat) (ps : List IPr) (pv : Value) (w : World) (hn : n ≤ 1000) (hp : Reads w pv ps.length (flat pairC ps)) :
    Calls Try.prog 57 #[.int .i64 n, pv] w fun e w' => ∃ ov, e = .returned ov ∧ IVal w' ov (seqE ps n []) ∧ Below w.heap.size w w' := by
  obtain ⟨pa, pc, rfl⟩ := hp.slice
  have HR0 : Hid (seqE ps n [] = seqE ps n []) := rfl
  obtain ⟨R, hR⟩ : ∃ R, seqE ps n [] = R := ⟨_, rfl⟩
  have HR := Lib.hid hR
  rw [hR]
  clear hR HR0
  have HCF : Hid (∀ (k : Int) (out : List Int) (ov : Value) (kb ob : Nat) (W : World), Below w.heap.size w W → W.cell? ⟨kb, 0, none⟩ = some (.int .i64 k) → W.cell? ⟨ob, 0, none⟩ = some ov → kb < W.heap.size → ob < W.heap.size → IVal W ov out →
      Calls Try.prog 101 #[.slice pa ps.length pc, .func (.func 102) #[] #[.pointer (some ⟨kb, 0, none⟩), .pointer (some ⟨ob, 0, none⟩)]] W fun e w' => e = .returned (.bool (ps.any (waitP k out))) ∧ Below W.heap.size W w') := by
    intro k out ov kb ob W hW h1 h2 h3 h4 h5
    refine containsPr_c (.slice pa ps.length pc) ps (waitP k out) _ _ W (hp.below hW) (fun a w' => enters_of Try.func102 (by kernel_rfl) rfl a w') ?_
    intro a W' _ hW'
    refine (seq1_c a k out ov kb ob W' ?_ ?_ (Nat.lt_of_lt_of_le h3 hW'.size) (Nat.lt_of_lt_of_le h4 hW'.size) (h5.below hW')).mono fun e w' ⟨he, hw⟩ => ⟨he, hW'.trans (hw.mono hW'.size)⟩
    · rw [hW'.cell (p := ⟨kb, 0, none⟩) h3]; exact h1
    · rw [hW'.cell (p := ⟨ob, 0, none⟩) h4]; exact h2
  generalize ps.length = pn at *
  have K0 := Lib.hid (Blk.new w #[.slice none 0 0] 49)
  have HB0 := Lib.hid (belowA (Below.refl w.heap.size w) (.cells #[.slice none 0 0] 49))
  have HO0 : Hid ((w.alloc (.cells #[.slice none 0 0] 49)).ownsRow (w.heap.size + 1) 3 1 (.slice none 0 0) 0 (ints [])) := World.ownsRow_nil _ _ _ _
  obtain ⟨ob, hob⟩ : ∃ x, w.heap.size = x := ⟨_, rfl⟩
  have HOB := Lib.hid hob
  have hwo : w.heap.size ≤ ob := by omega
  obtain ⟨i0, hi0, hz0, hz1, hz2⟩ := info_parts infoIntL
  rw [hob] at K0 HO0
  clear hp hob
  go_enter Try.func57, Try.ntmps57
  go_wp2_with fail
  rw [HOB.out]
  generalize w.alloc (.cells #[.slice none 0 0] 49) = W1 at *
  go_loopg [6] (2 * muR [] n + 1) (fun g ag wr => ∃ (q : Bool) (out : List Int) (ov : Value), ag = .bool q ∧ g = 2 * muR out n + (if q = true then 1 else 0) ∧ muR out n + out.length ≤ n ∧ Hid (q = true → seqE ps n out = R) ∧ Hid (q = false → out = R) ∧ Hid (Blk wr ob #[ov] 49) ∧ Hid (wr.ownsRow (ob + 1) 3 1 ov out.length (ints out)) ∧ Hid (Below w.heap.size w wr))
  case atStart => exact ⟨true, [], _, rfl, by simp, by rw [muR_nil]; simp, fun _ => HR.out, fun h => (by cases h), K0, HO0, HB0⟩
  case round =>
    clear K0 HO0 HB0
    obtain ⟨q, out, ov, rfl, rfl, hmu, hq1, hq2, hk, how, hb⟩ := hrel
    obtain ⟨ova, ovc, rfl⟩ := row_slice how.out
    have o0 := hk.out.cell 0 rfl
    cases q
    ·
      have HOR := Lib.hid (hq2.out rfl)
      have HMU := Lib.hid hmu
      clear hmu
      go_wp2_with fail
      go_ret
      refine ⟨_, rfl, ?_, hb.out⟩
      rw [← HOR.out]
      exact Reads.of_owns how.out (by have := HMU.out; omega)
    ·
      have HSR := Lib.hid (hq1.out rfl)
      obtain ⟨FR, hFR⟩ : ∃ x, findR ps out n 0 = x := ⟨_, rfl⟩
      have HFR := Lib.hid hFR
      have HFR0 := Lib.hid hFR
      clear hq1 hq2 hFR
      go_wp2_with fail
      go_loopw [6, 11] (fun ag i wr => ∃ (k : Nat), k ≤ n ∧ i = .int .i64 k ∧ ag = .bool false ∧ Hid (findR ps out (n - k) k = FR) ∧ Hid (Blk wr ob #[.slice ova out.length ovc] 49) ∧ Hid (wr.ownsRow (ob + 1) 3 1 (.slice ova out.length ovc) out.length (ints out)) ∧ Hid (Below w.heap.size w wr)) (fun _ i _ => n - (intOf i).toNat)
      case atStart => exact ⟨0, Nat.zero_le _, rfl, rfl, HFR, hk, how, hb⟩
      case round =>
        clear hk how hb o0 HFR
        obtain ⟨k, hk, rfl, rfl, hfr, hkb, how, hb⟩ := hrel
        have o0 := hkb.out.cell 0 rfl
        by_cases hlt : k < n
        ·
          have hfd : (if readyS ps out k = true then some k else findR ps out (n - (k + 1)) (k + 1)) = FR := by
            have h := hfr.out
            rw [show n - k = (n - (k + 1)) + 1 by omega] at h
            exact h
          have HFD := Lib.hid hfd
          have HRE : Hid (readyS ps out k = (!hasI k out && !ps.any (waitP k out))) := rfl
          have KB := Blk.new wr #[.int .i64 k] 3
          have OB := hkb.out.alloc (.cells #[.int .i64 k] 3)
          have HO1 := row_alloc how.out (.cells #[.int .i64 k] 3)
          have HB1 := belowA hb.out (.cells #[.int .i64 k] 3)
          obtain ⟨kb, hkb0⟩ : ∃ x, wr.heap.size = x := ⟨_, rfl⟩
          have HKB := Lib.hid hkb0
          rw [hkb0] at KB
          clear hfr hfd hkb how hb hkb0
          generalize hW3 : wr.alloc (.cells #[.int .i64 k] 3) = W3 at *
          have hol : out.length ≤ 1000 := by omega
          have HV3 := Reads.of_owns HO1 (by omega)
          have HC1 := Lib.hid (containsI_c _ out k W3 HV3)
          have k0 := KB.cell 0 rfl
          have o0 := OB.cell 0 rfl
          have HC2 := Lib.hid (HCF.out k out _ kb ob W3 HB1 k0 o0 KB.lt OB.lt HV3)
          have HW3 := Lib.hid hW3
          have KB' := Lib.hid KB
          have OB' := Lib.hid OB
          have HO1' := Lib.hid HO1
          have HB1' := Lib.hid HB1
          clear HV3 hW3 KB OB HO1 HB1
          generalize readyS ps out k = RD at *
          generalize hasI k out = H1 at *
          generalize ps.any (waitP k out) = H2 at *
          go_upto_region 8 with fail
          rw [HW3.out, HKB.out]
          go_wp2_with fail
          refine HC1.out.mono ?_; rintro e w4 ⟨rfl, rfl⟩
          cases H1
          ·
            go_wp2_with fail
            refine HC2.out.mono ?_; rintro e w4 ⟨rfl, hb4⟩
            have OB4 := Lib.hid (below_blk hb4 OB'.out OB'.out.lt)
            have KB4 := Lib.hid (below_blk hb4 KB'.out KB'.out.lt)
            have HO4 := Lib.hid (row_below HO1'.out hb4)
            have HB4 := Lib.hid (belowT HB1'.out hb4)
            clear hb4 KB' OB' HO1' HB1' k0 o0 HC1 HC2
            have o0 := OB4.out.cell 0 rfl
            have k0 := KB4.out.cell 0 rfl
            cases H2
            ·
              have hRT : RD = true := HRE.out
              have hfs : FR = some k := by rw [← HFD.out, if_pos hRT]
              have hfr := HFR0.out.trans hfs
              have hri := (findR_some _ _ _ hfr).2.2
              have hmr := (muR_snoc out k n).2 hlt (ready_not hri)
              have HSN : Hid (seqE ps n (out ++ [(k : Int)]) = R) := by show _ = _; rw [← seqE_some hfr]; exact HSR.out
              have HMR := Lib.hid hmr
              clear hRT hfs hfr hri hmr HFD HRE
              have HO5 := Lib.hid (row_alloc HO4.out (.cells #[.int .i64 k] 3))
              have HB5 := Lib.hid (belowA HB4.out (.cells #[.int .i64 k] 3))
              have OB5 := Lib.hid (OB4.out.alloc (.cells #[.int .i64 k] 3))
              have HL1 : Hid (out.length + 1 ≤ maxLen) := by show _ ≤ _; unfold maxLen; omega
              have HOL : Hid (ob + 1 ≤ (w4.alloc (.cells #[.int .i64 k] 3)).heap.size) := by show _ ≤ _; have := OB5.out.lt; omega
              have HL2 : Hid ((out.length + 1) * 8 ≤ 140737488355328) := by show _ ≤ _; omega
              have N1 := Lib.hid (Blk.new w4 #[.int .i64 k] 3).row
              go_wp2_with (refine wpList_append_lies _ rfl (.tmp 25) (.tmp 27) 49 rfl (ob + 1) 3 i0 (.int .i64 0) 1 8 Try.underlying49 hi0 hz0 hz1 hz2 rfl (by decide) (.slice ova out.length ovc) out.length (ints out) rfl HO5.out ⟨w4.heap.size, 0, none⟩ 1 1 [.int .i64 k] rfl rfl N1.out (ints_one [(k : Int)]) (by decide) HL1.out HL2.out HOL.out _ rfl ?_; intro g1 cap1 u1 hown1 hgrow1 hat1 hlt1; have OB6 := Lib.hid (blk_grown OB5.out hgrow1 (fun e => by have := row_own HO5.out _ e.symm; omega)); have p0 := OB6.out.cell 0 rfl; have pf := OB6.out.free 0; have HOW := Lib.hid hown1; have HGR := Lib.hid hgrow1; clear hown1 hgrow1 hat1 hlt1 o0)
              have HOB6 : Hid (Blk (u1.setCell ⟨ob, 0, none⟩ (.slice (some ⟨g1, 0, none⟩) (out.length + 1) cap1)) ob #[.slice (some ⟨g1, 0, none⟩) (out.length + 1) cap1] 49) := OB6.out.set 0 _
              have HB6 : Hid (Below w.heap.size w (u1.setCell ⟨ob, 0, none⟩ (.slice (some ⟨g1, 0, none⟩) (out.length + 1) cap1))) := (Below.grown HB5.out HGR.out HB5.out.size (fun j hj => Nat.le_trans (by omega) (row_own HO5.out j hj))).setCell hwo _
              have HOW6 : Hid ((u1.setCell ⟨ob, 0, none⟩ (.slice (some ⟨g1, 0, none⟩) (out.length + 1) cap1)).ownsRow (ob + 1) 3 1 (.slice (some ⟨g1, 0, none⟩) (out ++ [(k : Int)]).length cap1) (out ++ [(k : Int)]).length (ints (out ++ [(k : Int)]))) := by
                have h1 : ints (out ++ [(k : Int)]) = ints out ++ [.int .i64 k] := by unfold ints; simp
                have h2 : (out ++ [(k : Int)]).length = out.length + 1 := by simp
                show World.ownsRow _ _ _ _ _ _ _
                rw [h1, h2]
                exact row_kept HOW.out (But.set (But.refl ob u1) 0 _) (Nat.lt_succ_self _)
              have HLN : Hid ((out ++ [(k : Int)]).length = out.length + 1) := by show _ = _; simp
              have hm6 : muR (out ++ [(k : Int)]) n + (out ++ [(k : Int)]).length ≤ n := by rw [HLN.out]; have := HMR.out; omega
              have HMU := Lib.hid hm6
              clear hm6 p0 pf
              go_wp2_with fail
              go_roundg (2 * muR (out ++ [(k : Int)]) n + 1)
              case rel => exact ⟨true, out ++ [(k : Int)], .slice (some ⟨g1, 0, none⟩) (out.length + 1) cap1, rfl, by simp, HMU.out, fun _ => HSN.out, fun h => (by cases h), HOB6, by have h := HOW6.out; rw [HLN.out] at h ⊢; exact h, HB6⟩
              case measure => have := HMR.out; simp; omega
            ·
              have hRF : RD = false := HRE.out
              have HFS : Hid (findR ps out (n - (k + 1)) (k + 1) = FR) := by show _ = _; rw [← HFD.out, if_neg (by rw [hRF]; decide)]
              clear hRF HFD HRE
              go_wp2_with fail
              go_roundw
              case rel => exact ⟨k + 1, hlt, by go_num, rfl, HFS, OB4, HO4, HB4⟩
              case measure => simp [intOf]; omega
          ·
            have hRF : RD = false := HRE.out
            have HFS : Hid (findR ps out (n - (k + 1)) (k + 1) = FR) := by show _ = _; rw [← HFD.out, if_neg (by rw [hRF]; decide)]
            clear hRF HFD HRE
            go_wp2_with fail
            go_roundw
            case rel => exact ⟨k + 1, hlt, by go_num, rfl, HFS, OB', HO1', HB1'⟩
            case measure => simp [intOf]; omega
        ·
          have HFN : Hid (FR = none) := by show _ = _; rw [← hfr.out, show n - k = 0 by omega]; rfl
          have HOR : Hid (out = R) := by show _ = _; rw [← HSR.out, seqE_none (HFR0.out.trans HFN.out)]
          clear hfr
          go_wp2_with fail
          go_roundg (2 * muR out n)
          case rel => exact ⟨false, out, _, rfl, by simp, hmu, fun h => (by cases h), fun _ => HOR.out, hkb, how, hb⟩
          case measure => simp
end Go.Proofs.Ytplebibabcdipaa
