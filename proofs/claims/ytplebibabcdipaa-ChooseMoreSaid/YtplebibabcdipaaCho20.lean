/- slices.Clone and DeleteFunc at []string. -/
import Derived.Test.YtplebibabcdipaaCho19
import Derived.Lib.SliceRun
import Derived.Test.YtplebibabcdipaaIns
namespace Go.Proofs.Ytplebibabcdipaa
open Go.RowKit

set_option maxHeartbeats 1000000 in
theorem cloneS_c (v : Value) (l : List ByteArray) (w : World) (hv : SVal w v l) (hn : l.length ≤ 1000000000) (h0 : 0 < l.length) :
    Calls Try.prog 75 #[v] w fun e w' => ∃ u, e = .returned u ∧ w'.ownsRow w.heap.size 9 1 u l.length (strs l) ∧ Below w.heap.size w w' := by
  have hr : Reads w v l.length (strs l) := hv
  clear hv
  obtain ⟨n, hN⟩ : ∃ n, l.length = n := ⟨_, rfl⟩
  have hfl : (strs l).length = n * 1 := by rw [strs_len, hN]; omega
  rw [hN] at hr hn h0 ⊢
  clear hN
  have h1c := strs_one l
  generalize strs l = cs at *
  rcases hr with ⟨h, _⟩ | ⟨b, off, cap, rfl, h1, h2, h3, h4⟩
  · omega
  · have qn : ∀ (w : World) (n c : Nat), (binOp .eql 22 (.slice (some ⟨b, off, none⟩) n c) (.slice none 0 0)).run Try.prog w = .ok (.bool false) w := fun w n c => Lib.run_eql_slice_nil w 22 9 (some ⟨b, off, none⟩) n c 0 0 Try.underlying22
    have HC := Lib.hid h4
    have HF := Lib.hid hfl
    have H1 := Lib.hid h1c
    obtain ⟨i0, hi, hz0, hz1, hz2⟩ := info_parts infoStrL
    clear h4 hfl h1c
    go_enter Try.func75, Try.ntmps75
    go_wp2_with (first | (rw [qn]) | (at_builtin; refine wpList_append_own _ rfl _ _ 22 rfl w.heap.size 9 i0 _ 1 16 Try.underlying22 hi hz0 hz1 hz2 rfl (by decide) _ 0 [] rfl (owns_lit (Blk.new _ _ _) (Nat.le_refl _) 1 0 rfl (by decide)) ⟨b, off, none⟩ n cap cs rfl HF.out (cells_add (fun j u hj => by rw [(belowA (Below.refl _ w) _).cell (by exact h3)]; exact HC.out j u hj)) H1.out (by unfold maxLen; omega) (by omega) (by simp) ?_; intro v' w3 hown' hgrow3 hnil3))
    go_ret
    obtain ⟨a3, c3, rfl⟩ := row_slice hown'
    refine ⟨_, rfl, ?_, Below.grown (belowA (Below.refl _ w) _) hgrow3 (by simp) (fun j hj => by have : w.heap.size = j := Option.some.inj hj; omega)⟩
    simpa using hown'
/-- What a function value answers for a name, in every world but for a row of the caller's. -/
def TellsO (base : Nat) (w : World) (g : FuncId) (caps : Array Value) (P : ByteArray → Bool) : Prop :=
  ∀ (a : ByteArray) (W : World), Below base w W → Calls Try.prog g (#[.string a] ++ caps) W fun e w' => e = .returned (.bool (P a)) ∧ Below W.heap.size W w'
def DelP (base : Nat) (w : World) (r : List ByteArray) (e : Ending) (w' : World) : Prop :=
  ∃ g c, e = .returned (.slice (some ⟨g, 0, none⟩) r.length c) ∧ Reads w' (.slice (some ⟨g, 0, none⟩) r.length c) r.length (strs r) ∧ Below base w w'
theorem filt_take {P : ByteArray → Bool} {l : List ByteArray} {k : Nat} {x : ByteArray} (h : l[k]? = some x) : (l.take (k + 1)).filter P = if P x = true then (l.take k).filter P ++ [x] else (l.take k).filter P := by
  obtain ⟨hk, hx⟩ := List.getElem?_eq_some_iff.1 h
  rw [List.take_succ_eq_append_getElem hk, List.filter_append, hx]
  by_cases hp : P x = true
  · rw [if_pos hp]; simp [hp]
  · rw [if_neg hp]; simp [hp]
set_option maxHeartbeats 4000000 in
theorem delS_c (base : Nat) (v : Value) (l : List ByteArray) (P : ByteArray → Bool) (g : FuncId) (caps : Array Value) (w : World) (hv : w.ownsRow base 9 1 v l.length (strs l)) (h0 : 0 < l.length) (hn : l.length ≤ 1000000000) (hb : base ≤ w.heap.size)
    (eg : ∀ (args : Array Value) (w : World), (callFunc g args).run Try.prog w = .ok (.enter g args) w) (hf : TellsO base w g caps P) :
    Calls Try.prog 74 #[v, .func (.func g) #[] caps] w (DelP base w (l.filter fun s => !P s)) := by
  have HI := Lib.hid (indexStr_c v l P g caps w (Reads.of_owns hv (by omega)) eg (fun a W _ hW => (hf a W (hW.mono hb)).mono fun e w' ⟨he, hw⟩ => ⟨he, hW.trans (hw.mono hW.size)⟩))
  have HF := Lib.hid hf
  have hir := idxP_range P l 0
  have hng := idxP_neg P l 0 (by decide)
  obtain ⟨hx, hv2⟩ := hv
  rcases hv2 with ⟨_, hz⟩ | ⟨rb, cap, cur, rfl, hrb, hh, hnc, hcm, hcs, htk⟩
  · omega
  have hB : Blk w rb cur 9 := hh
  have hcell : ∀ (j : Nat) (s : ByteArray), l[j]? = some s → cur[j]? = some (.string s) := fun j s hj => by
    have h1 : (strs l)[j]? = some (.string s) := by unfold strs; rw [List.getElem?_map, hj]; rfl
    rw [← htk, List.getElem?_take] at h1
    split at h1
    · rw [Array.getElem?_toList] at h1; exact h1
    · cases h1
  generalize idxP P l 0 = E at *
  obtain ⟨n, hN⟩ : ∃ n, l.length = n := ⟨_, rfl⟩
  have HN := Lib.hid hN
  rw [hN] at hnc hn h0 ⊢
  have hcap : cap ≤ 9223372036854775807 := by unfold maxLen at hcm; omega
  have HCS : Hid (cur.size = cap) := by show _ = _; omega
  clear hf hx hh htk hcm hcs
  rw [hN] at HI
  rcases hir with rfl | ⟨k, x, hE, hlk, hPx, hall⟩
  · have hany : l.filter (fun s => !P s) = l := by
      refine List.filter_eq_self.2 fun s hs => ?_
      cases hp : P s
      · rfl
      · have := hng.2 (List.any_eq_true.2 ⟨s, hs, hp⟩)
        omega
    have HA := Lib.hid hany
    have HR : Hid (Reads w (.slice (some ⟨rb, 0, none⟩) n cap) n (strs l)) := Or.inr ⟨rb, 0, cap, rfl, hnc, by omega, hB.lt, fun j u hj => by
      rw [Nat.zero_add]
      unfold strs at hj
      rw [List.getElem?_map] at hj
      cases hl : l[j]? with
      | none => rw [hl] at hj; cases hj
      | some s => rw [hl] at hj; cases hj; exact hB.cell j (hcell j s hl)⟩
    clear hany hng hcell hB HCS HF
    go_enter Try.func74, Try.ntmps74
    go_wp2_with fail
    refine HI.out.mono ?_; rintro e w2 ⟨rfl, hb2⟩
    have HB2 := Lib.hid hb2
    clear hb2
    go_wp2_with fail
    go_ret
    refine ⟨rb, cap, ?_, ?_, HB2.out.mono hb⟩
    · rw [HA.out, HN.out]; rfl
    · rw [HA.out, HN.out]; exact HR.out.below HB2.out
  · have hkn : k < n := by rw [← hN]; exact (List.getElem?_eq_some_iff.1 hlk).1
    have hEk : E = (k : Int) := by omega
    subst hEk
    have hft : (l.take k).filter (fun s => !P s) = l.take k := by
      refine List.filter_eq_self.2 fun s hs => ?_
      obtain ⟨j, hj⟩ := List.getElem?_of_mem hs
      rw [List.getElem?_take] at hj
      split at hj
      · rename_i hjk; rw [hall j s hjk hj]; rfl
      · cases hj
    have hf1 := filt_take (P := fun s => !P s) hlk
    rw [hPx, if_neg (show ¬ (!true) = true by decide), hft] at hf1
    have HI0 : Hid (k = ((l.take (k + 1)).filter fun s => !P s).length) := by show _ = _; rw [hf1, List.length_take]; omega
    have HP0 : Hid (∀ (m : Nat) (s : ByteArray), ((l.take (k + 1)).filter fun s => !P s)[m]? = some s → cur[m]? = some (.string s)) := fun m s hm => by
      rw [hf1, List.getElem?_take] at hm
      split at hm
      · exact hcell m s hm
      · cases hm
    have HQ0 : Hid (∀ (m : Nat) (s : ByteArray), k + 1 ≤ m → l[m]? = some s → cur[m]? = some (.string s)) := fun m s _ hm => hcell m s hm
    have g1 : ((k : Int) == -1) = false := by rw [beq_eq_false_iff_ne]; omega
    have HB := Lib.hid hB
    clear hng hcell hB hlk hall hft hf1 hPx hE
    go_enter Try.func74, Try.ntmps74
    go_wp2_with fail
    refine HI.out.mono ?_; rintro e w2 ⟨rfl, hb2⟩
    have HB2 := Lib.hid (hb2.mono hb)
    have HK2 := Lib.hid (below_blk hb2 HB.out HB.out.lt)
    clear hb2 HI HB
    go_wp2_with fail
    go_loopw [6, 5] (fun jv iv wr => ∃ (j i : Nat) (cr : Array Value), i < j ∧ j ≤ n ∧ jv = .int .i64 j ∧ iv = .int .i64 i ∧ Hid (cr.size = cap) ∧ Hid (i = ((l.take j).filter fun s => !P s).length) ∧ Hid (∀ (m : Nat) (s : ByteArray), ((l.take j).filter fun s => !P s)[m]? = some s → cr[m]? = some (.string s)) ∧ Hid (∀ (m : Nat) (s : ByteArray), j ≤ m → l[m]? = some s → cr[m]? = some (.string s)) ∧ Hid (Blk wr rb cr 9) ∧ Hid (Below base w wr)) (fun jv _ _ => n - (intOf jv).toNat)
    case atStart => exact ⟨k + 1, k, cur, by omega, hkn, by go_num, rfl, HCS, HI0, HP0, HQ0, HK2, HB2⟩
    case round =>
      clear HI0 HP0 HQ0 HK2 HB2 HCS g1
      obtain ⟨j, i, cr, hij, hjn, rfl, rfl, hcs, hi, hp, hq, hk, hbl⟩ := hrel
      by_cases hlt : j < n
      ·
        obtain ⟨x, hx⟩ : ∃ x, l[j]? = some x := ⟨_, List.getElem?_eq_getElem (by rw [HN.out]; exact hlt)⟩
        have hd := filt_take (P := fun s => !P s) hx
        have y0 := hk.out.cell j (hq.out j x (Nat.le_refl _) hx)
        have HC := Lib.hid (HF.out x wr hbl.out)
        have p1 : decide ((j : Int) < 0) = false := decide_eq_false (by omega)
        have p2 : decide ((n : Int) ≤ (j : Int)) = false := decide_eq_false (by omega)
        have p3 : decide (n ≤ j) = false := decide_eq_false (by omega)
        have HQ1 : Hid (∀ (m : Nat) (s : ByteArray), j + 1 ≤ m → l[m]? = some s → cr[m]? = some (.string s)) := fun m s hm hs => hq.out m s (by omega) hs
        cases hpx : P x
        ·
          rw [hpx] at HC
          rw [hpx, if_pos (show (!false) = true from rfl)] at hd
          have p4 : decide ((i : Int) < 0) = false := decide_eq_false (by omega)
          have p5 : decide ((n : Int) ≤ (i : Int)) = false := decide_eq_false (by omega)
          have p6 : decide (n ≤ i) = false := decide_eq_false (by omega)
          have HI2 : Hid (i + 1 = ((l.take (j + 1)).filter fun s => !P s).length) := by show _ = _; rw [hd, List.length_append, ← hi.out]; rfl
          have hic : i < cr.size := by have := hcs.out; omega
          have HP2 : Hid (∀ (m : Nat) (s : ByteArray), ((l.take (j + 1)).filter fun s => !P s)[m]? = some s → (cr.setIfInBounds i (.string x))[m]? = some (.string s)) := fun m s hm => by
            rw [hd] at hm
            by_cases hmi : m = i
            · subst hmi
              rw [List.getElem?_append_right (by have := hi.out; omega)] at hm
              rw [← hi.out, Nat.sub_self] at hm
              cases hm
              rw [Array.getElem?_setIfInBounds_self]; simp [hic]
            · have hml : m < i := by
                have := (List.getElem?_eq_some_iff.1 hm).1
                rw [List.length_append, ← hi.out] at this
                simp at this; omega
              rw [List.getElem?_append_left (by rw [← hi.out]; exact hml)] at hm
              rw [Array.getElem?_setIfInBounds_ne (by omega)]
              exact hp.out m s hm
          have HQ2 : Hid (∀ (m : Nat) (s : ByteArray), j + 1 ≤ m → l[m]? = some s → (cr.setIfInBounds i (.string x))[m]? = some (.string s)) := fun m s hm hs => by
            rw [Array.getElem?_setIfInBounds_ne (by omega)]
            exact HQ1.out m s hm hs
          have hcs2 : Hid ((cr.setIfInBounds i (.string x)).size = cap) := by show _ = _; rw [Array.size_setIfInBounds]; exact hcs.out
          clear hd hpx hx HQ1
          go_wp2_with fail
          refine HC.out.mono ?_; rintro e w3 ⟨rfl, hb3⟩
          have K3 := below_blk hb3 hk.out hk.out.lt
          have hws := hbl.out.size
          have B3 := hbl.out.trans (hb3.mono (by omega))
          have f3 := K3.free i
          have z3 : w3.cell? ⟨rb, i, none⟩ = some cr[i] := K3.cell i (Array.getElem?_eq_getElem hic)
          have K4 := Lib.hid (K3.set i (.string x))
          have B4 := Lib.hid (bset B3 hrb i (.string x))
          clear hb3 y0 hk hbl K3 B3 hws HC
          go_wp2_with fail
          go_roundw
          case rel => exact ⟨j + 1, i + 1, _, by omega, hlt, by go_num, by go_num, hcs2, HI2, HP2, HQ2, K4, B4⟩
          case measure => simp [intOf]; omega
        ·
          rw [hpx] at HC
          rw [hpx, if_neg (show ¬ (!true) = true by decide)] at hd
          have HI2 : Hid (i = ((l.take (j + 1)).filter fun s => !P s).length) := by show _ = _; rw [hd]; exact hi.out
          have HP2 : Hid (∀ (m : Nat) (s : ByteArray), ((l.take (j + 1)).filter fun s => !P s)[m]? = some s → cr[m]? = some (.string s)) := fun m s hm => hp.out m s (by rw [← hd]; exact hm)
          clear hd hpx hx
          go_wp2_with fail
          refine HC.out.mono ?_; rintro e w3 ⟨rfl, hb3⟩
          have K3 := Lib.hid (below_blk hb3 hk.out hk.out.lt)
          have hws := hbl.out.size
          have B3 := Lib.hid (hbl.out.trans (hb3.mono (by omega)))
          clear hb3 y0 hk hbl hws HC
          go_wp2_with fail
          go_roundw
          case rel => exact ⟨j + 1, i, cr, by omega, hlt, by go_num, rfl, hcs, HI2, HP2, HQ1, K3, B3⟩
          case measure => simp [intOf]; omega
      ·
        have hjj : j = n := by omega
        subst hjj
        have htn : l.take j = l := List.take_of_length_le (by rw [HN.out]; exact Nat.le_refl _)
        rw [htn] at hi hp
        have hncap : ¬ i = cap := by omega
        have hic2 : i ≤ cap := by omega
        have hcl : ∀ ty, (Builtin.clear_ #[22] ty #[.slice (some ⟨rb, i, none⟩) (j - i) (cap - i)]).run Try.prog wr = .ok (.tuple #[]) (wr.setCells rb i (List.replicate (j - i) (.string ByteArray.empty))) := fun ty =>
          Lib.run_clear_slice wr 22 9 ty (.string ByteArray.empty) Try.underlying22 Try.zeroValue9 rfl rfl rb i (j - i) (cap - i) (by omega) (fun t ht => by rw [hk.out.cell (i + t) (Array.getElem?_eq_getElem (by have := hcs.out; omega))]; rfl) (fun t ht => hk.out.free (i + t))
        obtain ⟨cr2, k1, k2, k3, k4⟩ := Blk.setCells (List.replicate (j - i) (.string ByteArray.empty)) i hk.out (by rw [List.length_replicate]; have := hcs.out; omega)
        have HR : Hid (Reads (wr.setCells rb i (List.replicate (j - i) (.string ByteArray.empty))) (.slice (some ⟨rb, 0, none⟩) i cap) i (strs (l.filter fun s => !P s))) := Or.inr ⟨rb, 0, cap, rfl, hic2, by omega, k1.lt, fun m u hm => by
          rw [Nat.zero_add]
          unfold strs at hm
          rw [List.getElem?_map] at hm
          cases hl : (l.filter fun s => !P s)[m]? with
          | none => rw [hl] at hm; cases hm
          | some s =>
            rw [hl] at hm; cases hm
            refine k1.cell m ?_
            have hml : m < i := by have := (List.getElem?_eq_some_iff.1 hl).1; have := hi.out; omega
            rw [k4 m (Or.inl hml)]
            exact hp.out m s hl⟩
        have HB5 := Lib.hid (bsetCells hrb (List.replicate (j - i) (.string ByteArray.empty)) i wr hbl.out)
        generalize wr.setCells rb i (List.replicate (j - i) (.string ByteArray.empty)) = W5 at *
        clear k1 k2 k3 k4 hk hq hp hbl
        go_wp2_with fail
        go_ret
        refine ⟨rb, cap, ?_, ?_, HB5.out⟩
        · rw [← hi.out]; rfl
        · rw [← hi.out]; exact HR.out
end Go.Proofs.Ytplebibabcdipaa
