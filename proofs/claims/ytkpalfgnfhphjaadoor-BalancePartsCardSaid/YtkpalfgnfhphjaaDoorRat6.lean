/- rat: Cmp, told, CheckAll. -/
import Derived.Test.YtkpalfgnfhphjaaDoorRat5
namespace Go.Proofs.YtkpalfgnfhphjaaDoor
open Go.RowKit

/-- What Cmp answers. -/
def cmpR (p q : Rat) : Int := signR (p - q)
set_option maxRecDepth 100000 in
set_option maxHeartbeats 4000000 in
theorem rcmp_c (np nq : Bool) (vp dp vq dq : Value) (p q : Rat) (w : World) (hp : QC w np vp dp p) (hq : QC w nq vq dq q) (sp : sz p ≤ 1000000000000) (sq : sz q ≤ 1000000000000) :
    Calls Tryd.prog 29 #[.agg #[.bool np, vp, dp], .agg #[.bool nq, vq, dq]] w fun e w' => e = .returned (.int .i64 (cmpR p q)) ∧ Below w.heap.size w w' := by
  have HS := Lib.hid (fun W (hW : Below w.heap.size w W) => rsub_c np nq vp dp vq dq p q W (hp.below hW) (hq.below hW) sp sq)
  have HG := Lib.hid (fun g vn vd W (h : QC W g vn vd (p - q)) => sign_c g vn vd (p - q) W h)
  have HE : Hid (cmpR p q = signR (p - q)) := rfl
  generalize cmpR p q = E at *
  generalize signR (p - q) = S at *
  generalize p - q = R at *
  obtain ⟨pa, pc, pda, pdl, pdc, rfl, rfl, _⟩ := hp.parts
  obtain ⟨qa, qc, qda, qdl, qdc, rfl, rfl, _⟩ := hq.parts
  obtain ⟨n, hn⟩ : ∃ n, ln p.num.natAbs = n := ⟨_, rfl⟩
  obtain ⟨m, hm⟩ : ∃ n, ln q.num.natAbs = n := ⟨_, rfl⟩
  rw [hn, hm] at HS ⊢
  have B2 := Lib.hid (belowA (belowA (Below.refl w.heap.size w) (.cells #[.bool np, .slice pa n pc, .slice pda pdl pdc] 65)) (.cells #[.bool nq, .slice qa m qc, .slice qda qdl qdc] 65))
  clear hn hm hp hq sp sq
  go_enter Tryd.func29, Tryd.ntmps29
  go_wp2_with fail
  refine (HS.out _ B2.out).mono ?_; rintro e w3 ⟨⟨v, rfl, g, vn, vd, rfl, hqc⟩, hb⟩
  have B3 := Lib.hid (belowT B2.out hb)
  have HG3 := Lib.hid (HG.out _ _ _ _ hqc)
  clear hb hqc HS HG
  go_wp2_with fail
  refine HG3.out.mono ?_; rintro e w4 ⟨rfl, hb⟩
  have B4 := Lib.hid (belowT B3.out hb)
  clear hb
  go_wp2_with fail
  go_ret
  exact ⟨by rw [HE.out]; rfl, B4.out⟩
instance (q : Rat) : Decidable (FitQ q) := inferInstanceAs (Decidable (_ ∧ _))
/-- What told answers. -/
def toldE (q : Rat) : ByteArray × Int := if FitQ q then (bs (ratT q), 0) else (⟨#[]⟩, 2)
set_option maxHeartbeats 2000000 in
theorem told_c (ng : Bool) (vn vd : Value) (q : Rat) (w : World) (h : QC w ng vn vd q) (hs : sz q ≤ 1000000000000) :
    Calls Tryd.prog 37 #[.agg #[.bool ng, vn, vd]] w fun e w' => e = .returned (.tuple #[.string (toldE q).1, .int .i64 (toldE q).2]) ∧ Below w.heap.size w w' := by
  have HF := Lib.hid (fun W (hW : Below w.heap.size w W) => fits_c ng vn vd q W (h.below hW) hs)
  have HO := Lib.hid (fun W (hW : Below w.heap.size w W) => out_c ng vn vd q W (h.below hW) hs)
  have hfe := @fitE_ok q
  have HE : Hid (toldE q = if FitQ q then (bs (ratT q), 0) else (⟨#[]⟩, 2)) := rfl
  have hf2 : fitE q = 0 ∨ fitE q = 2 := by unfold fitE; split <;> simp
  obtain ⟨na, nc, da, dl, dc, rfl, rfl, _⟩ := h.parts
  obtain ⟨n, hn⟩ : ∃ n, ln q.num.natAbs = n := ⟨_, rfl⟩
  rw [hn] at HF HO ⊢
  have B1 := Lib.hid (belowA (Below.refl w.heap.size w) (.cells #[.bool ng, .slice na n nc, .slice da dl dc] 65))
  have KB := Lib.hid (Blk.new w #[.bool ng, .slice na n nc, .slice da dl dc] 65)
  generalize toldE q = E at *
  generalize bs (ratT q) = T at *
  by_cases hfq : FitQ q
  · have HE2 : Hid (E = (T, 0)) := HE.out.trans (if_pos hfq)
    rw [hfe.2 hfq] at HF
    clear hn h hs HE hfe hf2 hfq
    go_enter Tryd.func37, Tryd.ntmps37
    go_wp2_with fail
    refine (HF.out _ B1.out).mono ?_; rintro e w2 ⟨rfl, hb⟩
    have B2 := Lib.hid (belowT B1.out hb)
    have K2 := below_blk hb KB.out KB.out.lt
    have x0 := K2.cell 0 rfl
    have x1 := K2.cell 1 rfl
    have x2 := K2.cell 2 rfl
    have hl2 := K2.lt
    have HO2 := Lib.hid (HO.out w2 B2.out)
    clear hb K2 HF HO
    go_wp2_with fail
    refine HO2.out.mono ?_; rintro e w3 ⟨rfl, hb⟩
    have B3 := Lib.hid (belowT B2.out hb)
    clear hb
    go_wp2_with fail
    go_ret2
    exact ⟨by rw [HE2.out]; rfl, B3.out⟩
  · have HE2 : Hid (E = (⟨#[]⟩, 2)) := HE.out.trans (if_neg hfq)
    have h2 : fitE q = 2 := hf2.resolve_left (fun h => hfq (hfe.1 h))
    rw [h2] at HF
    clear hn h hs HE hfe hf2 hfq h2
    go_enter Tryd.func37, Tryd.ntmps37
    go_wp2_with fail
    refine (HF.out _ B1.out).mono ?_; rintro e w2 ⟨rfl, hb⟩
    have B2 := Lib.hid (belowT B1.out hb)
    clear hb HF HO
    go_wp2_with fail
    go_ret2
    exact ⟨by rw [HE2.out]; rfl, B2.out⟩
/-- What CheckAll answers. -/
def allE : List ByteArray → Int
  | [] => 0
  | s :: ss => if ratE s.data.toList ≠ 0 then ratE s.data.toList else allE ss
theorem allE_drop {ss : List ByteArray} {k : Nat} {s : ByteArray} (h : ss[k]? = some s) : allE (ss.drop k) = if ratE s.data.toList ≠ 0 then ratE s.data.toList else allE (ss.drop (k + 1)) := by
  obtain ⟨hk, hx⟩ := List.getElem?_eq_some_iff.1 h
  rw [List.drop_eq_getElem_cons hk, hx]; rfl
/-- Texts of numbers. -/
abbrev txts (qs : List Rat) : List ByteArray := qs.map fun q => bs (ratT q)
theorem allE_ok : ∀ {ss : List ByteArray}, allE ss = 0 → ∃ qs, ss = txts qs ∧ ∀ q ∈ qs, FitQ q
  | [], _ => ⟨[], rfl, fun q h => by cases h⟩
  | s :: ss, h => by
    unfold allE at h
    split at h
    · rename_i h1; exact absurd h h1
    · rename_i h1
      obtain ⟨q, e, hf⟩ := ratE_ok (Decidable.not_not.1 h1)
      obtain ⟨qs, es, hfs⟩ := allE_ok h
      refine ⟨q :: qs, ?_, ?_⟩
      · rw [es]
        show s :: _ = bs (ratT q) :: _
        rw [← e, bs_data]
      · intro x hx
        rcases List.mem_cons.1 hx with rfl | hx
        · exact hf
        · exact hfs x hx
theorem allE_of : ∀ {qs : List Rat}, (∀ q ∈ qs, FitQ q) → allE (txts qs) = 0
  | [], _ => rfl
  | q :: qs, h => by
    show allE (bs (ratT q) :: txts qs) = 0
    unfold allE
    rw [bs_list, if_neg (fun hh => hh (ratE_T (h q (List.mem_cons_self ..)))), allE_of (fun x hx => h x (List.mem_cons_of_mem _ hx))]
set_option maxHeartbeats 2000000 in
theorem checkAll_c (v : Value) (l : List ByteArray) (w : World) (hv : SVal w v l) (hsz : Hid (∀ s ∈ l, s.size ≤ 9223372036854775807)) :
    Calls Tryd.prog 31 #[v] w fun e w' => e = .returned (.int .i64 (allE l)) ∧ Below w.heap.size w w' := by
  obtain ⟨a, cap, rfl⟩ := (show Reads w v l.length (l.map Value.string) from hv).slice
  have hn : l.length ≤ 9223372036854775807 := by
    rcases (show Reads w (.slice a l.length cap) l.length (l.map Value.string) from hv) with ⟨h, _⟩ | ⟨_, _, _, _, _, h, _⟩ <;> omega
  have HC := Lib.hid (fun (s : ByteArray) (hs : s ∈ l) W => ratCheck_c s W (hsz.out s hs))
  have HE : Hid (allE (l.drop 0) = allE l) := rfl
  generalize allE l = E at *
  obtain ⟨n, hN⟩ : ∃ n, l.length = n := ⟨_, rfl⟩
  have HN := Lib.hid hN
  have HV2 : Hid (Reads w (.slice a n cap) n (l.map Value.string)) := by show Reads _ _ _ _; rw [← hN]; exact hv
  rw [hN] at hn ⊢
  clear hN hv hsz
  go_enter Tryd.func31, Tryd.ntmps31
  go_wp2_with fail
  go_loopw [8] (fun i wr => ∃ k : Nat, k ≤ n ∧ i = .int .i64 k ∧ Hid (allE (l.drop k) = E) ∧ Hid (Below w.heap.size w wr)) (fun i _ => n - (intOf i).toNat)
  case atStart => exact ⟨0, Nat.zero_le _, rfl, HE.out, Below.refl _ _⟩
  case round =>
    clear HE
    obtain ⟨k, hk, rfl, he, hb⟩ := hrel
    by_cases hlt : k < n
    · obtain ⟨b, off, cap', hvv, _, _, hbl, hc⟩ := (HV2.out.below hb.out).addr (by omega)
      simp only [Value.slice.injEq] at hvv
      obtain ⟨rfl, _, rfl⟩ := hvv
      obtain ⟨x, hx⟩ : ∃ x, l[k]? = some x := ⟨_, List.getElem?_eq_getElem (by rw [HN.out]; exact hlt)⟩
      have x0 : wr.cell? ⟨b, off + k, none⟩ = some (.string x) := hc k _ (by simp [hx])
      rw [allE_drop hx] at he
      have HCX := Lib.hid (HC.out x (List.mem_of_getElem? hx) wr)
      generalize ratE x.data.toList = r at *
      clear hc hx
      by_cases hr : r = 0
      · have HE2 : Hid (allE (l.drop (k + 1)) = E) := by show _ = _; rw [← he.out, if_neg (fun h => h hr)]
        subst hr
        clear he
        go_wp2_with fail
        refine HCX.out.mono ?_; rintro e w2 ⟨rfl, hb2⟩
        have HB2 := Lib.hid (hb.out.trans (hb2.mono hb.out.size))
        clear hb2
        go_wp2_with fail
        go_roundw
        case rel => exact ⟨k + 1, hlt, by go_num, HE2, HB2⟩
        case measure => simp [intOf]; omega
      · have HE2 : Hid (E = r) := by show _ = _; rw [← he.out, if_pos hr]
        have g1 : (r != 0) = true := by simpa using hr
        clear he hr
        go_wp2_with fail
        refine HCX.out.mono ?_; rintro e w2 ⟨rfl, hb2⟩
        have HB2 := Lib.hid (hb.out.trans (hb2.mono hb.out.size))
        clear hb2
        go_wp2_with fail
        go_ret
        exact ⟨by rw [HE2.out]; rfl, HB2.out⟩
    · have hkn : k = n := by omega
      have HE2 : Hid (E = 0) := by show _ = _; rw [← he.out, List.drop_eq_nil_of_le (by rw [HN.out]; omega)]; rfl
      clear he
      go_wp2_with fail
      go_ret
      exact ⟨by rw [HE2.out]; rfl, hb.out⟩
end Go.Proofs.YtkpalfgnfhphjaaDoor
