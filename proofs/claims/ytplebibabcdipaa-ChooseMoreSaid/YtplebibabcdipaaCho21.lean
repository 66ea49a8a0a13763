/- choose: Proves, the walk. -/
import Derived.Test.YtplebibabcdipaaCho20
import Derived.Test.YtplebibabcdipaaCho16
namespace Go.Proofs.Ytplebibabcdipaa
open Go.RowKit

theorem sval_take {w : World} {a : Option Addr} {n c k : Nat} {l : List ByteArray} (h : Reads w (.slice a n c) n (strs l)) (hn : l.length = n) (hk : k ≤ n) : SVal w (.slice a k c) (l.take k) := by
  show Reads _ _ _ _
  have hlk : (l.take k).length = k := by rw [List.length_take]; omega
  rw [hlk]
  rcases h with ⟨rfl, hc, a', c', hv⟩ | ⟨b, off, cap, hv, h1, h2, h3, h4⟩
  · have : k = 0 := by omega
    subst this
    exact Or.inl ⟨rfl, by simp [strs], a, c, rfl⟩
  · cases hv
    refine Or.inr ⟨b, off, c, rfl, by omega, by omega, h3, fun j u hj => h4 j u ?_⟩
    unfold strs at hj ⊢
    rw [List.getElem?_map] at hj ⊢
    cases hl : (l.take k)[j]? with
    | none => rw [hl] at hj; cases hj
    | some s =>
      rw [hl] at hj
      rw [List.getElem?_take] at hl
      split at hl
      · rw [hl]; exact hj
      · cases hl
theorem opensC_drop {c : CNet} {op : List ByteArray} {k : Nat} {s : ByteArray} (h : op[k]? = some s) : opensC c op k (op.drop k) = (brkN c s && !hasS s (op.take k) && opensC c op (k + 1) (op.drop (k + 1))) := by
  obtain ⟨hk, hx⟩ := List.getElem?_eq_some_iff.1 h
  rw [List.drop_eq_getElem_cons hk, hx]; rfl
theorem provesF_drop {c : CNet} {ws : List (List ByteArray)} {k : Nat} {x : List ByteArray} (h : ws[k]? = some x) (us : List ByteArray) : provesF c (ws.drop k) us = (folC c x && !(ownW c x).any (fun s => hasS s us) && provesF c (ws.drop (k + 1)) (us ++ ownW c x)) := by
  obtain ⟨hk, hx⟩ := List.getElem?_eq_some_iff.1 h
  rw [List.drop_eq_getElem_cons hk, hx]; rfl
set_option maxHeartbeats 16000000 in
set_option maxRecDepth 100000 in
theorem proves_c (x0 : NAddr) (n : Net) (op : List ByteArray) (ov : Value) (ws : List (List ByteArray)) (wv : Value) (br : ByteArray) (pt : Int) (w : World) (hr : NetR w x0 n) (hwf : n.Wf) (hop : SVal w ov op) (hws : RLL w wv ws)
    (hwl : ws.length ≤ 1000) (hwb : Hid (∀ l ∈ ws, l.length ≤ 2000000)) :
    Calls Try.prog 33 #[x0.val n, .agg #[.string br, .int .i64 pt], ov, wv] w fun e w' => e = .returned (.tuple #[.bool (provesE n ⟨br, pt⟩ op ws).1, .int .i64 (provesE n ⟨br, pt⟩ op ws).2]) ∧ Below w.heap.size w w' := by
  obtain ⟨oa, oc, rfl⟩ := hop.slice
  obtain ⟨hs, hhl, hhr, hhe⟩ := hws
  obtain ⟨wa, wc0, rfl⟩ := hhr.slice
  have HP := Lib.hid (fun W (hb : Below w.heap.size w W) => place_c x0 n br pt W (hr.below hb) hwf)
  have HBU := Lib.hid (fun W (hb : Below w.heap.size w W) (h2 : n.Ok2) => build_c x0 n br pt W (hr.below hb) h2)
  have HE : Hid (provesE n ⟨br, pt⟩ op ws = if placeE n ⟨br, pt⟩ ≠ 0 then (false, placeE n ⟨br, pt⟩) else (provesC (buildC n ⟨br, pt⟩) op ws, 0)) := rfl
  have HOK : Hid (placeE n ⟨br, pt⟩ = 0 → n.Ok2 ∧ (buildC n ⟨br, pt⟩).Ok) := fun h => ⟨netE_ok2 (placeE_net h), (build_ok (placeE_net h)).1⟩
  generalize provesE n ⟨br, pt⟩ op ws = LE at *
  generalize placeE n ⟨br, pt⟩ = PE at *
  generalize buildC n ⟨br, pt⟩ = c at *
  have HPC : Hid (provesC c op ws = (opensC c op 0 (op.drop 0) && (decide (ws.length = op.length) && isoC c (fun e => hasS e.name op)) && provesF c (ws.drop 0) [])) := rfl
  have HSV : Hid (Reads w (.slice oa op.length oc) op.length (strs op)) := hop
  have HWV : Hid (Reads w (.slice wa ws.length wc0) ws.length hs) := hhr
  have HHE := Lib.hid hhe
  have HHL := Lib.hid hhl
  obtain ⟨on, hON⟩ : ∃ k, op.length = k := ⟨_, rfl⟩
  have HON := Lib.hid hON
  obtain ⟨wn, hWN⟩ : ∃ k, ws.length = k := ⟨_, rfl⟩
  have HWN := Lib.hid hWN
  have hon : on ≤ 9223372036854775807 := by
    rcases hop with ⟨h, _⟩ | ⟨_, _, _, _, _, h, _⟩ <;> omega
  rw [hON] at HSV HPC ⊢
  rw [hWN] at HWV HPC hwl HHL ⊢
  clear hr hwf hop hON hWN hhl hhr hhe
  obtain ⟨na, nc, sa, sc, ba, bc, ga, gc, la, lc, ta, tc⟩ := x0
  obtain ⟨nl, sws, brs, gens, loads, stores⟩ := n
  simp only [NAddr.val] at HP HBU ⊢
  generalize nl.length = nn at *
  generalize sws.length = sn at *
  generalize brs.length = bn at *
  generalize gens.length = gn at *
  generalize loads.length = ln at *
  generalize stores.length = tn at *
  have B2 := Lib.hid (belowA (belowA (belowA (Below.refl w.heap.size w) (.cells #[.slice na nn nc, .slice sa sn sc, .slice ba bn bc, .slice ga gn gc, .slice la ln lc, .slice ta tn tc] 29)) (.cells #[.string br, .int .i64 pt] 31)) (.cells #[.slice oa on oc] 22))
  have K1 := ((Blk.new w #[.slice na nn nc, .slice sa sn sc, .slice ba bn bc, .slice ga gn gc, .slice la ln lc, .slice ta tn tc] 29).alloc (.cells #[.string br, .int .i64 pt] 31)).alloc (.cells #[.slice oa on oc] 22)
  have K2 := (Blk.new2 w (.cells #[.slice na nn nc, .slice sa sn sc, .slice ba bn bc, .slice ga gn gc, .slice la ln lc, .slice ta tn tc] 29) #[.string br, .int .i64 pt] 31).alloc (.cells #[.slice oa on oc] 22)
  have K3 : Blk (((w.alloc (.cells #[.slice na nn nc, .slice sa sn sc, .slice ba bn bc, .slice ga gn gc, .slice la ln lc, .slice ta tn tc] 29)).alloc (.cells #[.string br, .int .i64 pt] 31)).alloc (.cells #[.slice oa on oc] 22)) (w.heap.size + 1 + 1) #[.slice oa on oc] 22 := by
    have := Blk.new ((w.alloc (.cells #[.slice na nn nc, .slice sa sn sc, .slice ba bn bc, .slice ga gn gc, .slice la ln lc, .slice ta tn tc] 29)).alloc (.cells #[.string br, .int .i64 pt] 31)) #[.slice oa on oc] 22
    rw [World.size_alloc, World.size_alloc] at this; exact this
  have hs2 : w.heap.size + 1 + 1 < (((w.alloc (.cells #[.slice na nn nc, .slice sa sn sc, .slice ba bn bc, .slice ga gn gc, .slice la ln lc, .slice ta tn tc] 29)).alloc (.cells #[.string br, .int .i64 pt] 31)).alloc (.cells #[.slice oa on oc] 22)).heap.size := by rw [World.size_alloc, World.size_alloc, World.size_alloc]; omega
  generalize hW2 : ((w.alloc (.cells #[.slice na nn nc, .slice sa sn sc, .slice ba bn bc, .slice ga gn gc, .slice la ln lc, .slice ta tn tc] 29)).alloc (.cells #[.string br, .int .i64 pt] 31)).alloc (.cells #[.slice oa on oc] 22) = W2 at *
  have HW2 := Lib.hid hW2
  clear hW2
  have x0 := K1.cell 0 rfl
  have x1 := K1.cell 1 rfl
  have x2 := K1.cell 2 rfl
  have x3 := K1.cell 3 rfl
  have x4 := K1.cell 4 rfl
  have x5 := K1.cell 5 rfl
  have y0 := K2.cell 0 rfl
  have y1 := K2.cell 1 rfl
  go_enter Try.func33, Try.ntmps33
  go_upto_region 1 with fail
  rw [HW2.out]
  go_wp2_with fail
  refine (HP.out _ B2.out).mono ?_; rintro e w3 ⟨rfl, hb3⟩
  have HB3 := Lib.hid (belowT B2.out hb3)
  have hs3 : w.heap.size + 1 + 1 < w3.heap.size := by have := hb3.size; omega
  have K1' := below_blk hb3 K1 K1.lt
  have K2' := below_blk hb3 K2 K2.lt
  have K3' := Lib.hid (below_blk hb3 K3 K3.lt)
  clear x0 x1 x2 x3 x4 x5 y0 y1 K1 K2 K3 hb3 HP hs2
  by_cases hp : PE = 0
  ·
    obtain ⟨ho2, hcok⟩ := HOK.out hp
    have HE2 := Lib.hid (HE.out.trans (if_neg (fun h => h hp)))
    have x0 := K1'.cell 0 rfl
    have x1 := K1'.cell 1 rfl
    have x2 := K1'.cell 2 rfl
    have x3 := K1'.cell 3 rfl
    have x4 := K1'.cell 4 rfl
    have x5 := K1'.cell 5 rfl
    have y0 := K2'.cell 0 rfl
    have y1 := K2'.cell 1 rfl
    subst hp
    clear HE HOK
    go_wp2_with fail
    refine (HBU.out _ HB3.out ho2).mono ?_; rintro e w4 ⟨X, ea, ec, xa, xc, rfl, hn, hb4⟩
    have HB4 := Lib.hid (belowT HB3.out hb4)
    have hs4 : w.heap.size + 1 + 1 < w4.heap.size := by have := hb4.size; omega
    obtain ⟨xb, hxb⟩ : ∃ b, w4.heap.size = b := ⟨_, rfl⟩
    have B6 := Lib.hid (belowA (belowA HB4.out (.cells #[.pointer (some ⟨X, 0, none⟩)] 115)) (.cells #[.func (.func 69) #[] #[.pointer (some ⟨xb, 0, none⟩)]] 134))
    have b46 := belowA (belowA (Below.refl _ w4) (.cells #[.pointer (some ⟨X, 0, none⟩)] 115)) (.cells #[.func (.func 69) #[] #[.pointer (some ⟨xb, 0, none⟩)]] 134)
    have KX := Lib.hid ((Blk.new w4 #[.pointer (some ⟨X, 0, none⟩)] 115).alloc (.cells #[.func (.func 69) #[] #[.pointer (some ⟨xb, 0, none⟩)]] 134))
    have KF := Lib.hid (Blk.new2 w4 (.cells #[.pointer (some ⟨X, 0, none⟩)] 115) #[.func (.func 69) #[] #[.pointer (some ⟨xb, 0, none⟩)]] 134)
    have KO := Lib.hid (below_blk (hb4.trans (b46.mono hb4.size)) K3'.out hs3)
    have HN6 := Lib.hid (hn.below b46)
    have hXl : X < w4.heap.size := hn.blk.lt
    rw [hxb] at KX KF hs4 hXl
    have hs6 : xb + 1 < ((w4.alloc (.cells #[.pointer (some ⟨X, 0, none⟩)] 115)).alloc (.cells #[.func (.func 69) #[] #[.pointer (some ⟨xb, 0, none⟩)]] 134)).heap.size := by rw [World.size_alloc, World.size_alloc, hxb]; omega
    clear x0 x1 x2 x3 x4 x5 y0 y1 K1' K2' K3' hb4 HBU hn b46
    go_upto_region 6 with fail
    generalize (w4.alloc (.cells #[.pointer (some ⟨X, 0, none⟩)] 115)).alloc (.cells #[.func (.func 69) #[] #[.pointer (some ⟨xb, 0, none⟩)]] 134) = W6 at *
    have HBK : Hid (∀ (s : ByteArray) (W : World), Below W6.heap.size W6 W → Calls Try.prog 69 #[.string s, .pointer (some ⟨xb, 0, none⟩)] W fun e w' => e = .returned (.bool (brkN c s)) ∧ Below W.heap.size W w') := fun s W hW =>
      pr1_c c X ea ec xa xc s xb W (HN6.out.below hW) (by rw [hW.cell (p := ⟨xb, 0, none⟩) (by show xb < _; omega)]; exact KX.out.cell 0 rfl) (by have := hW.size; omega)
    have HCO : Hid (∀ (s : ByteArray) (k : Nat) (W : World), k ≤ on → Below W6.heap.size W6 W → Calls Try.prog 68 #[.slice oa k oc, .string s] W fun e w' => e = .returned (.bool (hasS s (op.take k))) ∧ W = w') := fun s k W hk hW =>
      contains_c (.slice oa k oc) (op.take k) s W (sval_take (HSV.out.below (belowT B6.out hW)) HON.out hk)
    obtain ⟨OPN, hOPN⟩ : ∃ q, opensC c op 0 (op.drop 0) = q := ⟨_, rfl⟩
    obtain ⟨ISO, hISO⟩ : ∃ q, isoC c (fun e => hasS e.name op) = q := ⟨_, rfl⟩
    obtain ⟨PRF, hPRF⟩ : ∃ q, provesF c (ws.drop 0) [] = q := ⟨_, rfl⟩
    have HO0 := Lib.hid hOPN
    have HI0 := Lib.hid hISO
    have HP0 := Lib.hid hPRF
    have HLE : Hid (∀ q, (OPN && (decide (wn = on) && ISO) && PRF) = q → LE = (q, 0)) := fun q h => by rw [HE2.out, HPC.out, hOPN, hISO, hPRF, h]
    have z0 := KO.out.cell 0 rfl
    clear hOPN hISO hPRF hxb HE2 HPC
    go_wp2_with fail
    go_loopw [31] (fun i wr => ∃ k : Nat, k ≤ on ∧ i = .int .i64 k ∧ Hid (opensC c op k (op.drop k) = OPN) ∧ Hid (Below W6.heap.size W6 wr)) (fun i _ => on - (intOf i).toNat)
    case atStart => exact ⟨0, Nat.zero_le _, rfl, HO0, Below.refl _ _⟩
    case round =>
      clear HO0 z0
      obtain ⟨k, hk, rfl, hop, hb⟩ := hrel
      have HBW := Lib.hid (belowT B6.out hb.out)
      by_cases hlt : k < on
      ·
        obtain ⟨s, hs⟩ : ∃ x, op[k]? = some x := ⟨_, List.getElem?_eq_getElem (by rw [HON.out]; exact hlt)⟩
        have hd := opensC_drop (c := c) hs
        rw [hd] at hop
        have hkn : k ≤ on := hk
        obtain ⟨g', off, cap', hvv, _, _, _, hcc⟩ := (HSV.out.below HBW.out).addr (by omega)
        simp only [Value.slice.injEq] at hvv
        obtain ⟨rfl, _, rfl⟩ := hvv
        have c0 := hcc k (.string s) (by unfold strs; rw [List.getElem?_map, hs]; rfl)
        have f0 := (below_blk hb.out KF.out (by omega)).cell 0 rfl
        have HC1 := Lib.hid (HBK.out s wr hb.out)
        have HC2 := Lib.hid (fun W hW => HCO.out s k W hkn hW)
        clear hcc hs hd
        cases hq : brkN c s
        ·
          rw [hq] at HC1 hop
          have HOF : Hid (OPN = false) := by show _ = _; rw [← hop.out]; rfl
          have HL := Lib.hid (HLE.out false (by rw [HOF.out]; rfl))
          clear hq hop HC2
          go_wp2_with fail
          refine HC1.out.mono ?_; rintro ee w7 ⟨rfl, hb7⟩
          have HB7 := Lib.hid (belowT HBW.out hb7)
          clear hb7
          go_wp2_with fail
          go_ret2
          exact ⟨by rw [HL.out]; rfl, HB7.out⟩
        ·
          rw [hq] at HC1 hop
          clear hq
          go_wp2_with fail
          refine HC1.out.mono ?_; rintro ee w7 ⟨rfl, hb7⟩
          have HB7 := Lib.hid (belowT hb.out hb7)
          have o0 := (below_blk HB7.out KO.out (by omega)).cell 0 rfl
          have HC3 := Lib.hid (HC2.out w7 HB7.out)
          have hkc : k ≤ oc := by omega
          clear hb7 c0 f0 HC2
          cases hq : hasS s (op.take k)
          ·
            rw [hq] at HC3 hop
            have HO2 : Hid (opensC c op (k + 1) (op.drop (k + 1)) = OPN) := hop.out
            clear hq hop
            go_wp2_with fail
            refine HC3.out.mono ?_; rintro ee w8 ⟨rfl, rfl⟩
            go_wp2_with fail
            go_roundw
            case rel => exact ⟨k + 1, hlt, by go_num, HO2, HB7⟩
            case measure => simp [intOf]; omega
          ·
            rw [hq] at HC3 hop
            have HOF : Hid (OPN = false) := by show _ = _; rw [← hop.out]; rfl
            have HL := Lib.hid (HLE.out false (by rw [HOF.out]; rfl))
            clear hq hop
            go_wp2_with fail
            refine HC3.out.mono ?_; rintro ee w8 ⟨rfl, rfl⟩
            go_wp2_with fail
            go_ret2
            exact ⟨by rw [HL.out]; rfl, belowT B6.out HB7.out⟩
      ·
        have hn0 : op.drop k = [] := List.drop_eq_nil_of_le (by rw [HON.out]; omega)
        have HOT : Hid (OPN = true) := by show _ = _; rw [← hop.out, hn0]; rfl
        have HKO := Lib.hid (below_blk hb.out KO.out (by omega))
        have HKX := Lib.hid (below_blk hb.out KX.out (by omega))
        have o0 := HKO.out.cell 0 rfl
        have xc0 := HKX.out.cell 0 rfl
        clear hn0 hop HCO
        by_cases hwo : wn = on
        ·
          have g1 : ((wn : Int) != (on : Int)) = false := by simp [hwo]
          have hkl : w.heap.size + 1 + 1 < wr.heap.size := by have := hb.out.size; omega
          have his := isolated_c c hcok X ea ec xa xc 72 #[.pointer (some ⟨w.heap.size + 1 + 1, 0, none⟩)] (fun e => hasS e.name op) wr (HN6.out.below hb.out) (fun a w' => enters_of Try.func72 (by kernel_rfl) rfl a w')
            (fun a W _ hW => pr2_c a op oa oc (w.heap.size + 1 + 1) W (by rw [HON.out, hW.cell (p := ⟨w.heap.size + 1 + 1, 0, none⟩) hkl]; exact HKO.out.cell 0 rfl) (Nat.lt_of_lt_of_le hkl hW.size) (by show Reads _ _ _ _; rw [HON.out]; exact HSV.out.below (HBW.out.trans (hW.mono HBW.out.size))))
          rw [HI0.out] at his
          have HIS := Lib.hid his
          have hdw : decide (wn = on) = true := decide_eq_true hwo
          have HDW := Lib.hid hdw
          clear his hdw hwo
          cases ISO
          ·
            have HL := Lib.hid (HLE.out false (by rw [HDW.out]; cases OPN <;> rfl))
            go_wp2_with fail
            refine HIS.out.mono ?_; rintro ee w8 ⟨rfl, hb8⟩
            have HB8 := Lib.hid (belowT HBW.out hb8)
            clear hb8
            go_wp2_with fail
            go_ret2
            exact ⟨by rw [HL.out]; rfl, HB8.out⟩
          ·
            go_wp2_with fail
            refine HIS.out.mono ?_; rintro ee w8 ⟨rfl, hb8⟩
            have HB8 := Lib.hid (belowT HBW.out hb8)
            have HC8 := Lib.hid (belowT hb.out hb8)
            obtain ⟨ub, hub⟩ : ∃ b, w8.heap.size = b := ⟨_, rfl⟩
            have KU := Lib.hid (Blk.new w8 #[.slice none 0 0] 22)
            have BU := Lib.hid (belowA (Below.refl w8.heap.size w8) (.cells #[.slice none 0 0] 22))
            have hsu : ub + 1 ≤ (w8.alloc (.cells #[.slice none 0 0] 22)).heap.size := by rw [World.size_alloc, hub]; exact Nat.le_refl _
            have OU : Hid ((w8.alloc (.cells #[.slice none 0 0] 22)).ownsRow (ub + 1) 9 1 (.slice none 0 0) ([] : List ByteArray).length (strs [])) := ⟨rfl, Or.inl ⟨rfl, rfl⟩⟩
            have hu6 : W6.heap.size ≤ ub := by have := HC8.out.size; omega
            rw [hub] at KU BU
            clear hb8 HIS o0 xc0 HKO HKX hb HBW
            go_upto_region 15 with fail
            generalize w8.alloc (.cells #[.slice none 0 0] 22) = W9 at *
            go_wp2_with fail
            go_loopw [61] (fun i wr => ∃ (k : Nat) (us : List ByteArray) (uv : Value), k ≤ wn ∧ i = .int .i64 k ∧ us.length ≤ 2000000 * k ∧ Hid (provesF c (ws.drop k) us = PRF) ∧ Hid (Blk wr ub #[uv] 22) ∧ Hid (wr.ownsRow (ub + 1) 9 1 uv us.length (strs us)) ∧ Hid (Below ub w8 wr) ∧ ub + 1 ≤ wr.heap.size) (fun i _ => wn - (intOf i).toNat)
            case atStart => exact ⟨0, [], _, Nat.zero_le _, rfl, Nat.zero_le _, HP0, KU, OU, BU, hsu⟩
            case round =>
              clear HP0 KU OU BU hsu
              obtain ⟨k, us, uv, hk, rfl, hul, hpf, hku, hou, hbu, hsz⟩ := hrel
              obtain ⟨ua, uc, rfl⟩ := row_slice hou.out
              have h68 := hbu.out.size
              have HC9 := Lib.hid (HC8.out.trans (hbu.out.mono hu6))
              have HB9 := Lib.hid (belowT B6.out HC9.out)
              by_cases hlt : k < wn
              ·
                obtain ⟨x, hx⟩ : ∃ x, ws[k]? = some x := ⟨_, List.getElem?_eq_getElem (by rw [HWN.out]; exact hlt)⟩
                obtain ⟨h, hh⟩ : ∃ x, hs[k]? = some x := ⟨_, List.getElem?_eq_getElem (by rw [HHL.out]; exact hlt)⟩
                have hxb := hwb.out x (List.mem_of_getElem? hx)
                have hd := provesF_drop (c := c) hx us
                rw [hd] at hpf
                have hrx := (HHE.out k h x hh hx).below HB9.out
                obtain ⟨ha, hc2, rfl⟩ := hrx.slice
                obtain ⟨g', off, cap', hvv, _, _, _, hcc⟩ := (HWV.out.below HB9.out).addr (by omega)
                simp only [Value.slice.injEq] at hvv
                obtain ⟨rfl, _, rfl⟩ := hvv
                have c0 := hcc k _ hh
                have HNR := Lib.hid (HN6.out.below HC9.out)
                have HFO := Lib.hid (follows_c c hcok X ea ec xa xc x _ wr HNR.out hrx)
                have HRX := Lib.hid hrx
                have KXr := Lib.hid (below_blk HC9.out KX.out (by omega))
                have KFr := Lib.hid (below_blk HC9.out KF.out (by omega))
                have xc0 := KXr.out.cell 0 rfl
                have hpos := fun (h : folC c x = true) => (by
                  unfold folC at h
                  rw [Bool.and_eq_true, decide_eq_true_eq] at h
                  exact h.1 : 0 < x.length)
                clear hcc hd hh hx hrx
                cases hfo : folC c x
                ·
                  rw [hfo] at HFO hpf
                  have HPF : Hid (PRF = false) := by show _ = _; rw [← hpf.out]; rfl
                  have HL := Lib.hid (HLE.out false (by rw [HPF.out]; cases OPN <;> rw [HDW.out] <;> rfl))
                  clear hfo hpf hpos
                  go_wp2_with fail
                  refine HFO.out.mono ?_; rintro ee wx ⟨rfl, hbx⟩
                  have HBX := Lib.hid (belowT HB9.out hbx)
                  clear hbx
                  go_wp2_with fail
                  go_ret2
                  exact ⟨by rw [HL.out]; rfl, HBX.out⟩
                ·
                  have hp0 := hpos hfo
                  rw [hfo] at HFO hpf
                  clear hfo hpos
                  go_wp2_with fail
                  refine HFO.out.mono ?_; rintro ee wx ⟨rfl, hbx⟩
                  have HX1 := Lib.hid hbx
                  have HCL := Lib.hid (cloneS_c _ x wx (HRX.out.below hbx) (by omega) hp0)
                  clear hbx c0 xc0 HFO
                  go_wp2_with fail
                  refine HCL.out.mono ?_; rintro ee wy ⟨u, rfl, hru, hby⟩
                  have HX2 := Lib.hid hby
                  have hxy := hby.size
                  have hrx2 := HX1.out.size
                  have HDE := Lib.hid (delS_c wx.heap.size u x (fun s => !brkN c s) 76 #[.pointer (some ⟨xb + 1, 0, none⟩)] wy hru hp0 (by omega) hxy (fun a w' => enters_of Try.func76 (by kernel_rfl) rfl a w')
                    (fun a W hW => by
                      have hT : Below wr.heap.size wr W := HX1.out.trans ((HX2.out.trans hW).mono hrx2)
                      have hT6 : Below W6.heap.size W6 W := HC9.out.trans (hT.mono HC9.out.size)
                      refine pr3_c c X ea ec xa xc a xb (xb + 1) W (HN6.out.below hT6) ?_ ?_ ?_
                      · rw [hT6.cell (p := ⟨xb, 0, none⟩) (by show xb < _; omega)]; exact KX.out.cell 0 rfl
                      · have := hT6.size; omega
                      · rw [hT6.cell (p := ⟨xb + 1, 0, none⟩) hs6]; exact KF.out.cell 0 rfl))
                  obtain ⟨ya, yc, rfl⟩ := row_slice hru
                  clear hru hby HCL
                  go_wp2_with fail
                  refine HDE.out.mono ?_; rintro ee wz ⟨gz, cz, rfl, hrz, hbz⟩
                  have hfe : (x.filter fun s => !(!brkN c s)) = ownW c x := by
                    unfold ownW; congr 1; funext s; cases brkN c s <;> rfl
                  rw [hfe] at hrz ⊢
                  have hol : (ownW c x).length ≤ 2000000 := Nat.le_trans (List.length_filter_le _ _) hxb
                  generalize ownW c x = own at *
                  have HT := Lib.hid (HX1.out.trans ((HX2.out.trans hbz).mono hrx2) : Below wr.heap.size wr wz)
                  have hzz := HT.out.size
                  have KUz := Lib.hid (below_blk HT.out hku.out hku.out.lt)
                  have OUz := Lib.hid (row_below hou.out HT.out)
                  have HOZ := Lib.hid hrz
                  have hus : us.length ≤ 2000000000 := by
                    have h1 : 2000000 * k ≤ 2000000 * 1000 := Nat.mul_le_mul_left _ (by omega)
                    omega
                  have HCT := Lib.hid (contStr_c (.slice (some ⟨gz, 0, none⟩) own.length cz) own (fun s => hasS s us) 78 #[.pointer (some ⟨ub, 0, none⟩)] wz hrz (fun a w' => enters_of Try.func78 (by kernel_rfl) rfl a w')
                    (fun a W _ hW => (pr4_c a us ua uc ub W (by rw [hW.cell (p := ⟨ub, 0, none⟩) (by show ub < _; omega)]; exact KUz.out.cell 0 rfl) ((Reads.of_owns OUz.out (by omega)).below hW)).mono fun e w' ⟨he, hw⟩ => ⟨he, hW.trans (hw.mono hW.size)⟩))
                  clear hrz hbz HDE hfe
                  cases han : own.any (fun s => hasS s us)
                  ·
                    rw [han] at HCT hpf
                    have HPF : Hid (provesF c (ws.drop (k + 1)) (us ++ own) = PRF) := hpf.out
                    clear han hpf
                    go_wp2_with fail
                    refine HCT.out.mono ?_; rintro ee wt ⟨rfl, hbt⟩
                    have KUt := below_blk hbt KUz.out KUz.out.lt
                    have OUt := row_below OUz.out hbt
                    have hrt := HOZ.out.below hbt
                    have hzt := hbt.size
                    have HTT := Lib.hid (HT.out.trans (hbt.mono (by omega)) : Below wr.heap.size wr wt)
                    have hnw : ∀ j u, (strs own)[j]? = some u → wt.cell? ((⟨gz, 0, none⟩ : Addr).add j) = some u := by
                      rcases hrt with ⟨h0, h1, _⟩ | ⟨b, o, cp, hv, _, _, _, h4⟩
                      · intro j u hj; rw [h1] at hj; simp at hj
                      · cases hv; exact cells_add h4
                    obtain ⟨i0, hi0, hz0, hz1, hz2⟩ := info_parts infoStrL
                    obtain ⟨v', wv2, hap, hov, hgv, _⟩ := run_append_own (P := Try.prog) wt (ub + 1) 22 22 9 i0 (.string ByteArray.empty) 1 16 Try.underlying22 hi0 hz0 hz1 hz2 rfl (by decide) (.slice ua us.length uc) us.length (strs us) OUt ⟨gz, 0, none⟩ own.length cz (strs own) (by rw [strs_len]; omega) hnw (strs_one own) (by unfold maxLen; omega) (by omega) (by omega)
                    obtain ⟨va, vc, rfl⟩ := row_slice hov
                    have hne : (Value.slice ua us.length uc).ownBlock ≠ some ub := fun h => by have := row_own OUt ub h; omega
                    have KUv := KUt.gro hgv hne
                    have BUv : Below ub w8 wv2 := (hbu.out.trans (HTT.out.mono (by omega))).grown hgv (by omega) (fun j hj => by have := row_own OUt j hj; omega)
                    have hvs := hgv.size
                    have k0 := KUt.cell 0 rfl
                    have k1 := KUv.cell 0 rfl
                    have kf := KUv.free 0
                    have KUs := Lib.hid (KUv.set 0 (.slice va (us.length + own.length) vc))
                    have BUs := Lib.hid (BUv.setCell (show ub ≤ (⟨ub, 0, none⟩ : Addr).block from Nat.le_refl _) (.slice va (us.length + own.length) vc))
                    have OUs := Lib.hid (ownsRow_setCell_below hov (show (⟨ub, 0, none⟩ : Addr).block < ub + 1 from Nat.lt_succ_self _) (.slice va (us.length + own.length) vc))
                    have hss : ub + 1 ≤ (wv2.setCell ⟨ub, 0, none⟩ (.slice va (us.length + own.length) vc)).heap.size := by rw [World.size_setCell]; omega
                    have OUs2 : Hid ((wv2.setCell ⟨ub, 0, none⟩ (.slice va (us.length + own.length) vc)).ownsRow (ub + 1) 9 1 (.slice va (us.length + own.length) vc) (us ++ own).length (strs (us ++ own))) := by
                      show World.ownsRow _ _ _ _ _ _ _
                      rw [List.length_append, show strs (us ++ own) = strs us ++ strs own by unfold strs; simp]
                      exact OUs.out
                    have hul2 : (us ++ own).length ≤ 2000000 * (k + 1) := by rw [List.length_append]; omega
                    clear hbt hrt hnw hov hgv BUv OUs hne KUt OUt KUv
                    go_wp2_with (at_builtin; refine wpList_append_told rfl (.tmp 76) (.tmp 77) 22 rfl _ _ rfl rfl (.slice va (us.length + own.length) vc) wv2 hap ?_)
                    go_roundw
                    case rel => exact ⟨k + 1, us ++ own, _, hlt, by go_num, hul2, HPF, KUs, OUs2, BUs, hss⟩
                    case measure => simp [intOf]; omega
                  ·
                    rw [han] at HCT hpf
                    have HPF : Hid (PRF = false) := by show _ = _; rw [← hpf.out]; rfl
                    have HL := Lib.hid (HLE.out false (by rw [HPF.out]; cases OPN <;> rw [HDW.out] <;> rfl))
                    clear han hpf
                    go_wp2_with fail
                    refine HCT.out.mono ?_; rintro ee wt ⟨rfl, hbt⟩
                    have HBT := Lib.hid (HB9.out.trans ((HT.out.trans (hbt.mono (by omega))).mono HB9.out.size))
                    clear hbt
                    go_wp2_with fail
                    go_ret2
                    exact ⟨by rw [HL.out]; rfl, HBT.out⟩
              ·
                have hn0 : ws.drop k = [] := List.drop_eq_nil_of_le (by rw [HWN.out]; omega)
                have HPT : Hid (PRF = true) := by show _ = _; rw [← hpf.out, hn0]; rfl
                have HL := Lib.hid (HLE.out true (by rw [HOT.out, HDW.out, HPT.out]; rfl))
                clear hn0 hpf
                go_wp2_with fail
                go_ret2
                exact ⟨by rw [HL.out]; rfl, HB9.out⟩
        ·
          have g1 : ((wn : Int) != (on : Int)) = true := by rw [bne_iff_ne]; omega
          have hdw : decide (wn = on) = false := decide_eq_false hwo
          have HL := Lib.hid (HLE.out false (by rw [hdw]; cases OPN <;> rfl))
          clear hwo hdw xc0
          go_wp2_with fail
          go_ret2
          exact ⟨by rw [HL.out]; rfl, HBW.out⟩
  ·
    have HL := Lib.hid (HE.out.trans (if_pos hp))
    have g1 : (PE != 0) = true := by simpa using hp
    clear HE HOK HBU hp
    go_wp2_with fail
    go_ret2
    exact ⟨by rw [HL.out]; rfl, HB3.out⟩
end Go.Proofs.Ytplebibabcdipaa
