/- fault.Check without sources, clear.breaker. clear.Check without sources. -/
import Derived.Test.YtplebibabcdipaaZAl
import Derived.Test.YtplebibabcdipaaCrv5
namespace Go.Proofs.Ytplebibabcdipaa
open Go.RowKit

set_option maxHeartbeats 400000 in
theorem indexSw_c (v : Value) (l : List NSw) (P : NSw → Bool) (g : FuncId) (caps : Array Value) (w : World) (hv : Reads w v l.length (flat NSw.cells l))
    (eg : ∀ (args : Array Value) (w : World), (callFunc g args).run Try.prog w = .ok (.enter g args) w) (hf : Hid (TellsE w g caps (fun a : NSw => .agg a.cells.toArray) l P)) :
    Calls Try.prog 107 #[v, .func (.func g) #[] caps] w fun e w' => e = .returned (.int .i64 (idxP P l 0)) ∧ Below w.heap.size w w' := by
  obtain ⟨a, cap, rfl⟩ := hv.slice
  have hn : l.length ≤ 9223372036854775807 := by
    rcases hv with ⟨h, _⟩ | ⟨_, _, _, _, _, h, _⟩
    · omega
    · exact h
  have HE : Hid (idxP P (l.drop 0) (0 : Nat) = idxP P l 0) := by show _ = _; rfl
  generalize idxP P l 0 = E at *
  obtain ⟨n, hN⟩ : ∃ n, l.length = n := ⟨_, rfl⟩
  have HN := Lib.hid hN
  have HV2 : Hid (Reads w (.slice a n cap) n (flat NSw.cells l)) := by show Reads _ _ _ _; rw [← hN]; exact hv
  rw [hN] at hn ⊢
  clear hN hv
  go_enter Try.func107, Try.ntmps107
  go_wp2_with fail
  go_loopw [8] (fun i wr => ∃ k : Nat, k ≤ n ∧ i = .int .i64 k ∧ Hid (idxP P (l.drop k) k = E) ∧ Hid (Below w.heap.size w wr)) (fun i _ => n - (intOf i).toNat)
  case atStart => exact ⟨0, Nat.zero_le _, rfl, HE.out, Below.refl _ _⟩
  case round =>
    obtain ⟨k, hk, rfl, he, hb⟩ := hrel
    by_cases hlt : k < n
    · obtain ⟨b, off, cap', hvv, _, _, hbl, hc⟩ := (HV2.out.below hb.out).addr (by omega)
      simp only [Value.slice.injEq] at hvv
      obtain ⟨rfl, _, rfl⟩ := hvv
      have hlk : k < l.length := by rw [HN.out]; exact hlt
      obtain ⟨x, hx⟩ : ∃ x, l[k]? = some x := ⟨_, List.getElem?_eq_getElem hlk⟩
      obtain ⟨c0, c1, c2, c3, c4⟩ := sw_cells hc hx
      have hd := idxP_drop (P := P) hx
      have hm := List.mem_of_getElem? hx
      have HD := Lib.hid hd
      have HF := Lib.hid (hf.out x wr hm hb.out)
      clear hd hc hx hm
      go_wp2_with fail
      refine HF.out.mono ?_; rintro e w2 ⟨rfl, hb2⟩
      have HB2 := Lib.hid hb2
      clear hb2 hb
      cases hp : P x
      · have HP := Lib.hid hp
        clear hp
        go_wp2_with fail
        go_roundw
        case rel => exact ⟨k + 1, by omega, by go_num, by show _ = _; rw [← he.out, HD.out, HP.out]; rfl, HB2⟩
        case measure => simp [intOf]; omega
      · have HP := Lib.hid hp
        clear hp
        go_wp2_with fail
        go_ret
        exact ⟨by rw [← he.out, HD.out, HP.out]; rfl, HB2.out⟩
    · have hkn : l.drop k = [] := List.drop_eq_nil_of_le (by rw [HN.out]; omega)
      have HX : Hid (E = -1) := by show _ = _; rw [← he.out, hkn]; rfl
      clear he hkn
      go_wp2_with fail
      go_ret
      exact ⟨by rw [HX.out]; rfl, hb.out⟩

/-- The index of a switch, or -1. -/
def swAt (n : Net) (nm : ByteArray) : Int := idxP (fun s : NSw => sameB s.name nm) n.sws 0
theorem swAt_range (n : Net) (nm : ByteArray) : swAt n nm = -1 ∨ ∃ (k : Nat) (x : NSw), swAt n nm = k ∧ n.sws[k]? = some x ∧ sameB x.name nm = true := by
  rcases idxP_range (fun s : NSw => sameB s.name nm) n.sws 0 with h | ⟨k, x, h1, h2, h3, _⟩
  · exact Or.inl h
  · exact Or.inr ⟨k, x, by unfold swAt; rw [h1]; omega, h2, h3⟩

set_option maxHeartbeats 1000000 in
theorem cb1_c (x : NSw) (nm : ByteArray) (nb : Nat) (w : World) (c0 : w.cell? ⟨nb, 0, none⟩ = some (.string nm)) (hnb : nb < w.heap.size) :
    Calls Try.prog 119 #[.agg x.cells.toArray, .pointer (some ⟨nb, 0, none⟩)] w fun e w' => e = .returned (.bool (sameB x.name nm)) ∧ Below w.heap.size w w' := by
  obtain ⟨n0, fr, tt, bk, op⟩ := x
  show Calls _ _ #[.agg #[.string n0, .string fr, .string tt, .bool bk, .bool op], _] _ _
  have HE : Hid (sameB n0 nm = (n0.toList == nm.toList)) := rfl
  have B : Hid (Below w.heap.size w (w.alloc (.cells #[.string n0, .string fr, .string tt, .bool bk, .bool op] 82))) := belowA (Below.refl _ _) _
  simp only
  generalize sameB n0 nm = E at *
  go_enter Try.func119, Try.ntmps119
  go_wp2_with fail
  go_ret
  exact ⟨by rw [HE.out]; rfl, B.out⟩

set_option maxHeartbeats 1000000 in
theorem breaker_c (x0 : NAddr) (n : Net) (nm : ByteArray) (w : World) (hr : NetR w x0 n) :
    Calls Try.prog 93 #[x0.val n, .string nm] w fun e w' => e = .returned (.int .i64 (swAt n nm)) ∧ Below w.heap.size w w' := by
  have r1 := hr.sws
  have HC : Hid (∀ W g caps P, Below w.heap.size w W → (∀ (args : Array Value) (w : World), (callFunc g args).run Try.prog w = .ok (.enter g args) w) → TellsE W g caps (fun a : NSw => .agg a.cells.toArray) n.sws P →
      Calls Try.prog 107 #[.slice x0.sa n.sws.length x0.sc, .func (.func g) #[] caps] W fun e w' => e = .returned (.int .i64 (idxP P n.sws 0)) ∧ Below W.heap.size W w') := by
    intro W g caps P hb eg hf
    exact indexSw_c (.slice x0.sa n.sws.length x0.sc) n.sws P g caps W (r1.below hb) eg hf
  have HE : Hid (swAt n nm = idxP (fun s : NSw => sameB s.name nm) n.sws 0) := rfl
  generalize swAt n nm = E at *
  clear hr r1
  obtain ⟨na, nc, sa, sc, ba, bc, ga, gc, la, lc, ta, tc⟩ := x0
  obtain ⟨nl, sws, brs, gens, loads, stores⟩ := n
  simp only [NAddr.val] at HC HE ⊢
  generalize nl.length = nn at *
  generalize sws.length = sn at *
  generalize brs.length = bn at *
  generalize gens.length = gn at *
  generalize loads.length = ln at *
  generalize stores.length = tn at *
  have B1 := belowA (Below.refl w.heap.size w) (.cells #[.slice na nn nc, .slice sa sn sc, .slice ba bn bc, .slice ga gn gc, .slice la ln lc, .slice ta tn tc] 29)
  have K1 := Blk.new w #[.slice na nn nc, .slice sa sn sc, .slice ba bn bc, .slice ga gn gc, .slice la ln lc, .slice ta tn tc] 29
  generalize hW1 : w.alloc (.cells #[.slice na nn nc, .slice sa sn sc, .slice ba bn bc, .slice ga gn gc, .slice la ln lc, .slice ta tn tc] 29) = W1 at *
  have B2 := Lib.hid (belowA B1 (.cells #[.string nm] 9))
  have K2 := K1.alloc (.cells #[.string nm] 9)
  have K3 := Blk.new W1 #[.string nm] 9
  generalize hW2 : W1.alloc (.cells #[.string nm] 9) = W2 at *
  have x1 := K2.cell 1 rfl
  have y0 := K3.cell 0 rfl
  have ly := K3.lt
  have HC2 := Lib.hid (HC.out W2 119 #[.pointer (some ⟨W1.heap.size, 0, none⟩)] (fun s => sameB s.name nm) B2.out (fun a w' => enters_of Try.func119 (by kernel_rfl) rfl a w')
    (fun a W _ hW => (cb1_c a nm W1.heap.size W (by rw [hW.cell (p := ⟨W1.heap.size, 0, none⟩) ly]; exact y0) (Nat.lt_of_lt_of_le ly hW.size)).mono fun e w' ⟨he, hw⟩ => ⟨he, hW.trans (hw.mono hW.size)⟩))
  clear HC K1 K2 K3 B1
  go_enter Try.func93, Try.ntmps93
  go_wp2_with fail
  refine HC2.out.mono ?_; rintro e w3 ⟨rfl, hb3⟩
  have B3 := Lib.hid hb3
  clear hb3
  go_wp2_with fail
  go_ret
  exact ⟨by rw [HE.out]; rfl, belowT B2.out B3.out⟩

set_option maxHeartbeats 1000000 in
theorem faultCheck0_c (x0 : NAddr) (n : Net) (w : World) (hr : NetR w x0 n) (hwf : n.Wf) :
    Calls Try.prog 92 #[x0.val n, .slice none 0 0] w fun e w' => e = .returned (.int .i64 (netE n)) ∧ Below w.heap.size w w' := by
  have HN := Lib.hid (fun W (hW : Below w.heap.size w W) => net_c x0 n W (hr.below hW) hwf)
  generalize netE n = Z at *
  clear hr hwf
  obtain ⟨na, nc, sa, sc, ba, bc, ga, gc, la, lc, ta, tc⟩ := x0
  obtain ⟨nl, sws, brs, gens, loads, stores⟩ := n
  simp only [NAddr.val] at HN ⊢
  generalize nl.length = nn at *
  generalize sws.length = sn at *
  generalize brs.length = bn at *
  generalize gens.length = gn at *
  generalize loads.length = ln at *
  generalize stores.length = tn at *
  have B1 := Lib.hid (belowA (Below.refl w.heap.size w) (.cells #[.slice na nn nc, .slice sa sn sc, .slice ba bn bc, .slice ga gn gc, .slice la ln lc, .slice ta tn tc] 29))
  have K1 := Blk.new w #[.slice na nn nc, .slice sa sn sc, .slice ba bn bc, .slice ga gn gc, .slice la ln lc, .slice ta tn tc] 29
  generalize hW1 : w.alloc (.cells #[.slice na nn nc, .slice sa sn sc, .slice ba bn bc, .slice ga gn gc, .slice la ln lc, .slice ta tn tc] 29) = W1 at *
  have x0 := K1.cell 0 rfl
  have x1 := K1.cell 1 rfl
  have x2 := K1.cell 2 rfl
  have x3 := K1.cell 3 rfl
  have x4 := K1.cell 4 rfl
  have x5 := K1.cell 5 rfl
  go_enter Try.func92, Try.ntmps92
  go_wp2_with fail
  refine (HN.out W1 B1.out).mono ?_; rintro e w3 ⟨rfl, hb3⟩
  have B3 := Lib.hid (belowT B1.out hb3)
  clear hb3 x0 x1 x2 x3 x4 x5 K1 HN
  by_cases hz : Z = 0
  · have g1 : (Z != 0) = false := by simp [hz]
    go_wp2_with fail
    go_loopw [15] (fun i wr => i = .int .i64 0 ∧ w3 = wr) (fun _ _ => 0)
    case atStart => exact ⟨rfl, rfl⟩
    case round =>
      obtain ⟨rfl, rfl⟩ := hrel
      go_wp2_with fail
      go_ret
      exact ⟨by rw [hz]; rfl, B3.out⟩
  · have g1 : (Z != 0) = true := by simp [hz]
    go_wp2_with fail
    go_ret
    exact ⟨rfl, B3.out⟩
end Go.Proofs.Ytplebibabcdipaa
namespace Go.Proofs.Ytplebibabcdipaa
open Go.RowKit

/-- A relay with a characteristic, in memory. -/
structure CRA where
  brk : ByteArray
  branch : ByteArray
  node : ByteArray
  ca : Option Addr
  cl : Nat
  cc : Nat
  pts : Pts
  pk : Int
  opn : Int
def CRA.cells (x : CRA) : List Value := [.string x.brk, .string x.branch, .string x.node, .slice x.ca x.cl x.cc, .int .i64 x.pk, .int .i64 x.opn]
instance : Inhabited CRA := ⟨⟨.empty, .empty, .empty, none, 0, 0, [], 0, 0⟩⟩
theorem cra_cells {w : World} {b off : Nat} {l : List CRA} (h : ∀ j u, (flat CRA.cells l)[j]? = some u → w.cell? ⟨b, off + j, none⟩ = some u) {k : Nat} {x : CRA} (hx : l[k]? = some x) :
    w.cell? ⟨b, off + k * 6, none⟩ = some (.string x.brk) ∧ w.cell? ⟨b, off + k * 6 + 1, none⟩ = some (.string x.branch) ∧ w.cell? ⟨b, off + k * 6 + 2, none⟩ = some (.string x.node) ∧ w.cell? ⟨b, off + k * 6 + 3, none⟩ = some (.slice x.ca x.cl x.cc) ∧ w.cell? ⟨b, off + k * 6 + 4, none⟩ = some (.int .i64 x.pk) ∧ w.cell? ⟨b, off + k * 6 + 5, none⟩ = some (.int .i64 x.opn) := by
  have e := fun j u hj hu => Reads.elem (sz := 6) (fun _ => rfl) h hx (j := j) (u := u) hj hu
  exact ⟨e 0 _ (by decide) rfl, by rw [Nat.add_assoc]; exact e 1 _ (by decide) rfl, by rw [Nat.add_assoc]; exact e 2 _ (by decide) rfl, by rw [Nat.add_assoc]; exact e 3 _ (by decide) rfl, by rw [Nat.add_assoc]; exact e 4 _ (by decide) rfl, by rw [Nat.add_assoc]; exact e 5 _ (by decide) rfl⟩
/-- A list of such relays in memory. -/
def CRels (w : World) (v : Value) (l : List CRA) : Prop := Reads w v l.length (flat CRA.cells l) ∧ ∀ r ∈ l, PVal w (.slice r.ca r.cl r.cc) r.pts
theorem CRels.below {w w' : World} {v : Value} {l : List CRA} (h : CRels w v l) (k : Below w.heap.size w w') : CRels w' v l := ⟨h.1.below k, fun r hr => (h.2 r hr).below k⟩
def swOf (n : Net) (nm : ByteArray) : NSw := n.sws.getD (swAt n nm).toNat ⟨.empty, .empty, .empty, false, false⟩
theorem swOf_eq {n : Net} {nm : ByteArray} {k : Nat} {x : NSw} (h : swAt n nm = k) (hx : n.sws[k]? = some x) : swOf n nm = x := by
  unfold swOf; rw [h]; simp [hx]
def badPk (pk op : Int) : Bool := decide (pk < 1) || (decide (1000000 < pk) || (decide (op < 1) || decide (10000 < op)))
/-- What Check answers of one relay. -/
def clrOne (n : Net) (r : CRA) : Int :=
  if swAt n r.brk < 0 ∨ brAt n r.branch < 0 then 6 else
  if (swOf n r.brk).brk = false ∨ badEnd r.node (brOf n r.branch) = true then 3 else
  if r.pts.err ≠ 0 then r.pts.err else if badPk r.pk r.opn = true then 4 else 0
def clrAll (n : Net) : List CRA → Int
  | [] => 0
  | r :: rs => if clrOne n r ≠ 0 then clrOne n r else clrAll n rs
theorem clrAll_drop {n : Net} {l : List CRA} {k : Nat} {x : CRA} (h : l[k]? = some x) : clrAll n (l.drop k) = if clrOne n x ≠ 0 then clrOne n x else clrAll n (l.drop (k + 1)) := by
  obtain ⟨hk, hx⟩ := List.getElem?_eq_some_iff.1 h
  rw [List.drop_eq_getElem_cons hk, hx]; rfl
def clearE (n : Net) (l : List CRA) : Int := if netE n ≠ 0 then netE n else if 24 < l.length then 2 else clrAll n l

set_option maxHeartbeats 1000000 in
theorem cc1_c (x : NBr) (bk br nd : ByteArray) (cv pv ov : Value) (rb : Nat) (w : World) (K : Blk w rb #[.string bk, .string br, .string nd, cv, pv, ov] 56) :
    Calls Try.prog 94 #[.agg x.cells.toArray, .pointer (some ⟨rb, 0, none⟩)] w fun e w' => e = .returned (.bool (sameB x.name br)) ∧ Below w.heap.size w w' := by
  obtain ⟨n0, fr, tt, x3, x4, x5, x6, x7, x8⟩ := x
  show Calls _ _ #[.agg #[.string n0, .string fr, .string tt, .int .i64 x3, .int .i64 x4, .int .i64 x5, .int .i64 x6, .int .i64 x7, .int .i64 x8], _] _ _
  have HE : Hid (sameB n0 br = (n0.toList == br.toList)) := rfl
  have B : Hid (Below w.heap.size w (w.alloc (.cells #[.string n0, .string fr, .string tt, .int .i64 x3, .int .i64 x4, .int .i64 x5, .int .i64 x6, .int .i64 x7, .int .i64 x8] 36))) := belowA (Below.refl _ _) _
  have y1 := K.cell 1 rfl
  have ly := K.lt
  clear K
  simp only
  generalize sameB n0 br = E at *
  go_enter Try.func94, Try.ntmps94
  go_wp2_with fail
  go_ret
  exact ⟨by rw [HE.out]; rfl, B.out⟩

set_option maxHeartbeats 8000000 in
set_option maxRecDepth 100000 in
theorem clear_c (x0 : NAddr) (n : Net) (l : List CRA) (lv : Value) (w : World) (hr : NetR w x0 n) (hwf : n.Wf) (hl : CRels w lv l) :
    Calls Try.prog 49 #[x0.val n, .slice none 0 0, lv] w fun e w' => e = .returned (.int .i64 (clearE n l)) ∧ Below w.heap.size w w' := by
  obtain ⟨ra, rc, rfl⟩ := hl.1.slice
  have HF := Lib.hid (fun W (hW : Below w.heap.size w W) => faultCheck0_c x0 n W (hr.below hW) hwf)
  have HBK := Lib.hid (fun nm W (hW : Below w.heap.size w W) => breaker_c x0 n nm W (hr.below hW))
  have HIX : Hid (∀ W g caps P, Below w.heap.size w W → (∀ (args : Array Value) (w : World), (callFunc g args).run Try.prog w = .ok (.enter g args) w) → TellsE W g caps (fun a : NBr => .agg a.cells.toArray) n.brs P →
      Calls Try.prog 54 #[.slice x0.ba n.brs.length x0.bc, .func (.func g) #[] caps] W fun e w' => e = .returned (.int .i64 (idxP P n.brs 0)) ∧ Below W.heap.size W w') := by
    intro W g caps P hb eg hf
    exact indexBr_c (.slice x0.ba n.brs.length x0.bc) n.brs P g caps W (hr.brs.below hb) eg hf
  have HCU : Hid (∀ (x : CRA), x ∈ l → ∀ W, Below w.heap.size w W → Calls Try.prog 47 #[.slice x.ca x.cl x.cc] W fun e w' => e = .returned (.int .i64 x.pts.err) ∧ Below W.heap.size W w') := fun x hx W hW =>
    curveCheck_c _ x.pts W ((hl.2 x hx).below hW)
  have HE : Hid (clearE n l = if netE n ≠ 0 then netE n else if 24 < l.length then 2 else clrAll n l) := rfl
  have HS := Lib.hid (swAt_range n)
  have HB := Lib.hid (brAt_range n)
  have HSO : Hid (∀ nm (k : Nat) x, swAt n nm = k → n.sws[k]? = some x → swOf n nm = x) := fun nm k x h1 h2 => swOf_eq h1 h2
  have HBO : Hid (∀ nm (k : Nat) x, brAt n nm = k → n.brs[k]? = some x → brOf n nm = x) := fun nm k x h1 h2 => brOf_eq h1 h2
  have HRD : Hid (∀ (k : Nat) x, l[k]? = some x → clrAll n (l.drop k) = if clrOne n x ≠ 0 then clrOne n x else clrAll n (l.drop (k + 1))) := fun k x hx => clrAll_drop hx
  have HC1 : Hid (∀ x : CRA, clrOne n x = if swAt n x.brk < 0 ∨ brAt n x.branch < 0 then 6 else if (swOf n x.brk).brk = false ∨ badEnd x.node (brOf n x.branch) = true then 3 else
    if x.pts.err ≠ 0 then x.pts.err else if badPk x.pk x.opn = true then 4 else 0) := fun _ => rfl
  have HBA : Hid (∀ nm, idxP (fun b : NBr => sameB b.name nm) n.brs 0 = brAt n nm) := fun _ => rfl
  have hR1 := hr.sws
  have hR2 := hr.brs
  have hl1 := hl.1
  have HR0 : Hid (clrAll n (l.drop 0) = clrAll n l) := rfl
  have HNIL : Hid (clrAll n [] = 0) := rfl
  generalize clearE n l = E at *
  generalize netE n = Z at *
  clear hr hwf hl
  obtain ⟨N, hN⟩ : ∃ k, l.length = k := ⟨_, rfl⟩
  have HN := Lib.hid hN
  rw [hN] at hl1 HE ⊢
  have HL := Lib.hid hl1
  have hnn : N ≤ 9223372036854775807 := by
    rcases hl1 with ⟨h, _⟩ | ⟨_, _, _, _, _, h, _⟩
    · omega
    · exact h
  clear hN hl1
  generalize swAt n = SA at *
  generalize swOf n = SO at *
  generalize brOf n = BO at *
  generalize brAt n = BT at *
  generalize clrOne n = CO at *
  generalize clrAll n = CAL at *
  obtain ⟨na, nc, sa, sc, ba, bc, ga, gc, la, lc, ta, tc⟩ := x0
  obtain ⟨nl, sws, brs, gens, loads, stores⟩ := n
  simp only [NAddr.val] at HF HBK HIX HS HB HSO HBO HBA hR1 hR2 ⊢
  obtain ⟨sn, hSn⟩ : ∃ k, sws.length = k := ⟨_, rfl⟩
  obtain ⟨bn, hBn⟩ : ∃ k, brs.length = k := ⟨_, rfl⟩
  have HSN := Lib.hid hSn
  have HBN := Lib.hid hBn
  rw [hSn, hBn] at HF HBK
  rw [hBn] at HIX hR2
  rw [hSn] at hR1
  rw [hSn, hBn]
  clear hSn hBn
  generalize nl.length = nn at *
  generalize gens.length = gn at *
  generalize loads.length = ln at *
  generalize stores.length = tn at *
  have HR1 := Lib.hid hR1
  have HR2 := Lib.hid hR2
  clear hR1 hR2
  have B1 := Lib.hid (belowA (Below.refl w.heap.size w) (.cells #[.slice na nn nc, .slice sa sn sc, .slice ba bn bc, .slice ga gn gc, .slice la ln lc, .slice ta tn tc] 29))
  have K1 := Lib.hid (Blk.new w #[.slice na nn nc, .slice sa sn sc, .slice ba bn bc, .slice ga gn gc, .slice la ln lc, .slice ta tn tc] 29)
  generalize hW1 : w.alloc (.cells #[.slice na nn nc, .slice sa sn sc, .slice ba bn bc, .slice ga gn gc, .slice la ln lc, .slice ta tn tc] 29) = W1 at *
  have x0 := K1.out.cell 0 rfl
  have x1 := K1.out.cell 1 rfl
  have x2 := K1.out.cell 2 rfl
  have x3 := K1.out.cell 3 rfl
  have x4 := K1.out.cell 4 rfl
  have x5 := K1.out.cell 5 rfl
  go_enter Try.func49, Try.ntmps49
  go_wp2_with fail
  refine (HF.out W1 B1.out).mono ?_; rintro e w4 ⟨rfl, hb4⟩
  have B4 := Lib.hid (belowT B1.out hb4)
  have K4 := Lib.hid (below_blk hb4 K1.out K1.out.lt)
  clear x0 x1 x2 x3 x4 x5 hb4 K1 B1 HF hW1
  by_cases hz : Z = 0
  ·
    have g1 : (Z != 0) = false := by simp [hz]
    have HE1 := Lib.hid (HE.out.trans (if_neg (fun h => h hz)))
    clear hz HE
    by_cases h24 : 24 < N
    ·
      have g2 : decide ((24 : Int) < (N : Int)) = true := decide_eq_true (by omega)
      have HR := Lib.hid (HE1.out.trans (if_pos h24))
      clear h24
      go_wp2_with fail
      go_ret
      exact ⟨by rw [HR.out]; rfl, B4.out⟩
    ·
      have g2 : decide ((24 : Int) < (N : Int)) = false := decide_eq_false (by omega)
      have HE2 := Lib.hid (HE1.out.trans (if_neg h24))
      clear h24 HE1
      go_wp2_with fail
      go_loopw [24] (fun i wr => ∃ k : Nat, k ≤ N ∧ i = .int .i64 k ∧ Hid (CAL (l.drop k) = CAL l) ∧ Hid (Below w4.heap.size w4 wr)) (fun i _ => N - (intOf i).toNat)
      case atStart => exact ⟨0, Nat.zero_le _, rfl, HR0, Below.refl _ _⟩
      case round =>
        obtain ⟨k, hk, rfl, he, hbl⟩ := hrel
        have HB0 := Lib.hid (belowT B4.out hbl.out)
        by_cases hlt : k < N
        ·
          obtain ⟨x, hx⟩ : ∃ x, l[k]? = some x := ⟨_, List.getElem?_eq_getElem (by rw [HN.out]; exact hlt)⟩
          obtain ⟨g, off, cap', hvv, _, _, hgl, hc⟩ := (HL.out.below HB0.out).addr (by omega)
          simp only [Value.slice.injEq] at hvv
          obtain ⟨rfl, _, rfl⟩ := hvv
          obtain ⟨c0, c1, c2, c3, c4, c5⟩ := cra_cells hc hx
          have hrd := HRD.out k x hx
          rw [he.out] at hrd
          have hc1 := HC1.out x
          have HCU1 := Lib.hid (HCU.out x (List.mem_of_getElem? hx))
          obtain ⟨bk, br, nd, ca, cl, cc, pts, pk, op⟩ := x
          simp only at c0 c1 c2 c3 c4 c5 hrd hc1 HCU1
          generalize CO ⟨bk, br, nd, ca, cl, cc, pts, pk, op⟩ = D at *
          generalize pts.err = F at *
          have HDR := Lib.hid hrd
          have HD0 := Lib.hid hc1
          have HB5 := Lib.hid (belowA HB0.out (.cells #[.string bk, .string br, .string nd, .slice ca cl cc, .int .i64 pk, .int .i64 op] 56))
          have EB0 : Hid (Blk (wr.alloc (.cells #[.string bk, .string br, .string nd, .slice ca cl cc, .int .i64 pk, .int .i64 op] 56)) wr.heap.size #[.string bk, .string br, .string nd, .slice ca cl cc, .int .i64 pk, .int .i64 op] 56) := Blk.new _ _ _
          have K5 := Lib.hid ((below_blk hbl.out K4.out K4.out.lt).alloc (.cells #[.string bk, .string br, .string nd, .slice ca cl cc, .int .i64 pk, .int .i64 op] 56))
          clear hc hx hrd hc1 he
          have x0 := K5.out.cell 0 rfl
          have x1 := K5.out.cell 1 rfl
          have x2 := K5.out.cell 2 rfl
          have x3 := K5.out.cell 3 rfl
          have x4 := K5.out.cell 4 rfl
          have x5 := K5.out.cell 5 rfl
          have HK1 := Lib.hid (HBK.out bk (wr.alloc (.cells #[.string bk, .string br, .string nd, .slice ca cl cc, .int .i64 pk, .int .i64 op] 56)) HB5.out)
          go_wp2_with fail
          have HW5 := Lib.hid (belowA hbl.out (.cells #[.string bk, .string br, .string nd, .slice ca cl cc, .int .i64 pk, .int .i64 op] 56))
          generalize wr.alloc (.cells #[.string bk, .string br, .string nd, .slice ca cl cc, .int .i64 pk, .int .i64 op] 56) = W5 at *
          refine HK1.out.mono ?_; rintro e w6 ⟨rfl, hb6⟩
          have B6 := Lib.hid hb6
          have EB6 := Lib.hid (below_blk hb6 EB0.out EB0.out.lt)
          have K6 := Lib.hid (below_blk hb6 K5.out K5.out.lt)
          clear x0 x1 x2 x3 x4 x5 hb6 HK1 c0 c1 c2 c3 c4 c5
          have x2 := K6.out.cell 2 rfl
          have HI1 := Lib.hid (HIX.out w6 94 #[.pointer (some ⟨wr.heap.size, 0, none⟩)] (fun b => sameB b.name br) (belowT HB5.out B6.out) (fun a w' => enters_of Try.func94 (by kernel_rfl) rfl a w')
            (fun a W _ hW => (cc1_c a bk br nd _ _ _ wr.heap.size W (below_blk hW EB6.out EB6.out.lt)).mono fun e w' ⟨he, hw⟩ => ⟨he, hW.trans (hw.mono hW.size)⟩))
          rw [HBA.out br] at HI1
          go_wp2_with fail
          refine HI1.out.mono ?_; rintro e w7 ⟨rfl, hb7⟩
          have B7 : Hid (Below W5.heap.size W5 w7) := belowT B6.out hb7
          have HBZ := Lib.hid (belowT HB5.out B7.out)
          have EB := EB0
          clear hb7 HI1 x2 K6 EB6 B6 HIX HBK
          have hs := HS.out bk
          have hb := HB.out br
          have HSO1 := Lib.hid (HSO.out bk)
          have HBO1 := Lib.hid (HBO.out br)
          generalize SA bk = S at *
          generalize SO bk = SX at *
          generalize BT br = T at *
          generalize BO br = TX at *
          rcases hs with hs | ⟨ks, xs, hs, hxs, _⟩
          ·
            have g3 : decide (S < 0) = true := decide_eq_true (by omega)
            have HD1 : Hid (D = 6) := HD0.out.trans (if_pos (Or.inl (by omega)))
            have HR : Hid (E = 6) := HE2.out.trans (HDR.out.trans ((if_pos (by rw [HD1.out]; decide)).trans HD1.out))
            clear hs hb
            go_wp2_with fail
            go_ret
            exact ⟨by rw [HR.out]; rfl, HBZ.out⟩
          ·
            have g3 : decide (S < 0) = false := decide_eq_false (by omega)
            rcases hb with hb | ⟨kb, xb, hb, hxb, _⟩
            ·
              have g4 : decide (T < 0) = true := decide_eq_true (by omega)
              have HD1 : Hid (D = 6) := HD0.out.trans (if_pos (Or.inr (by omega)))
              have HR : Hid (E = 6) := HE2.out.trans (HDR.out.trans ((if_pos (by rw [HD1.out]; decide)).trans HD1.out))
              clear hs hb
              go_wp2_with fail
              go_ret
              exact ⟨by rw [HR.out]; rfl, HBZ.out⟩
            ·
              have g4 : decide (T < 0) = false := decide_eq_false (by omega)
              have hsx := HSO1.out ks xs hs hxs
              have hbx := HBO1.out kb xb hb hxb
              have hd1 := HD0.out.trans (if_neg (by omega))
              rw [hsx, hbx] at hd1
              have HD1 := Lib.hid hd1
              subst hs hb
              have hls : ks < sn := by rw [← HSN.out]; exact (List.getElem?_eq_some_iff.1 hxs).1
              have hlb : kb < bn := by rw [← HBN.out]; exact (List.getElem?_eq_some_iff.1 hxb).1
              obtain ⟨sg, soff, scap, svv, _, _, hsgl, hsc⟩ := (HR1.out.below HBZ.out).addr (by omega)
              simp only [Value.slice.injEq] at svv
              obtain ⟨rfl, _, rfl⟩ := svv
              obtain ⟨bg, boff, bcap, bvv, _, _, hbgl, hbc⟩ := (HR2.out.below HBZ.out).addr (by omega)
              simp only [Value.slice.injEq] at bvv
              obtain ⟨rfl, _, rfl⟩ := bvv
              obtain ⟨_, _, _, s3, _⟩ := sw_cells hsc hxs
              obtain ⟨_, b1, b2, _⟩ := br_cells hbc hxb
              obtain ⟨sn0, sfr, stt, sbk, sop⟩ := xs
              obtain ⟨bn0, bfr, btt, bx, b4, b5, b6, b7, b8⟩ := xb
              simp only at s3 b1 b2
              have y2 := (below_blk B7.out EB.out EB.out.lt).cell 2 rfl
              have z1 := (below_blk B7.out K5.out K5.out.lt).cell 1 rfl
              have z2 := (below_blk B7.out K5.out K5.out.lt).cell 2 rfl
              clear hsx hbx hd1 hxs hxb hsc hbc HSO1 HBO1 HD0
              have HBE : Hid (badEnd nd ⟨bn0, bfr, btt, bx, b4, b5, b6, b7, b8⟩ = (!(nd.toList == bfr.toList) && !(nd.toList == btt.toList))) := rfl
              generalize badEnd nd ⟨bn0, bfr, btt, bx, b4, b5, b6, b7, b8⟩ = BE at *
              go_wp2_with fail
              cases sbk
              ·
                have HD3 : Hid (D = 3) := HD1.out.trans (if_pos (Or.inl rfl))
                have HR : Hid (E = 3) := HE2.out.trans (HDR.out.trans ((if_pos (by rw [HD3.out]; decide)).trans HD3.out))
                refine wp_region_quiet_lit (by kernel_rfl) (by kernel_rfl) ?_
                repeat (first | go_big_quiet_step (fail) | (go_big_quiet_want; go_simp; go_big_quiet_on))
                refine wpQuiet_nil ?_
                intro _ hw'
                obtain ⟨nq, hw''⟩ := hw'
                subst hw''
                go_wp2_with fail
                go_ret
                exact ⟨by rw [HR.out]; rfl, below_drewN HBZ.out _⟩
              ·
                cases hq1 : (nd.toList == bfr.toList)
                ·
                  have hn1 : (nd.toList != bfr.toList) = true := by simp [bne, hq1]
                  cases hq2 : (nd.toList == btt.toList)
                  ·
                    have hn2 : (nd.toList != btt.toList) = true := by simp [bne, hq2]
                    have HD3 : Hid (D = 3) := HD1.out.trans (if_pos (Or.inr (by rw [HBE.out, hq1, hq2]; rfl)))
                    have HR : Hid (E = 3) := HE2.out.trans (HDR.out.trans ((if_pos (by rw [HD3.out]; decide)).trans HD3.out))
                    refine wp_region_quiet_lit (by kernel_rfl) (by kernel_rfl) ?_
                    repeat (first | go_big_quiet_step (fail) | (go_big_quiet_want; go_simp; go_big_quiet_on))
                    refine wpQuiet_nil ?_
                    intro _ hw'
                    obtain ⟨nq, hw''⟩ := hw'
                    subst hw''
                    go_wp2_with fail
                    go_ret
                    exact ⟨by rw [HR.out]; rfl, below_drewN HBZ.out _⟩
                  ·
                    have hn2 : (nd.toList != btt.toList) = false := by simp [bne, hq2]
                    have HD2 := Lib.hid (HD1.out.trans (if_neg (fun h => h.elim (fun h => by cases h) (fun h => by rw [HBE.out, hq1, hq2] at h; cases h))))
                    refine wp_region_quiet_lit (by kernel_rfl) (by kernel_rfl) ?_
                    repeat (first | go_big_quiet_step (fail) | (go_big_quiet_want; go_simp; go_big_quiet_on))
                    refine wpQuiet_nil ?_
                    intro _ hw'
                    obtain ⟨nq, hw''⟩ := hw'
                    subst hw''
                    have K8 := Lib.hid ((below_blk B7.out EB.out EB.out.lt).drewN nq)
                    have B8 := Lib.hid (below_drewN B7.out nq)
                    have HBW := Lib.hid (belowT HB5.out B8.out)
                    generalize w7.drewN nq = w8 at *
                    have y3 := K8.out.cell 3 rfl
                    have y4 := K8.out.cell 4 rfl
                    have y5 := K8.out.cell 5 rfl
                    have HCC := Lib.hid (HCU1.out w8 HBW.out)
                    go_wp2_with fail
                    refine HCC.out.mono ?_; rintro e w9 ⟨rfl, hb9⟩
                    have B9 := Lib.hid (belowT B8.out hb9)
                    have HBX := Lib.hid (belowT HBW.out hb9)
                    clear y3 y4 y5
                    have y4 := (below_blk hb9 K8.out K8.out.lt).cell 4 rfl
                    have y5 := (below_blk hb9 K8.out K8.out.lt).cell 5 rfl
                    clear hb9 HCC K8
                    by_cases hF : F = 0
                    ·
                      have g6 : (F != 0) = false := by simp [hF]
                      have HD3 := Lib.hid (HD2.out.trans (if_neg (fun h => h hF)))
                      clear hF HD2
                      cases hbp : badPk pk op
                      ·
                        have HZ0 : Hid (D = 0) := HD3.out.trans (if_neg (by rw [hbp]; decide))
                        have HNX := Lib.hid (HDR.out.trans (if_neg (fun h => h HZ0.out)))
                        unfold badPk at hbp
                        simp only [Bool.or_eq_false_iff] at hbp
                        obtain ⟨q1, q2, q3, q4⟩ := hbp
                        go_wp2_with fail
                        go_roundw
                        case rel => exact ⟨k + 1, hlt, by go_num, HNX.out.symm, belowT HW5.out B9.out⟩
                        case measure => simp [intOf]; omega
                      ·
                        have HR : Hid (E = 4) := HE2.out.trans (HDR.out.trans ((if_pos (by rw [HD3.out, if_pos hbp]; decide)).trans (HD3.out.trans (if_pos hbp))))
                        unfold badPk at hbp
                        have HQ := Lib.hid hbp
                        clear hbp
                        go_wp2_with fail
                        all_goals first
                          | (exfalso; have hq := HQ.out; simp at * <;> omega)
                          | (go_ret; exact ⟨by rw [HR.out]; rfl, HBX.out⟩)
                    ·
                      have g6 : (F != 0) = true := by simp [hF]
                      have HD3 : Hid (D = F) := HD2.out.trans (if_pos hF)
                      have HR : Hid (E = F) := HE2.out.trans (HDR.out.trans ((if_pos (by rw [HD3.out]; exact hF)).trans HD3.out))
                      clear hF HD2
                      go_wp2_with fail
                      go_ret
                      exact ⟨by rw [HR.out]; rfl, HBX.out⟩
                ·
                  have hn1 : (nd.toList != bfr.toList) = false := by simp [bne, hq1]
                  have HD2 := Lib.hid (HD1.out.trans (if_neg (fun h => h.elim (fun h => by cases h) (fun h => by rw [HBE.out, hq1] at h; cases h))))
                  refine wp_region_quiet_lit (by kernel_rfl) (by kernel_rfl) ?_
                  repeat (first | go_big_quiet_step (fail) | (go_big_quiet_want; go_simp; go_big_quiet_on))
                  refine wpQuiet_nil ?_
                  intro _ hw'
                  obtain ⟨nq, hw''⟩ := hw'
                  subst hw''
                  have K8 := Lib.hid ((below_blk B7.out EB.out EB.out.lt).drewN nq)
                  have B8 := Lib.hid (below_drewN B7.out nq)
                  have HBW := Lib.hid (belowT HB5.out B8.out)
                  generalize w7.drewN nq = w8 at *
                  have y3 := K8.out.cell 3 rfl
                  have y4 := K8.out.cell 4 rfl
                  have y5 := K8.out.cell 5 rfl
                  have HCC := Lib.hid (HCU1.out w8 HBW.out)
                  go_wp2_with fail
                  refine HCC.out.mono ?_; rintro e w9 ⟨rfl, hb9⟩
                  have B9 := Lib.hid (belowT B8.out hb9)
                  have HBX := Lib.hid (belowT HBW.out hb9)
                  clear y3 y4 y5
                  have y4 := (below_blk hb9 K8.out K8.out.lt).cell 4 rfl
                  have y5 := (below_blk hb9 K8.out K8.out.lt).cell 5 rfl
                  clear hb9 HCC K8
                  by_cases hF : F = 0
                  ·
                    have g6 : (F != 0) = false := by simp [hF]
                    have HD3 := Lib.hid (HD2.out.trans (if_neg (fun h => h hF)))
                    clear hF HD2
                    cases hbp : badPk pk op
                    ·
                      have HZ0 : Hid (D = 0) := HD3.out.trans (if_neg (by rw [hbp]; decide))
                      have HNX := Lib.hid (HDR.out.trans (if_neg (fun h => h HZ0.out)))
                      unfold badPk at hbp
                      simp only [Bool.or_eq_false_iff] at hbp
                      obtain ⟨q1, q2, q3, q4⟩ := hbp
                      go_wp2_with fail
                      go_roundw
                      case rel => exact ⟨k + 1, hlt, by go_num, HNX.out.symm, belowT HW5.out B9.out⟩
                      case measure => simp [intOf]; omega
                    ·
                      have HR : Hid (E = 4) := HE2.out.trans (HDR.out.trans ((if_pos (by rw [HD3.out, if_pos hbp]; decide)).trans (HD3.out.trans (if_pos hbp))))
                      unfold badPk at hbp
                      have HQ := Lib.hid hbp
                      clear hbp
                      go_wp2_with fail
                      all_goals first
                        | (exfalso; have hq := HQ.out; simp at * <;> omega)
                        | (go_ret; exact ⟨by rw [HR.out]; rfl, HBX.out⟩)
                  ·
                    have g6 : (F != 0) = true := by simp [hF]
                    have HD3 : Hid (D = F) := HD2.out.trans (if_pos hF)
                    have HR : Hid (E = F) := HE2.out.trans (HDR.out.trans ((if_pos (by rw [HD3.out]; exact hF)).trans HD3.out))
                    clear hF HD2
                    go_wp2_with fail
                    go_ret
                    exact ⟨by rw [HR.out]; rfl, HBX.out⟩
        ·
          have hkn : l.drop k = [] := List.drop_eq_nil_of_le (by rw [HN.out]; omega)
          have HR : Hid (E = 0) := by show _ = _; rw [HE2.out, ← he.out, hkn]; exact HNIL.out
          clear he hkn
          go_wp2_with fail
          go_ret
          exact ⟨by rw [HR.out]; rfl, HB0.out⟩
  ·
    have g1 : (Z != 0) = true := by simp [hz]
    have HR := Lib.hid (HE.out.trans (if_pos hz))
    clear hz HE
    go_wp2_with fail
    go_ret
    exact ⟨by rw [HR.out]; rfl, B4.out⟩
end Go.Proofs.Ytplebibabcdipaa
