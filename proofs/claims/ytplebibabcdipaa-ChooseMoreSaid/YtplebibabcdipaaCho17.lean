/- choose: the closures of Isolated and Proves, IndexFunc and ContainsFunc where they call them. -/
import Derived.Test.YtplebibabcdipaaCho14
import Derived.Laws.EntriesVeiled
namespace Go.Proofs.Ytplebibabcdipaa
open Go.RowKit


set_option maxHeartbeats 400000 in
theorem indexStr_c (v : Value) (l : List ByteArray) (P : ByteArray → Bool) (g : FuncId) (caps : Array Value) (w : World) (hv : Reads w v l.length (strs l))
    (eg : ∀ (args : Array Value) (w : World), (callFunc g args).run Try.prog w = .ok (.enter g args) w) (hf : Hid (TellsE w g caps Value.string l P)) :
    Calls Try.prog 109 #[v, .func (.func g) #[] caps] w fun e w' => e = .returned (.int .i64 (idxP P l 0)) ∧ Below w.heap.size w w' := by
  obtain ⟨a, cap, rfl⟩ := hv.slice
  have hn : l.length ≤ 9223372036854775807 := by
    rcases hv with ⟨h, _⟩ | ⟨_, _, _, _, _, h, _⟩
    · omega
    · exact h
  have HE : Hid (idxP P (l.drop 0) (0 : Nat) = idxP P l 0) := by show _ = _; rfl
  generalize idxP P l 0 = E at *
  obtain ⟨n, hN⟩ : ∃ n, l.length = n := ⟨_, rfl⟩
  have HN := Lib.hid hN
  have HV2 : Hid (Reads w (.slice a n cap) n (strs l)) := by show Reads _ _ _ _; rw [← hN]; exact hv
  rw [hN] at hn ⊢
  clear hN hv
  go_enter Try.func109, Try.ntmps109
  go_wp2_with fail
  go_loopw [8] (fun i wr => ∃ k : Nat, k ≤ n ∧ i = .int .i64 k ∧ Hid (idxP P (l.drop k) k = E) ∧ Hid (Below w.heap.size w wr)) (fun i _ => n - (intOf i).toNat)
  case atStart => exact ⟨0, Nat.zero_le _, rfl, HE.out, Below.refl _ _⟩
  case round =>
    obtain ⟨k, hk, rfl, he, hb⟩ := hrel
    by_cases hlt : k < n
    · obtain ⟨b, off, cap', hvv, _, _, hbl, hc⟩ := (HV2.out.below hb.out).addr (by omega)
      simp only [Value.slice.injEq] at hvv
      obtain ⟨rfl, _, rfl⟩ := hvv
      have hlk : k < l.length := by rw [HN.out]; exact hlt
      obtain ⟨x, hx⟩ : ∃ x, l[k]? = some x := ⟨_, List.getElem?_eq_getElem hlk⟩
      have c0 := hc k (.string x) (by unfold strs; rw [List.getElem?_map, hx]; rfl)
      have hd := idxP_drop (P := P) hx
      have hm := List.mem_of_getElem? hx
      have HD := Lib.hid hd
      have HF := Lib.hid (hf.out x wr hm hb.out)
      clear hd hc hx hm
      go_wp2_with fail
      refine HF.out.mono ?_; rintro e w2 ⟨rfl, hb2⟩
      have HB2 := Lib.hid hb2
      clear hb2 hb
      cases hp : P x
      · have HP := Lib.hid hp
        clear hp
        go_wp2_with fail
        go_roundw
        case rel => exact ⟨k + 1, by omega, by go_num, by show _ = _; rw [← he.out, HD.out, HP.out]; rfl, HB2⟩
        case measure => simp [intOf]; omega
      · have HP := Lib.hid hp
        clear hp
        go_wp2_with fail
        go_ret
        exact ⟨by rw [← he.out, HD.out, HP.out]; rfl, HB2.out⟩
    · have hkn : l.drop k = [] := List.drop_eq_nil_of_le (by rw [HN.out]; omega)
      have HX : Hid (E = -1) := by show _ = _; rw [← he.out, hkn]; rfl
      clear he hkn
      go_wp2_with fail
      go_ret
      exact ⟨by rw [HX.out]; rfl, hb.out⟩

set_option maxHeartbeats 400000 in
theorem indexCE_c (v : Value) (l : List CEdge) (P : CEdge → Bool) (g : FuncId) (caps : Array Value) (w : World) (hv : Reads w v l.length (flat CEdge.cells l))
    (eg : ∀ (args : Array Value) (w : World), (callFunc g args).run Try.prog w = .ok (.enter g args) w) (hf : Hid (TellsE w g caps (fun a : CEdge => .agg a.cells.toArray) l P)) :
    Calls Try.prog 108 #[v, .func (.func g) #[] caps] w fun e w' => e = .returned (.int .i64 (idxP P l 0)) ∧ Below w.heap.size w w' := by
  obtain ⟨a, cap, rfl⟩ := hv.slice
  have hn : l.length ≤ 9223372036854775807 := by
    rcases hv with ⟨h, _⟩ | ⟨_, _, _, _, _, h, _⟩
    · omega
    · exact h
  have HE : Hid (idxP P (l.drop 0) (0 : Nat) = idxP P l 0) := by show _ = _; rfl
  generalize idxP P l 0 = E at *
  obtain ⟨n, hN⟩ : ∃ n, l.length = n := ⟨_, rfl⟩
  have HN := Lib.hid hN
  have HV2 : Hid (Reads w (.slice a n cap) n (flat CEdge.cells l)) := by show Reads _ _ _ _; rw [← hN]; exact hv
  rw [hN] at hn ⊢
  clear hN hv
  go_enter Try.func108, Try.ntmps108
  go_wp2_with fail
  go_loopw [8] (fun i wr => ∃ k : Nat, k ≤ n ∧ i = .int .i64 k ∧ Hid (idxP P (l.drop k) k = E) ∧ Hid (Below w.heap.size w wr)) (fun i _ => n - (intOf i).toNat)
  case atStart => exact ⟨0, Nat.zero_le _, rfl, HE.out, Below.refl _ _⟩
  case round =>
    obtain ⟨k, hk, rfl, he, hb⟩ := hrel
    by_cases hlt : k < n
    · obtain ⟨b, off, cap', hvv, _, _, hbl, hc⟩ := (HV2.out.below hb.out).addr (by omega)
      simp only [Value.slice.injEq] at hvv
      obtain ⟨rfl, _, rfl⟩ := hvv
      have hlk : k < l.length := by rw [HN.out]; exact hlt
      obtain ⟨x, hx⟩ : ∃ x, l[k]? = some x := ⟨_, List.getElem?_eq_getElem hlk⟩
      obtain ⟨c0, c1, c2, c3⟩ := ce_cells hc hx
      have hd := idxP_drop (P := P) hx
      have hm := List.mem_of_getElem? hx
      have HD := Lib.hid hd
      have HF := Lib.hid (hf.out x wr hm hb.out)
      clear hd hc hx hm
      go_wp2_with fail
      refine HF.out.mono ?_; rintro e w2 ⟨rfl, hb2⟩
      have HB2 := Lib.hid hb2
      clear hb2 hb
      cases hp : P x
      · have HP := Lib.hid hp
        clear hp
        go_wp2_with fail
        go_roundw
        case rel => exact ⟨k + 1, by omega, by go_num, by show _ = _; rw [← he.out, HD.out, HP.out]; rfl, HB2⟩
        case measure => simp [intOf]; omega
      · have HP := Lib.hid hp
        clear hp
        go_wp2_with fail
        go_ret
        exact ⟨by rw [← he.out, HD.out, HP.out]; rfl, HB2.out⟩
    · have hkn : l.drop k = [] := List.drop_eq_nil_of_le (by rw [HN.out]; omega)
      have HX : Hid (E = -1) := by show _ = _; rw [← he.out, hkn]; rfl
      clear he hkn
      go_wp2_with fail
      go_ret
      exact ⟨by rw [HX.out]; rfl, hb.out⟩

set_option maxHeartbeats 400000 in
theorem contSw_c (v : Value) (l : List NSw) (P : NSw → Bool) (g : FuncId) (caps : Array Value) (w : World) (hv : Reads w v l.length (flat NSw.cells l))
    (eg : ∀ (args : Array Value) (w : World), (callFunc g args).run Try.prog w = .ok (.enter g args) w) (hf : Hid (TellsE w g caps (fun a : NSw => .agg a.cells.toArray) l P)) :
    Calls Try.prog 64 #[v, .func (.func g) #[] caps] w fun e w' => e = .returned (.bool (l.any P)) ∧ Below w.heap.size w w' := by
  have HC := Lib.hid (indexSw_c v l P g caps w hv eg hf)
  have hi := idxP_neg P l 0 (by decide)
  obtain ⟨a, cap, rfl⟩ := hv.slice
  clear hv hf eg
  generalize idxP P l 0 = E at *
  cases hp : l.any P
  · have h : ¬ 0 ≤ E := fun h => by rw [hi.1 h] at hp; cases hp
    have g1 : decide (0 ≤ E) = false := decide_eq_false (by omega)
    clear hi hp
    go_enter Try.func64, Try.ntmps64
    go_wp2_with fail
    refine HC.out.mono ?_; rintro e w2 ⟨rfl, hb2⟩
    go_wp2_with fail
    go_ret
    exact ⟨rfl, hb2⟩
  · have h : 0 ≤ E := hi.2 hp
    have g1 : decide (0 ≤ E) = true := decide_eq_true h
    clear hi hp
    go_enter Try.func64, Try.ntmps64
    go_wp2_with fail
    refine HC.out.mono ?_; rintro e w2 ⟨rfl, hb2⟩
    go_wp2_with fail
    go_ret
    exact ⟨rfl, hb2⟩
set_option maxHeartbeats 400000 in
theorem contCE_c (v : Value) (l : List CEdge) (P : CEdge → Bool) (g : FuncId) (caps : Array Value) (w : World) (hv : Reads w v l.length (flat CEdge.cells l))
    (eg : ∀ (args : Array Value) (w : World), (callFunc g args).run Try.prog w = .ok (.enter g args) w) (hf : Hid (TellsE w g caps (fun a : CEdge => .agg a.cells.toArray) l P)) :
    Calls Try.prog 70 #[v, .func (.func g) #[] caps] w fun e w' => e = .returned (.bool (l.any P)) ∧ Below w.heap.size w w' := by
  have HC := Lib.hid (indexCE_c v l P g caps w hv eg hf)
  have hi := idxP_neg P l 0 (by decide)
  obtain ⟨a, cap, rfl⟩ := hv.slice
  clear hv hf eg
  generalize idxP P l 0 = E at *
  cases hp : l.any P
  · have h : ¬ 0 ≤ E := fun h => by rw [hi.1 h] at hp; cases hp
    have g1 : decide (0 ≤ E) = false := decide_eq_false (by omega)
    clear hi hp
    go_enter Try.func70, Try.ntmps70
    go_wp2_with fail
    refine HC.out.mono ?_; rintro e w2 ⟨rfl, hb2⟩
    go_wp2_with fail
    go_ret
    exact ⟨rfl, hb2⟩
  · have h : 0 ≤ E := hi.2 hp
    have g1 : decide (0 ≤ E) = true := decide_eq_true h
    clear hi hp
    go_enter Try.func70, Try.ntmps70
    go_wp2_with fail
    refine HC.out.mono ?_; rintro e w2 ⟨rfl, hb2⟩
    go_wp2_with fail
    go_ret
    exact ⟨rfl, hb2⟩
set_option maxHeartbeats 400000 in
theorem contStr_c (v : Value) (l : List ByteArray) (P : ByteArray → Bool) (g : FuncId) (caps : Array Value) (w : World) (hv : Reads w v l.length (strs l))
    (eg : ∀ (args : Array Value) (w : World), (callFunc g args).run Try.prog w = .ok (.enter g args) w) (hf : Hid (TellsE w g caps Value.string l P)) :
    Calls Try.prog 77 #[v, .func (.func g) #[] caps] w fun e w' => e = .returned (.bool (l.any P)) ∧ Below w.heap.size w w' := by
  have HC := Lib.hid (indexStr_c v l P g caps w hv eg hf)
  have hi := idxP_neg P l 0 (by decide)
  obtain ⟨a, cap, rfl⟩ := hv.slice
  clear hv hf eg
  generalize idxP P l 0 = E at *
  cases hp : l.any P
  · have h : ¬ 0 ≤ E := fun h => by rw [hi.1 h] at hp; cases hp
    have g1 : decide (0 ≤ E) = false := decide_eq_false (by omega)
    clear hi hp
    go_enter Try.func77, Try.ntmps77
    go_wp2_with fail
    refine HC.out.mono ?_; rintro e w2 ⟨rfl, hb2⟩
    go_wp2_with fail
    go_ret
    exact ⟨rfl, hb2⟩
  · have h : 0 ≤ E := hi.2 hp
    have g1 : decide (0 ≤ E) = true := decide_eq_true h
    clear hi hp
    go_enter Try.func77, Try.ntmps77
    go_wp2_with fail
    refine HC.out.mono ?_; rintro e w2 ⟨rfl, hb2⟩
    go_wp2_with fail
    go_ret
    exact ⟨rfl, hb2⟩

set_option maxHeartbeats 1000000 in
theorem iso1_c (x : NSw) (nm : ByteArray) (nb : Nat) (w : World) (c0 : w.cell? ⟨nb, 0, none⟩ = some (.string nm)) (hnb : nb < w.heap.size) :
    Calls Try.prog 65 #[.agg x.cells.toArray, .pointer (some ⟨nb, 0, none⟩)] w fun e w' => e = .returned (.bool (sameB x.name nm)) ∧ Below w.heap.size w w' := by
  obtain ⟨n0, fr, tt, bk, op⟩ := x
  show Calls _ _ #[.agg #[.string n0, .string fr, .string tt, .bool bk, .bool op], _] _ _
  have HE : Hid (sameB n0 nm = (n0.toList == nm.toList)) := rfl
  have B : Hid (Below w.heap.size w (w.alloc (.cells #[.string n0, .string fr, .string tt, .bool bk, .bool op] 82))) := belowA (Below.refl _ _) _
  simp only
  generalize sameB n0 nm = E at *
  go_enter Try.func65, Try.ntmps65
  go_wp2_with fail
  go_ret
  exact ⟨by rw [HE.out]; rfl, B.out⟩
set_option maxHeartbeats 1000000 in
theorem iso2_c (x : CEdge) (op : List ByteArray) (oa : Option Addr) (oc ob : Nat) (w : World) (c0 : w.cell? ⟨ob, 0, none⟩ = some (.slice oa op.length oc)) (hob : ob < w.heap.size) (hr : SVal w (.slice oa op.length oc) op) :
    Calls Try.prog 67 #[.agg x.cells.toArray, .pointer (some ⟨ob, 0, none⟩)] w fun e w' => e = .returned (.bool (hasS x.name op)) ∧ Below w.heap.size w w' := by
  obtain ⟨nm, a, b, bk⟩ := x
  show Calls _ _ #[.agg #[.string nm, .int .i64 a, .int .i64 b, .bool bk], _] _ _
  have B : Hid (Below w.heap.size w (w.alloc (.cells #[.string nm, .int .i64 a, .int .i64 b, .bool bk] 126))) := belowA (Below.refl _ _) _
  have HC := Lib.hid (contains_c (.slice oa op.length oc) op nm (w.alloc (.cells #[.string nm, .int .i64 a, .int .i64 b, .bool bk] 126)) (hr.below B.out))
  have e0 := (Blk.new w #[.string nm, .int .i64 a, .int .i64 b, .bool bk] 126).cell 0 rfl
  simp only
  generalize hasS nm op = E at *
  generalize op.length = n at *
  clear hr
  go_enter Try.func67, Try.ntmps67
  go_wp2_with fail
  refine HC.out.mono ?_; rintro e w2 ⟨rfl, rfl⟩
  go_wp2_with fail
  go_ret
  exact ⟨rfl, B.out⟩
set_option maxHeartbeats 1000000 in
theorem pr2_c (x : CEdge) (op : List ByteArray) (oa : Option Addr) (oc ob : Nat) (w : World) (c0 : w.cell? ⟨ob, 0, none⟩ = some (.slice oa op.length oc)) (hob : ob < w.heap.size) (hr : SVal w (.slice oa op.length oc) op) :
    Calls Try.prog 72 #[.agg x.cells.toArray, .pointer (some ⟨ob, 0, none⟩)] w fun e w' => e = .returned (.bool (hasS x.name op)) ∧ Below w.heap.size w w' := by
  obtain ⟨nm, a, b, bk⟩ := x
  show Calls _ _ #[.agg #[.string nm, .int .i64 a, .int .i64 b, .bool bk], _] _ _
  have B : Hid (Below w.heap.size w (w.alloc (.cells #[.string nm, .int .i64 a, .int .i64 b, .bool bk] 126))) := belowA (Below.refl _ _) _
  have HC := Lib.hid (contains_c (.slice oa op.length oc) op nm (w.alloc (.cells #[.string nm, .int .i64 a, .int .i64 b, .bool bk] 126)) (hr.below B.out))
  have e0 := (Blk.new w #[.string nm, .int .i64 a, .int .i64 b, .bool bk] 126).cell 0 rfl
  simp only
  generalize hasS nm op = E at *
  generalize op.length = n at *
  clear hr
  go_enter Try.func72, Try.ntmps72
  go_wp2_with fail
  refine HC.out.mono ?_; rintro e w2 ⟨rfl, rfl⟩
  go_wp2_with fail
  go_ret
  exact ⟨rfl, B.out⟩
set_option maxHeartbeats 1000000 in
theorem pr4_c (s : ByteArray) (us : List ByteArray) (ua : Option Addr) (uc ub : Nat) (w : World) (c0 : w.cell? ⟨ub, 0, none⟩ = some (.slice ua us.length uc)) (hr : SVal w (.slice ua us.length uc) us) :
    Calls Try.prog 78 #[.string s, .pointer (some ⟨ub, 0, none⟩)] w fun e w' => e = .returned (.bool (hasS s us)) ∧ Below w.heap.size w w' := by
  have HC := Lib.hid (contains_c (.slice ua us.length uc) us s w hr)
  generalize hasS s us = E at *
  generalize us.length = n at *
  clear hr
  go_enter Try.func78, Try.ntmps78
  go_wp2_with fail
  refine HC.out.mono ?_; rintro e w2 ⟨rfl, rfl⟩
  go_wp2_with fail
  go_ret
  exact ⟨rfl, Below.refl _ _⟩
set_option maxHeartbeats 1000000 in
theorem pr11_c (x : CEdge) (s : ByteArray) (sb : Nat) (w : World) (c0 : w.cell? ⟨sb, 0, none⟩ = some (.string s)) (hsb : sb < w.heap.size) :
    Calls Try.prog 71 #[.agg x.cells.toArray, .pointer (some ⟨sb, 0, none⟩)] w fun e w' => e = .returned (.bool (sameB x.name s && x.brk)) ∧ Below w.heap.size w w' := by
  obtain ⟨nm, a, b, bk⟩ := x
  show Calls _ _ #[.agg #[.string nm, .int .i64 a, .int .i64 b, .bool bk], _] _ _
  have HE : Hid (sameB nm s = (nm.toList == s.toList)) := rfl
  have B : Hid (Below w.heap.size w (w.alloc (.cells #[.string nm, .int .i64 a, .int .i64 b, .bool bk] 126))) := belowA (Below.refl _ _) _
  simp only
  cases hq : (nm.toList == s.toList)
  · have HE2 := Lib.hid (HE.out.trans hq)
    generalize sameB nm s = E at *
    go_enter Try.func71, Try.ntmps71
    go_wp2_with fail
    go_ret
    exact ⟨by rw [HE2.out]; rfl, B.out⟩
  · have HE2 := Lib.hid (HE.out.trans hq)
    generalize sameB nm s = E at *
    go_enter Try.func71, Try.ntmps71
    go_wp2_with fail
    go_ret
    exact ⟨by rw [HE2.out]; rfl, B.out⟩
set_option maxHeartbeats 1000000 in
theorem pr1_c (c : CNet) (X : Nat) (ea : Option Addr) (ec : Nat) (sa : Option Addr) (sc : Nat) (s : ByteArray) (xb : Nat) (w : World) (hn : NetC w X c ea ec sa sc) (c0 : w.cell? ⟨xb, 0, none⟩ = some (.pointer (some ⟨X, 0, none⟩))) (hxb : xb < w.heap.size) :
    Calls Try.prog 69 #[.string s, .pointer (some ⟨xb, 0, none⟩)] w fun e w' => e = .returned (.bool (brkN c s)) ∧ Below w.heap.size w w' := by
  have B : Hid (Below w.heap.size w (w.alloc (.cells #[.string s] 9))) := belowA (Below.refl _ _) _
  have K := Blk.new w #[.string s] 9
  have HC := Lib.hid (contCE_c (.slice ea c.edges.length ec) c.edges (fun e => sameB e.name s && e.brk) 71 #[.pointer (some ⟨w.heap.size, 0, none⟩)] (w.alloc (.cells #[.string s] 9)) (hn.edges.below B.out) (fun a w' => enters_of Try.func71 (by kernel_rfl) rfl a w')
    (fun a W _ hW => (pr11_c a s w.heap.size W (by rw [hW.cell (p := ⟨w.heap.size, 0, none⟩) K.lt]; exact K.cell 0 rfl) (Nat.lt_of_lt_of_le K.lt hW.size)).mono fun e w' ⟨he, hw⟩ => ⟨he, hW.trans (hw.mono hW.size)⟩))
  have x1 := hn.blk.cell 1 rfl
  have HB : Hid (brkN c s = c.edges.any fun e => sameB e.name s && e.brk) := rfl
  rw [← HB.out] at HC
  generalize brkN c s = E at *
  generalize c.edges.length = n at *
  have hX : X < w.heap.size := hn.blk.lt
  clear hn K HB
  go_enter Try.func69, Try.ntmps69
  go_wp2_with fail
  refine HC.out.mono ?_; rintro e w2 ⟨rfl, hb2⟩
  have HB2 := Lib.hid (belowT B.out hb2)
  clear hb2
  go_wp2_with fail
  go_ret
  exact ⟨rfl, HB2.out⟩
end Go.Proofs.Ytplebibabcdipaa
