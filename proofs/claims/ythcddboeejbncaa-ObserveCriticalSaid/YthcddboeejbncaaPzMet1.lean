/- meter: branch, checkItem, Check. -/
import Derived.Test.YthcddboeejbncaaPkNetOApp
import Derived.Test.YthcddboeejbncaaPzTxt4
namespace Go.Proofs.Ythcddboeejbncaa
open Go.RowKit

/-- The index of a branch, or -1. -/
def brAt (n : Net) (nm : ByteArray) : Int := idxP (fun b : NBr => sameB b.name nm) n.brs 0

set_option maxHeartbeats 1000000 in
theorem mb1_c (x : NBr) (nm : ByteArray) (nb : Nat) (w : World) (c0 : w.cell? ⟨nb, 0, none⟩ = some (.string nm)) (hnb : nb < w.heap.size) :
    Calls Try.prog 71 #[.agg x.cells.toArray, .pointer (some ⟨nb, 0, none⟩)] w fun e w' => e = .returned (.bool (sameB x.name nm)) ∧ Below w.heap.size w w' := by
  obtain ⟨n0, fr, tt, x3, x4, x5, x6, x7, x8⟩ := x
  show Calls _ _ #[.agg #[.string n0, .string fr, .string tt, .int .i64 x3, .int .i64 x4, .int .i64 x5, .int .i64 x6, .int .i64 x7, .int .i64 x8], _] _ _
  have HE : Hid (sameB n0 nm = (n0.toList == nm.toList)) := rfl
  have B : Hid (Below w.heap.size w (w.alloc (.cells #[.string n0, .string fr, .string tt, .int .i64 x3, .int .i64 x4, .int .i64 x5, .int .i64 x6, .int .i64 x7, .int .i64 x8] 53))) := belowA (Below.refl _ _) _
  simp only
  generalize sameB n0 nm = E at *
  go_enter Try.func71, Try.ntmps71
  go_wp2_with fail
  go_ret
  exact ⟨by rw [HE.out]; rfl, B.out⟩

set_option maxHeartbeats 1000000 in
theorem mbr_c (x0 : NAddr) (n : Net) (nm : ByteArray) (w : World) (hr : NetR w x0 n) :
    Calls Try.prog 57 #[x0.val n, .string nm] w fun e w' => e = .returned (.int .i64 (brAt n nm)) ∧ Below w.heap.size w w' := by
  obtain ⟨na, nc, sa, sc, ba, bc, ga, gc, la, lc, ta, tc⟩ := x0
  obtain ⟨nl, sws, brs, gens, loads, stores⟩ := n
  have r2 := hr.brs
  have HE : Hid (brAt ⟨nl, sws, brs, gens, loads, stores⟩ nm = idxP (fun b : NBr => sameB b.name nm) brs 0) := rfl
  generalize brAt ⟨nl, sws, brs, gens, loads, stores⟩ nm = E at *
  simp only at r2
  show Calls _ _ #[netV na nl.length nc sa sws.length sc ba brs.length bc ga gens.length gc la loads.length lc ta stores.length tc, _] _ _
  generalize nl.length = nn at *
  generalize sws.length = sn at *
  obtain ⟨bn, hB⟩ : ∃ n, brs.length = n := ⟨_, rfl⟩
  generalize gens.length = gn at *
  generalize loads.length = ln at *
  generalize stores.length = tn at *
  have HC : Hid (∀ W g caps P, Below w.heap.size w W → (∀ (args : Array Value) (w : World), (callFunc g args).run Try.prog w = .ok (.enter g args) w) → TellsE W g caps (fun a : NBr => .agg a.cells.toArray) brs P →
      Calls Try.prog 70 #[.slice ba bn bc, .func (.func g) #[] caps] W fun e w' => e = .returned (.int .i64 (idxP P brs 0)) ∧ Below W.heap.size W w') := by
    intro W g caps P hb eg hf
    rw [← hB]
    exact indexBr_c (.slice ba brs.length bc) brs P g caps W (r2.below hb) eg hf
  rw [hB]
  clear hr r2 hB
  have B1 := belowA (Below.refl w.heap.size w) (.cells #[.slice na nn nc, .slice sa sn sc, .slice ba bn bc, .slice ga gn gc, .slice la ln lc, .slice ta tn tc] 29)
  have K1 := Blk.new w #[.slice na nn nc, .slice sa sn sc, .slice ba bn bc, .slice ga gn gc, .slice la ln lc, .slice ta tn tc] 29
  generalize hW1 : w.alloc (.cells #[.slice na nn nc, .slice sa sn sc, .slice ba bn bc, .slice ga gn gc, .slice la ln lc, .slice ta tn tc] 29) = W1 at *
  have B2 := Lib.hid (belowA B1 (.cells #[.string nm] 9))
  have K2 := K1.alloc (.cells #[.string nm] 9)
  have K3 := Blk.new W1 #[.string nm] 9
  generalize hW2 : W1.alloc (.cells #[.string nm] 9) = W2 at *
  have x2 := K2.cell 2 rfl
  have y0 := K3.cell 0 rfl
  have ly := K3.lt
  have HC2 := Lib.hid (HC.out W2 71 #[.pointer (some ⟨W1.heap.size, 0, none⟩)] (fun b => sameB b.name nm) B2.out (fun a w' => enters_of Try.func71 (by kernel_rfl) rfl a w')
    (fun a W _ hW => (mb1_c a nm W1.heap.size W (by rw [hW.cell (p := ⟨W1.heap.size, 0, none⟩) ly]; exact y0) (Nat.lt_of_lt_of_le ly hW.size)).mono fun e w' ⟨he, hw⟩ => ⟨he, hW.trans (hw.mono hW.size)⟩))
  clear HC K1 K2 K3 B1
  go_enter Try.func57, Try.ntmps57
  go_wp2_with fail
  refine HC2.out.mono ?_; rintro e w3 ⟨rfl, hb3⟩
  have B3 := Lib.hid hb3
  clear hb3
  go_wp2_with fail
  go_ret
  exact ⟨by rw [HE.out]; rfl, belowT B2.out B3.out⟩
theorem brAt_range (n : Net) (nm : ByteArray) : brAt n nm = -1 ∨ ∃ (k : Nat) (x : NBr), brAt n nm = k ∧ n.brs[k]? = some x ∧ sameB x.name nm = true := by
  rcases idxP_range (fun b : NBr => sameB b.name nm) n.brs 0 with h | ⟨k, x, h1, h2, h3, _⟩
  · exact Or.inl h
  · exact Or.inr ⟨k, x, by unfold brAt; rw [h1]; omega, h2, h3⟩
def brOf (n : Net) (nm : ByteArray) : NBr := n.brs.getD (brAt n nm).toNat ⟨.empty, .empty, .empty, 0, 0, 0, 0, 0, 0⟩
theorem brOf_eq {n : Net} {nm : ByteArray} {k : Nat} {x : NBr} (h : brAt n nm = k) (hx : n.brs[k]? = some x) : brOf n nm = x := by
  unfold brOf; rw [h]; simp [hx]


/-- A meter. -/
structure MIt where
  kind : Int
  name : ByteArray
  value : ByteArray
  weight : Int
def MIt.cells (x : MIt) : List Value := [.int .i64 x.kind, .string x.name, .string x.value, .int .i64 x.weight]
theorem mit_cells {w : World} {b off : Nat} {l : List MIt} (h : ∀ j u, (flat MIt.cells l)[j]? = some u → w.cell? ⟨b, off + j, none⟩ = some u) {k : Nat} {x : MIt} (hx : l[k]? = some x) :
    w.cell? ⟨b, off + k * 4, none⟩ = some (.int .i64 x.kind) ∧ w.cell? ⟨b, off + k * 4 + 1, none⟩ = some (.string x.name) ∧ w.cell? ⟨b, off + k * 4 + 2, none⟩ = some (.string x.value) ∧ w.cell? ⟨b, off + k * 4 + 3, none⟩ = some (.int .i64 x.weight) := by
  have e := fun j u hj hu => Reads.elem (sz := 4) (fun _ => rfl) h hx (j := j) (u := u) hj hu
  exact ⟨e 0 _ (by decide) rfl, by rw [Nat.add_assoc]; exact e 1 _ (by decide) rfl, by rw [Nat.add_assoc]; exact e 2 _ (by decide) rfl, by rw [Nat.add_assoc]; exact e 3 _ (by decide) rfl⟩
def MIt.Wf (x : MIt) : Prop := x.value.size ≤ 9223372036854775807
def knownB (n : Net) (m : MIt) : Bool := if m.kind = 0 then decide (0 ≤ brAt n m.name) else hasS m.name n.nodes
def itemE (n : Net) (m : MIt) : Int :=
  if m.kind < 0 ∨ 2 < m.kind then 1 else if knownB n m = false then 6 else if ratE m.value.data.toList ≠ 0 then ratE m.value.data.toList else if m.weight < 1 ∨ 1000 < m.weight then 4 else 0
def itemsE (n : Net) : List MIt → Int
  | [] => 0
  | m :: ms => if itemE n m ≠ 0 then itemE n m else itemsE n ms
def metE (n : Net) (l : List MIt) : Int := if netE n ≠ 0 then netE n else if 64 < l.length then 2 else itemsE n l
theorem itemsE_drop {n : Net} {l : List MIt} {k : Nat} {m : MIt} (h : l[k]? = some m) : itemsE n (l.drop k) = if itemE n m ≠ 0 then itemE n m else itemsE n (l.drop (k + 1)) := by
  obtain ⟨hk, hx⟩ := List.getElem?_eq_some_iff.1 h
  rw [List.drop_eq_getElem_cons hk, hx]; rfl
set_option maxRecDepth 100000 in
set_option maxHeartbeats 4000000 in
theorem checkItem_c (x0 : NAddr) (n : Net) (m : MIt) (w : World) (hr : NetR w x0 n) (hm : m.Wf) :
    Calls Try.prog 39 #[x0.val n, .agg #[.int .i64 m.kind, .string m.name, .string m.value, .int .i64 m.weight]] w fun e w' => e = .returned (.int .i64 (itemE n m)) ∧ Below w.heap.size w w' := by
  obtain ⟨kd, nm, vl, wt⟩ := m
  have HE : Hid (itemE n ⟨kd, nm, vl, wt⟩ = if kd < 0 ∨ 2 < kd then 1 else if knownB n ⟨kd, nm, vl, wt⟩ = false then 6 else if ratE vl.data.toList ≠ 0 then ratE vl.data.toList else if wt < 1 ∨ 1000 < wt then 4 else 0) := rfl
  have HCON := Lib.hid (fun W (hW : Below w.heap.size w W) => contains_c _ n.nodes nm W (hr.nodes.below hW))
  have HBR := Lib.hid (fun W (hW : Below w.heap.size w W) => mbr_c x0 n nm W (hr.below hW))
  have HRC := Lib.hid (fun W => ratCheck_c vl W hm)
  have HKB : Hid (knownB n ⟨kd, nm, vl, wt⟩ = if kd = 0 then decide (0 ≤ brAt n nm) else hasS nm n.nodes) := rfl
  simp only
  generalize itemE n ⟨kd, nm, vl, wt⟩ = E at *
  generalize knownB n ⟨kd, nm, vl, wt⟩ = KB at *
  generalize brAt n nm = BI at *
  generalize hasS nm n.nodes = HS at *
  generalize ratE vl.data.toList = RE at *
  clear hr hm
  obtain ⟨na, nc, sa, sc, ba, bc, ga, gc, la, lc, ta, tc⟩ := x0
  obtain ⟨nl, sws, brs, gens, loads, stores⟩ := n
  simp only [NAddr.val] at HCON HBR ⊢
  generalize nl.length = nn at *
  generalize sws.length = sn at *
  generalize brs.length = bn at *
  generalize gens.length = gn at *
  generalize loads.length = lon at *
  generalize stores.length = tn at *
  have B1 := belowA (Below.refl w.heap.size w) (.cells #[.slice na nn nc, .slice sa sn sc, .slice ba bn bc, .slice ga gn gc, .slice la lon lc, .slice ta tn tc] 29)
  have B2 := belowA B1 (.cells #[.int .i64 kd, .string nm, .string vl, .int .i64 wt] 33)
  have K1 := Lib.hid ((Blk.new w #[.slice na nn nc, .slice sa sn sc, .slice ba bn bc, .slice ga gn gc, .slice la lon lc, .slice ta tn tc] 29).alloc (.cells #[.int .i64 kd, .string nm, .string vl, .int .i64 wt] 33))
  have K2 := Lib.hid (Blk.new2 w (.cells #[.slice na nn nc, .slice sa sn sc, .slice ba bn bc, .slice ga gn gc, .slice la lon lc, .slice ta tn tc] 29) #[.int .i64 kd, .string nm, .string vl, .int .i64 wt] 33)
  have HB2 := Lib.hid B2
  clear B1 B2
  by_cases hk : kd < 0 ∨ 2 < kd
  · have HV := Lib.hid (HE.out.trans (if_pos hk))
    have q1 : (kd < 0) ∨ ¬ (kd < 0) := Decidable.em _
    rcases q1 with q1 | q1
    · have q2 : decide (kd < 0) = true := decide_eq_true q1
      clear hk
      go_enter Try.func39, Try.ntmps39
      go_wp2_with fail
      go_ret
      exact ⟨ret_int HV.out.symm, HB2.out⟩
    · have q2 : decide (kd < 0) = false := decide_eq_false q1
      have q3 : decide (2 < kd) = true := decide_eq_true (by omega)
      clear hk
      go_enter Try.func39, Try.ntmps39
      go_wp2_with fail
      go_ret
      exact ⟨ret_int HV.out.symm, HB2.out⟩
  · have HV := Lib.hid (HE.out.trans (if_neg hk))
    have q2 : decide (kd < 0) = false := decide_eq_false (by omega)
    have q3 : decide (2 < kd) = false := decide_eq_false (by omega)
    have hkr : 0 ≤ kd ∧ kd ≤ 2 := by omega
    have HC1 := Lib.hid (HCON.out _ HB2.out)
    clear hk
    go_enter Try.func39, Try.ntmps39
    go_wp2_with fail
    refine HC1.out.mono ?_; rintro e w1 ⟨rfl, rfl⟩
    by_cases hk0 : kd = 0
    · subst hk0
      have HB3 := Lib.hid (HBR.out _ HB2.out)
      have HKE : Hid (KB = decide (0 ≤ BI)) := HKB.out.trans (if_pos rfl)
      go_wp2_with fail
      refine HB3.out.mono ?_; rintro e w2 ⟨rfl, hb2⟩
      have HB4 := Lib.hid (belowT HB2.out hb2)
      have K3 := Lib.hid (below_blk hb2 K2.out K2.out.lt)
      have hw2 := (below_blk hb2 K2.out K2.out.lt).lt
      clear hb2 HC1 HB3 HCON HBR
      by_cases hbi : 0 ≤ BI
      · have q4 : decide (0 ≤ BI) = true := decide_eq_true hbi
        have HV2 := Lib.hid (HV.out.trans (if_neg (by rw [HKE.out, q4]; decide)))
        clear hbi
        have z2 := K3.out.cell 2 rfl
        have hlk := K3.out.lt
        go_wp2_with fail
        refine (HRC.out _).mono ?_; rintro e w8 ⟨rfl, hb8⟩
        have B8 := Lib.hid (belowT HB4.out hb8)
        have K8 := below_blk hb8 K3.out K3.out.lt
        have z3 := K8.cell 3 rfl
        have hlk8 := K8.lt
        clear hb8 K8 HRC z2
        by_cases hre : RE = 0
        · have q5 : (RE != 0) = false := by simp [hre]
          have HV3 := Lib.hid (HV2.out.trans (if_neg (fun h => h hre)))
          clear hre
          by_cases hw1 : wt < 1
          · have q6 : decide (wt < 1) = true := decide_eq_true hw1
            have HV4 := Lib.hid (HV3.out.trans (if_pos (Or.inl hw1)))
            clear hw1
            go_wp2_with fail
            go_ret
            exact ⟨ret_int HV4.out.symm, B8.out⟩
          · have q6 : decide (wt < 1) = false := decide_eq_false hw1
            by_cases hw2 : 1000 < wt
            · have q7 : decide (1000 < wt) = true := decide_eq_true hw2
              have HV4 := Lib.hid (HV3.out.trans (if_pos (Or.inr hw2)))
              clear hw1 hw2
              go_wp2_with fail
              go_ret
              exact ⟨ret_int HV4.out.symm, B8.out⟩
            · have q7 : decide (1000 < wt) = false := decide_eq_false hw2
              have HV4 := Lib.hid (HV3.out.trans (if_neg (fun h => h.elim hw1 hw2)))
              clear hw1 hw2
              go_wp2_with fail
              go_ret
              exact ⟨ret_int HV4.out.symm, B8.out⟩
        · have q5 : (RE != 0) = true := by simp [hre]
          have HV3 := Lib.hid (HV2.out.trans (if_pos hre))
          clear hre
          go_wp2_with fail
          go_ret
          exact ⟨ret_int HV3.out.symm, B8.out⟩
      · have q4 : decide (0 ≤ BI) = false := decide_eq_false hbi
        have HV2 := Lib.hid (HV.out.trans (if_pos (HKE.out.trans q4)))
        clear hbi
        go_wp2_with fail
        go_ret
        exact ⟨ret_int HV2.out.symm, HB4.out⟩
    · have q4 : (kd == 0) = false := by rw [beq_eq_false_iff_ne]; exact hk0
      have HKE : Hid (KB = HS) := HKB.out.trans (if_neg hk0)
      clear hk0 HBR HCON HC1
      cases HS with
      | true =>
        have HV2 := Lib.hid (HV.out.trans (if_neg (by rw [HKE.out]; decide)))
        have z2 := K2.out.cell 2 rfl
        have hlk := K2.out.lt
        go_wp2_with fail
        refine (HRC.out _).mono ?_; rintro e w8 ⟨rfl, hb8⟩
        have B8 := Lib.hid (belowT HB2.out hb8)
        have K8 := below_blk hb8 K2.out K2.out.lt
        have z3 := K8.cell 3 rfl
        have hlk8 := K8.lt
        clear hb8 K8 HRC z2
        by_cases hre : RE = 0
        · have q5 : (RE != 0) = false := by simp [hre]
          have HV3 := Lib.hid (HV2.out.trans (if_neg (fun h => h hre)))
          clear hre
          by_cases hw1 : wt < 1
          · have q6 : decide (wt < 1) = true := decide_eq_true hw1
            have HV4 := Lib.hid (HV3.out.trans (if_pos (Or.inl hw1)))
            clear hw1
            go_wp2_with fail
            go_ret
            exact ⟨ret_int HV4.out.symm, B8.out⟩
          · have q6 : decide (wt < 1) = false := decide_eq_false hw1
            by_cases hw2 : 1000 < wt
            · have q7 : decide (1000 < wt) = true := decide_eq_true hw2
              have HV4 := Lib.hid (HV3.out.trans (if_pos (Or.inr hw2)))
              clear hw1 hw2
              go_wp2_with fail
              go_ret
              exact ⟨ret_int HV4.out.symm, B8.out⟩
            · have q7 : decide (1000 < wt) = false := decide_eq_false hw2
              have HV4 := Lib.hid (HV3.out.trans (if_neg (fun h => h.elim hw1 hw2)))
              clear hw1 hw2
              go_wp2_with fail
              go_ret
              exact ⟨ret_int HV4.out.symm, B8.out⟩
        · have q5 : (RE != 0) = true := by simp [hre]
          have HV3 := Lib.hid (HV2.out.trans (if_pos hre))
          clear hre
          go_wp2_with fail
          go_ret
          exact ⟨ret_int HV3.out.symm, B8.out⟩
      | false =>
        have HV2 := Lib.hid (HV.out.trans (if_pos HKE.out))
        go_wp2_with fail
        go_ret
        exact ⟨ret_int HV2.out.symm, HB2.out⟩
set_option maxRecDepth 100000 in
set_option maxHeartbeats 4000000 in
theorem metCheck_c (x0 : NAddr) (n : Net) (l : List MIt) (v : Value) (w : World) (hr : NetR w x0 n) (hwf : n.Wf) (hv : Reads w v l.length (flat MIt.cells l)) (hm : Hid (∀ m ∈ l, m.Wf)) :
    Calls Try.prog 27 #[x0.val n, v] w fun e w' => e = .returned (.int .i64 (metE n l)) ∧ Below w.heap.size w w' := by
  have HNE := Lib.hid (fun W (hW : Below w.heap.size w W) => net_c x0 n W (hr.below hW) hwf)
  have HIT := Lib.hid (fun (m : MIt) (h : m ∈ l) W (hW : Below w.heap.size w W) => checkItem_c x0 n m W (hr.below hW) (hm.out m h))
  have hn : l.length ≤ 9223372036854775807 := by
    rcases hv with ⟨h, _⟩ | ⟨_, _, _, _, _, h, _⟩
    · omega
    · exact h
  obtain ⟨a, c, rfl⟩ := hv.slice
  obtain ⟨N, hN⟩ : ∃ n, l.length = n := ⟨_, rfl⟩
  have HN := Lib.hid hN
  rw [hN] at hn hv ⊢
  have HV := Lib.hid hv
  have HE : Hid (metE n l = if netE n ≠ 0 then netE n else if 64 < N then 2 else itemsE n l) := by rw [← hN]; exact rfl
  have HE0 : Hid (itemsE n (l.drop 0) = itemsE n l) := rfl
  generalize metE n l = E at *
  generalize itemsE n l = IE at *
  generalize netE n = NE at *
  obtain ⟨na, nc, sa, sc, ba, bc, ga, gc, la, lc, ta, tc⟩ := x0
  simp only [NAddr.val] at HNE HIT ⊢
  generalize n.nodes.length = nn at *
  generalize n.sws.length = sn at *
  generalize n.brs.length = bn at *
  generalize n.gens.length = gn at *
  generalize n.loads.length = lon at *
  generalize n.stores.length = tn at *
  have B1 := Lib.hid (belowA (Below.refl w.heap.size w) (.cells #[.slice na nn nc, .slice sa sn sc, .slice ba bn bc, .slice ga gn gc, .slice la lon lc, .slice ta tn tc] 29))
  have K1 := Lib.hid (Blk.new w #[.slice na nn nc, .slice sa sn sc, .slice ba bn bc, .slice ga gn gc, .slice la lon lc, .slice ta tn tc] 29)
  have HNE1 := Lib.hid (HNE.out _ B1.out)
  clear hr hv hm hN HNE
  go_enter Try.func27, Try.ntmps27
  go_wp2_with fail
  refine HNE1.out.mono ?_; rintro e w2 ⟨rfl, hb2⟩
  have B2 := Lib.hid (belowT B1.out hb2)
  have K2 := Lib.hid (below_blk hb2 K1.out K1.out.lt)
  clear hb2 B1 K1 HNE1
  by_cases hne : NE = 0
  · have q1 : (NE != 0) = false := by simp [hne]
    have HV1 := Lib.hid (HE.out.trans (if_neg (fun h => h hne)))
    clear hne
    by_cases h64 : 64 < N
    · have q2 : decide (64 < (N : Int)) = true := decide_eq_true (by omega)
      have HV2 := Lib.hid (HV1.out.trans (if_pos h64))
      clear h64
      go_wp2_with fail
      go_ret
      exact ⟨ret_int HV2.out.symm, B2.out⟩
    · have q2 : decide (64 < (N : Int)) = false := decide_eq_false (by omega)
      have HV2 := Lib.hid (HV1.out.trans (if_neg h64))
      go_wp2_with fail
      go_loopw [19] (fun i wr => ∃ k : Nat, k ≤ N ∧ i = .int .i64 k ∧ Hid (itemsE n (l.drop k) = IE) ∧ Hid (Below w.heap.size w wr) ∧ Hid (Blk wr w.heap.size #[.slice na nn nc, .slice sa sn sc, .slice ba bn bc, .slice ga gn gc, .slice la lon lc, .slice ta tn tc] 29)) (fun i _ => N - (intOf i).toNat)
      case atStart => exact ⟨0, Nat.zero_le _, rfl, HE0, B2, K2⟩
      case round =>
        clear HE0 B2 K2
        obtain ⟨k, hk, rfl, he, hb, kb⟩ := hrel
        by_cases hlt : k < N
        · obtain ⟨b1, off1, cap1, hvv, _, _, _, h1⟩ := (HV.out.below hb.out).addr (by omega)
          simp only [Value.slice.injEq] at hvv
          obtain ⟨rfl, _, rfl⟩ := hvv
          obtain ⟨x, hx⟩ : ∃ x, l[k]? = some x := ⟨_, List.getElem?_eq_getElem (by rw [HN.out]; exact hlt)⟩
          obtain ⟨x0, x1, x2, x3⟩ := mit_cells h1 hx
          rw [itemsE_drop hx] at he
          have hmem := List.mem_of_getElem? hx
          obtain ⟨kd, nm, vl, wt⟩ := x
          have B3 := Lib.hid (hb.out.alloc hb.out.size (.cells #[.int .i64 kd, .string nm, .string vl, .int .i64 wt] 33))
          have K3 := Lib.hid (kb.out.alloc (.cells #[.int .i64 kd, .string nm, .string vl, .int .i64 wt] 33))
          have y0 := K3.out.cell 0 rfl
          have y1 := K3.out.cell 1 rfl
          have y2 := K3.out.cell 2 rfl
          have y3 := K3.out.cell 3 rfl
          have y4 := K3.out.cell 4 rfl
          have y5 := K3.out.cell 5 rfl
          have hlw := K3.out.lt
          have HI := Lib.hid (HIT.out _ hmem _ B3.out)
          generalize itemE n ⟨kd, nm, vl, wt⟩ = ie at *
          clear h1 hx hmem hb kb
          simp only at x0 x1 x2 x3
          go_wp2_with fail
          refine HI.out.mono ?_; rintro e w4 ⟨rfl, hb4⟩
          have B4 := Lib.hid (belowT B3.out hb4)
          have K4 := Lib.hid (below_blk hb4 K3.out K3.out.lt)
          clear hb4 HI B3 K3
          by_cases hie : ie = 0
          · have q3 : (ie != 0) = false := by simp [hie]
            have he2 : Hid (itemsE n (l.drop (k + 1)) = IE) := by show _ = _; rw [← he.out, if_neg (fun h => h hie)]
            clear he hie
            go_wp2_with fail
            go_roundw
            case rel => exact ⟨k + 1, hlt, by go_num, he2, B4, K4⟩
            case measure => simp [intOf]; omega
          · have q3 : (ie != 0) = true := by simp [hie]
            have he2 : Hid (ie = IE) := by show _ = _; rw [← he.out, if_pos hie]
            clear he hie
            go_wp2_with fail
            go_ret
            exact ⟨ret_int (by rw [HV2.out, he2.out]), B4.out⟩
        · have he2 : Hid (IE = 0) := by show _ = _; rw [← he.out, List.drop_eq_nil_of_le (by rw [HN.out]; omega)]; rfl
          clear he
          go_wp2_with fail
          go_ret
          exact ⟨ret_int (by rw [HV2.out, he2.out]), hb.out⟩
  · have q1 : (NE != 0) = true := by simp [hne]
    have HV1 := Lib.hid (HE.out.trans (if_pos hne))
    clear hne
    go_wp2_with fail
    go_ret
    exact ⟨ret_int HV1.out.symm, B2.out⟩
end Go.Proofs.Ythcddboeejbncaa
