/- A device of a network met in a loop: its copy, the list of its nodes, the call of device; netmodel.sources. netmodel.sources. netmodel.Check. -/
import Derived.Test.YthcddboeejbncaaPzNetR
namespace Go.Proofs.Ythcddboeejbncaa
open Go.RowKit

theorem gen_cells {w : World} {b off : Nat} {l : List NGen} (h : ∀ j u, (flat NGen.cells l)[j]? = some u → w.cell? ⟨b, off + j, none⟩ = some u) {k : Nat} {x : NGen} (hx : l[k]? = some x) :
    w.cell? ⟨b, off + k * 5, none⟩ = some (.string x.name) ∧ w.cell? ⟨b, off + k * 5 + 1, none⟩ = some (.string x.node) ∧ w.cell? ⟨b, off + k * 5 + 2, none⟩ = some (.int .i64 x.least) ∧ w.cell? ⟨b, off + k * 5 + 3, none⟩ = some (.int .i64 x.most) ∧ w.cell? ⟨b, off + k * 5 + 4, none⟩ = some (.int .i64 x.ramp) := by
  have e := fun j u hj hu => Reads.elem (sz := 5) (fun _ => rfl) h hx (j := j) (u := u) hj hu
  exact ⟨e 0 _ (by decide) rfl, by rw [Nat.add_assoc]; exact e 1 _ (by decide) rfl, by rw [Nat.add_assoc]; exact e 2 _ (by decide) rfl, by rw [Nat.add_assoc]; exact e 3 _ (by decide) rfl, by rw [Nat.add_assoc]; exact e 4 _ (by decide) rfl⟩
theorem store_cells {w : World} {b off : Nat} {l : List NStore} (h : ∀ j u, (flat NStore.cells l)[j]? = some u → w.cell? ⟨b, off + j, none⟩ = some u) {k : Nat} {x : NStore} (hx : l[k]? = some x) :
    w.cell? ⟨b, off + k * 5, none⟩ = some (.string x.name) ∧ w.cell? ⟨b, off + k * 5 + 1, none⟩ = some (.string x.node) ∧ w.cell? ⟨b, off + k * 5 + 2, none⟩ = some (.int .i64 x.chg) ∧ w.cell? ⟨b, off + k * 5 + 3, none⟩ = some (.int .i64 x.dis) ∧ w.cell? ⟨b, off + k * 5 + 4, none⟩ = some (.int .i64 x.cap) := by
  have e := fun j u hj hu => Reads.elem (sz := 5) (fun _ => rfl) h hx (j := j) (u := u) hj hu
  exact ⟨e 0 _ (by decide) rfl, by rw [Nat.add_assoc]; exact e 1 _ (by decide) rfl, by rw [Nat.add_assoc]; exact e 2 _ (by decide) rfl, by rw [Nat.add_assoc]; exact e 3 _ (by decide) rfl, by rw [Nat.add_assoc]; exact e 4 _ (by decide) rfl⟩
theorem load_cells {w : World} {b off : Nat} {l : List NLoad} (h : ∀ j u, (flat NLoad.cells l)[j]? = some u → w.cell? ⟨b, off + j, none⟩ = some u) {k : Nat} {x : NLoad} (hx : l[k]? = some x) :
    w.cell? ⟨b, off + k * 3, none⟩ = some (.string x.name) ∧ w.cell? ⟨b, off + k * 3 + 1, none⟩ = some (.string x.node) ∧ w.cell? ⟨b, off + k * 3 + 2, none⟩ = some (.int .i64 x.dem) := by
  have e := fun j u hj hu => Reads.elem (sz := 3) (fun _ => rfl) h hx (j := j) (u := u) hj hu
  exact ⟨e 0 _ (by decide) rfl, by rw [Nat.add_assoc]; exact e 1 _ (by decide) rfl, by rw [Nat.add_assoc]; exact e 2 _ (by decide) rfl⟩
theorem sw_cells {w : World} {b off : Nat} {l : List NSw} (h : ∀ j u, (flat NSw.cells l)[j]? = some u → w.cell? ⟨b, off + j, none⟩ = some u) {k : Nat} {x : NSw} (hx : l[k]? = some x) :
    w.cell? ⟨b, off + k * 5, none⟩ = some (.string x.name) ∧ w.cell? ⟨b, off + k * 5 + 1, none⟩ = some (.string x.a) ∧ w.cell? ⟨b, off + k * 5 + 2, none⟩ = some (.string x.b) ∧ w.cell? ⟨b, off + k * 5 + 3, none⟩ = some (.bool x.brk) ∧ w.cell? ⟨b, off + k * 5 + 4, none⟩ = some (.bool x.opn) := by
  have e := fun j u hj hu => Reads.elem (sz := 5) (fun _ => rfl) h hx (j := j) (u := u) hj hu
  exact ⟨e 0 _ (by decide) rfl, by rw [Nat.add_assoc]; exact e 1 _ (by decide) rfl, by rw [Nat.add_assoc]; exact e 2 _ (by decide) rfl, by rw [Nat.add_assoc]; exact e 3 _ (by decide) rfl, by rw [Nat.add_assoc]; exact e 4 _ (by decide) rfl⟩
theorem br_cells {w : World} {b off : Nat} {l : List NBr} (h : ∀ j u, (flat NBr.cells l)[j]? = some u → w.cell? ⟨b, off + j, none⟩ = some u) {k : Nat} {x : NBr} (hx : l[k]? = some x) :
    w.cell? ⟨b, off + k * 9, none⟩ = some (.string x.name) ∧ w.cell? ⟨b, off + k * 9 + 1, none⟩ = some (.string x.fr) ∧ w.cell? ⟨b, off + k * 9 + 2, none⟩ = some (.string x.to) ∧ w.cell? ⟨b, off + k * 9 + 3, none⟩ = some (.int .i64 x.x) ∧ w.cell? ⟨b, off + k * 9 + 4, none⟩ = some (.int .i64 x.tap) ∧
    w.cell? ⟨b, off + k * 9 + 5, none⟩ = some (.int .i64 x.sh) ∧ w.cell? ⟨b, off + k * 9 + 6, none⟩ = some (.int .i64 x.lim) ∧ w.cell? ⟨b, off + k * 9 + 7, none⟩ = some (.int .i64 x.shrt) ∧ w.cell? ⟨b, off + k * 9 + 8, none⟩ = some (.int .i64 x.hold) := by
  have e := fun j u hj hu => Reads.elem (sz := 9) (fun _ => rfl) h hx (j := j) (u := u) hj hu
  exact ⟨e 0 _ (by decide) rfl, by rw [Nat.add_assoc]; exact e 1 _ (by decide) rfl, by rw [Nat.add_assoc]; exact e 2 _ (by decide) rfl, by rw [Nat.add_assoc]; exact e 3 _ (by decide) rfl, by rw [Nat.add_assoc]; exact e 4 _ (by decide) rfl,
    by rw [Nat.add_assoc]; exact e 5 _ (by decide) rfl, by rw [Nat.add_assoc]; exact e 6 _ (by decide) rfl, by rw [Nat.add_assoc]; exact e 7 _ (by decide) rfl, by rw [Nat.add_assoc]; exact e 8 _ (by decide) rfl⟩

/-- The call of device for an element that was copied into a block of its own, with a list of nodes that was just built. -/
theorem dev_c (na : Option Addr) (nn nc : Nat) (sa : Option Addr) (sn sc : Nat) (ba : Option Addr) (bn bc : Nat) (ga : Option Addr) (gn gc : Nat) (la : Option Addr) (ln lc : Nat) (ta : Option Addr) (tn tc : Nat)
    (nl met : List ByteArray) (s : ByteArray) (b bx mm : Nat) (ls : List ByteArray) (ec : Array Value) (et : TypeId) (nt : Array Value) (w0 wr : World) (hn : nl.length = nn) (hnl : Reads w0 (.slice na nn nc) nn (strs nl)) (hnb : strs nl ≠ [] → ∀ x, na = some x → x.block < b)
    (hbl : Below b w0 wr) (hns : NS b met wr) (hbx : Blk wr bx nt 29) (hxb : bx ≠ b) (het : et ≠ 9) (hs : s.size ≤ 9223372036854775807) (hm : met.length ≤ 1000) (hlm : ls.length = mm) (hm1 : 0 < mm) (hm2 : mm ≤ 100) :
    Calls Try.prog 53 #[netV na nn nc sa sn sc ba bn bc ga gn gc la ln lc ta tn tc, .pointer (some ⟨b, 0, none⟩), .string s, .slice (some ⟨wr.heap.size + 1, 0, none⟩) mm mm] ((wr.alloc (.cells ec et)).alloc (.cells (strs ls).toArray 9)) fun e w' =>
      e = .returned (.int .i64 (deviceE nl met s ls)) ∧ NS b (addR met s).2 w' ∧ Below b w0 w' ∧ Blk w' bx nt 29 ∧ Blk w' wr.heap.size ec et := by
  have hb : b < wr.heap.size := by obtain ⟨_, _, _, h⟩ := hns; omega
  have k3 : Blk ((wr.alloc (.cells ec et)).alloc (.cells (strs ls).toArray 9)) (wr.heap.size + 1) (strs ls).toArray 9 := Blk.new2 _ _ _ _
  have k2 : Blk ((wr.alloc (.cells ec et)).alloc (.cells (strs ls).toArray 9)) wr.heap.size ec et := (Blk.new wr ec et).alloc _
  have kx : Blk ((wr.alloc (.cells ec et)).alloc (.cells (strs ls).toArray 9)) bx nt 29 := (hbx.alloc _).alloc _
  have B : Below wr.heap.size wr ((wr.alloc (.cells ec et)).alloc (.cells (strs ls).toArray 9)) := belowA (belowA (Below.refl _ wr) _) _
  generalize (wr.alloc (.cells ec et)).alloc (.cells (strs ls).toArray 9) = W3 at *
  have hb3 : Below b w0 W3 := hbl.trans (B.mono (Nat.le_of_lt hb))
  have ns3 := hns.below B
  have own : ∀ lv, Blk W3 b #[lv] 105 → lv.ownBlock ≠ some (wr.heap.size + 1) := fun lv hl e => by
    have := hns.own_lt lv (by unfold Blk at hl ⊢; rw [← B.block b hb]; exact hl) _ e
    omega
  have r3 : Reads W3 (.slice (some ⟨wr.heap.size + 1, 0, none⟩) mm mm) mm (strs ls) := Or.inr ⟨_, 0, mm, rfl, Nat.le_refl _, by omega, k3.lt, fun j u hj => by
    rw [Nat.zero_add]; exact k3.cell j (by simpa using hj)⟩
  refine (device_c na nn nc sa sn sc ba bn bc ga gn gc la ln lc ta tn tc nl met ls s b (wr.heap.size + 1) mm mm W3 hn (hnl.low hnb hb3) hnb hlm hm1 r3 (by omega) own hs hm ns3).mono ?_
  rintro e w' ⟨he, h1, h2, h3⟩
  exact ⟨he, h1, hb3.trans h2, ns3.keep h3 kx (by decide) hxb, ns3.keep h3 k2 het (by omega)⟩
end Go.Proofs.Ythcddboeejbncaa
namespace Go.Proofs.Ythcddboeejbncaa
open Go.RowKit



set_option maxHeartbeats 4000000 in
set_option maxRecDepth 100000 in
theorem sources_c (b : Nat) (x0 : NAddr) (n : Net) (met : List ByteArray) (w : World) (hr : NetR w x0 n) (hwf : n.Wf) (hlow : x0.Low n b) (hns : NS b met w) (hm : met.length ≤ 200) (hg : n.gens.length ≤ 10) (hl : n.loads.length ≤ 12) (ht : n.stores.length ≤ 4) :
    Calls Try.prog 55 #[x0.val n, .pointer (some ⟨b, 0, none⟩)] w fun e w' => e = .returned (.int .i64 (srcE n met)) ∧ Below b w w' := by
  obtain ⟨na, nc, sa, sc, ba, bc, ga, gc, la, lc, ta, tc⟩ := x0
  obtain ⟨nl, sws, brs, gens, loads, stores⟩ := n
  obtain ⟨r0, r1, r2, r3, r4, r5⟩ := hr
  obtain ⟨f0, f1, f2, f3, f4, f5⟩ := hwf
  obtain ⟨o0, o1, o2, o3, o4, o5⟩ := hlow
  simp only at *
  have H1 : Hid (∀ n lo hi W, Calls Try.prog 69 #[.int .i64 n, .int .i64 lo, .int .i64 hi] W fun e w' => e = .returned (.bool (withinB n lo hi)) ∧ W = w') := fun n lo hi W => within_c n lo hi W
  obtain ⟨GA, hGA⟩ : ∃ G, devAll nl NGen.name (fun x => [x.node]) NGen.test gens met = G := ⟨_, rfl⟩
  obtain ⟨LA, hLA⟩ : ∃ G, devAll nl NLoad.name (fun x => [x.node]) NLoad.test loads GA.2 = G := ⟨_, rfl⟩
  obtain ⟨SA, hSA⟩ : ∃ G, devAll nl NStore.name (fun x => [x.node]) NStore.test stores LA.2 = G := ⟨_, rfl⟩
  have HE2 : Hid (srcE ⟨nl, sws, brs, gens, loads, stores⟩ met = if GA.1 ≠ 0 then GA.1 else if LA.1 ≠ 0 then LA.1 else SA.1) := by show _ = _; rw [← hSA, ← hLA, ← hGA]; rfl
  have HGA := Lib.hid hGA
  have HLA := Lib.hid hLA
  have HSA := Lib.hid hSA
  clear hGA hLA hSA
  generalize srcE ⟨nl, sws, brs, gens, loads, stores⟩ met = E at *
  have hb : b < w.heap.size := by obtain ⟨_, _, _, h⟩ := hns; omega
  obtain ⟨nn, hN⟩ : ∃ n, nl.length = n := ⟨_, rfl⟩
  obtain ⟨sn, hS⟩ : ∃ n, sws.length = n := ⟨_, rfl⟩
  obtain ⟨bn, hB⟩ : ∃ n, brs.length = n := ⟨_, rfl⟩
  obtain ⟨gn, hG⟩ : ∃ n, gens.length = n := ⟨_, rfl⟩
  obtain ⟨ln, hL⟩ : ∃ n, loads.length = n := ⟨_, rfl⟩
  obtain ⟨tn, hT⟩ : ∃ n, stores.length = n := ⟨_, rfl⟩
  rw [hN] at r0
  rw [hG] at r3 hg
  rw [hL] at r4 hl
  rw [hT] at r5 ht
  show Calls _ _ #[netV na nl.length nc sa sws.length sc ba brs.length bc ga gens.length gc la loads.length lc ta stores.length tc, _] _ _
  rw [hN, hS, hB, hG, hL, hT]
  have R0 := Lib.hid r0
  have R3 := Lib.hid r3
  have R4 := Lib.hid r4
  have R5 := Lib.hid r5
  have B1 : Hid (Below b w (w.alloc (.cells #[.slice na nn nc, .slice sa sn sc, .slice ba bn bc, .slice ga gn gc, .slice la ln lc, .slice ta tn tc] 29))) := (Below.refl b w).alloc (Nat.le_of_lt hb) _
  have K1 : Hid (Blk (w.alloc (.cells #[.slice na nn nc, .slice sa sn sc, .slice ba bn bc, .slice ga gn gc, .slice la ln lc, .slice ta tn tc] 29)) w.heap.size #[.slice na nn nc, .slice sa sn sc, .slice ba bn bc, .slice ga gn gc, .slice la ln lc, .slice ta tn tc] 29) := Blk.new _ _ _
  have N1 : Hid (NS b met (w.alloc (.cells #[.slice na nn nc, .slice sa sn sc, .slice ba bn bc, .slice ga gn gc, .slice la ln lc, .slice ta tn tc] 29))) := hns.below (belowA (Below.refl _ _) _)
  have hxb : w.heap.size ≠ b := by omega
  have HD : Hid (∀ (s : ByteArray) (met' : List ByteArray) (nd : ByteArray) (ec : Array Value) (et : TypeId) (wr : World), Below b w wr → NS b met' wr → Blk wr w.heap.size #[.slice na nn nc, .slice sa sn sc, .slice ba bn bc, .slice ga gn gc, .slice la ln lc, .slice ta tn tc] 29 → et ≠ 9 → s.size ≤ 9223372036854775807 → met'.length ≤ 1000 →
      Calls Try.prog 53 #[netV na nn nc sa sn sc ba bn bc ga gn gc la ln lc ta tn tc, .pointer (some ⟨b, 0, none⟩), .string s, .slice (some ⟨wr.heap.size + 1, 0, none⟩) 1 1] ((wr.alloc (.cells ec et)).alloc (.cells #[.string nd] 9)) fun e w' =>
        e = .returned (.int .i64 (deviceE nl met' s [nd])) ∧ NS b (addR met' s).2 w' ∧ Below b w w' ∧ Blk w' w.heap.size #[.slice na nn nc, .slice sa sn sc, .slice ba bn bc, .slice ga gn gc, .slice la ln lc, .slice ta tn tc] 29 ∧ Blk w' wr.heap.size ec et) :=
    fun s met' nd ec et wr h1 h2 h3 h4 h5 h6 => dev_c na nn nc sa sn sc ba bn bc ga gn gc la ln lc ta tn tc nl met' s b w.heap.size 1 [nd] ec et _ w wr hN r0 o0 h1 h2 h3 hxb h4 h5 h6 rfl (by decide) (by decide)
  clear hns r0 r1 r2 r3 r4 r5
  go_enter Try.func55, Try.ntmps55
  go_wp2_with fail
  generalize w.alloc (.cells #[.slice na nn nc, .slice sa sn sc, .slice ba bn bc, .slice ga gn gc, .slice la ln lc, .slice ta tn tc] 29) = W1 at *
  have x3 := K1.out.cell 3 rfl
  go_wp2_with fail
  go_loopw [17] (fun i wr => ∃ (k : Nat) (met' : List ByteArray), k ≤ gn ∧ i = .int .i64 k ∧ Hid (devAll nl NGen.name (fun x => [x.node]) NGen.test (gens.drop k) met' = GA) ∧ Hid (NS b met' wr) ∧ Hid (Below b w wr) ∧ Hid (Blk wr w.heap.size #[.slice na nn nc, .slice sa sn sc, .slice ba bn bc, .slice ga gn gc, .slice la ln lc, .slice ta tn tc] 29) ∧ met'.length ≤ 200 + k) (fun i _ => gn - (intOf i).toNat)
  case atStart => exact ⟨0, met, Nat.zero_le _, rfl, HGA, N1, B1, K1, by omega⟩
  case round =>
    obtain ⟨k, met', hk, rfl, he, hns, hbl, hbx, hml⟩ := hrel
    clear x3
    by_cases hlt : k < gn
    ·
      have hlk : k < gens.length := by rw [hG]; exact hlt
      obtain ⟨x, hx⟩ : ∃ x, gens[k]? = some x := ⟨_, List.getElem?_eq_getElem hlk⟩
      have hr := (R3.out.low o3 hbl.out).addr (by omega)
      obtain ⟨g, off, cap', hvv, _, _, _, hc⟩ := hr
      simp only [Value.slice.injEq] at hvv
      obtain ⟨rfl, _, rfl⟩ := hvv
      obtain ⟨c0, c1, c2, c3, c4⟩ := gen_cells hc hx
      have hd := devAll_drop (nl := nl) (name := NGen.name) (ends := fun x => [x.node]) (test := NGen.test) (met := met') hx
      have hsz := f3 x (List.mem_of_getElem? hx)
      rw [he.out] at hd
      obtain ⟨nm, nd, le, mo, ra⟩ := x
      simp only at c0 c1 c2 c3 c4 hd hsz
      have HC := Lib.hid (HD.out nm met' nd #[.string nm, .string nd, .int .i64 le, .int .i64 mo, .int .i64 ra] 128 wr hbl.out hns.out hbx.out (by decide) hsz (by omega))
      have HDR : Hid (GA = if deviceE nl met' nm [nd] ≠ 0 then (deviceE nl met' nm [nd], (addR met' nm).2) else if NGen.test ⟨nm, nd, le, mo, ra⟩ ≠ 0 then (NGen.test ⟨nm, nd, le, mo, ra⟩, (addR met' nm).2) else devAll nl NGen.name (fun x => [x.node]) NGen.test (gens.drop (k + 1)) (addR met' nm).2) := hd
      have hal := addR_len met' nm
      clear hc hx hd hsz he hns
      generalize deviceE nl met' nm [nd] = D at *
      generalize (addR met' nm).2 = met2 at *
      have hz2 : (wr.alloc (.cells #[.string nm, .string nd, .int .i64 le, .int .i64 mo, .int .i64 ra] 128)).heap.size = wr.heap.size + 1 := World.size_alloc _ _
      have e2 := Blk.new wr #[.string nm, .string nd, .int .i64 le, .int .i64 mo, .int .i64 ra] 128
      have n2 := hbx.out.alloc (.cells #[.string nm, .string nd, .int .i64 le, .int .i64 mo, .int .i64 ra] 128)
      rw [← hz2] at HC
      generalize hW2 : wr.alloc (.cells #[.string nm, .string nd, .int .i64 le, .int .i64 mo, .int .i64 ra] 128) = W2 at *
      have x0 := n2.cell 0 rfl
      have x1 := n2.cell 1 rfl
      have x2 := n2.cell 2 rfl
      have x3 := n2.cell 3 rfl
      have x4 := n2.cell 4 rfl
      have x5 := n2.cell 5 rfl
      have z0 := e2.cell 0 rfl
      have z1 := e2.cell 1 rfl
      clear e2 n2 hz2
      go_wp2_with fail
      refine HC.out.mono ?_; rintro e w4 ⟨rfl, hn4, hb4, hx4, he4⟩
      have HNS4 := Lib.hid hn4
      have HB4 := Lib.hid hb4
      have HX4 := Lib.hid hx4
      clear hn4 hb4 hx4 HC x0 x1 x2 x3 x4 x5 z0 z1 c0 c1 c2 c3 c4 hW2 hbl hbx
      have y0 := he4.cell 2 rfl
      have y1 := he4.cell 3 rfl
      have y2 := he4.cell 4 rfl
      clear he4
      have HTE : Hid (NGen.test ⟨nm, nd, le, mo, ra⟩ = if (withinB le 0 100000 && (withinB mo le 100000 && withinB ra 0 100000)) = true then 0 else 4) := rfl
      have HW1 := Lib.hid (H1.out le 0 100000)
      have HW2 := Lib.hid (H1.out mo le 100000)
      have HW3 := Lib.hid (H1.out ra 0 100000)
      generalize NGen.test ⟨nm, nd, le, mo, ra⟩ = T at *
      generalize withinB le 0 100000 = q1 at *
      generalize withinB mo le 100000 = q2 at *
      generalize withinB ra 0 100000 = q3 at *
      by_cases hD : D = 0
      ·
        have g1 : (D != 0) = false := by simp [hD]
        have HD2 := Lib.hid (HDR.out.trans (if_neg (fun h => h hD)))
        clear hD HDR
        cases q1
        ·
          go_wp2_with fail
          refine (HW1.out _).mono ?_; rintro e w' ⟨rfl, rfl⟩
          have HR : Hid (E = 4) := by show _ = _; rw [HE2.out, HD2.out, HTE.out]; simp
          go_wp2_with fail
          go_ret
          exact ⟨by rw [HR.out]; rfl, HB4.out⟩
        cases q2
        ·
          go_wp2_with fail
          refine (HW1.out _).mono ?_; rintro e w' ⟨rfl, rfl⟩
          go_wp2_with fail
          refine (HW2.out _).mono ?_; rintro e w' ⟨rfl, rfl⟩
          have HR : Hid (E = 4) := by show _ = _; rw [HE2.out, HD2.out, HTE.out]; simp
          go_wp2_with fail
          go_ret
          exact ⟨by rw [HR.out]; rfl, HB4.out⟩
        cases q3
        ·
          go_wp2_with fail
          refine (HW1.out _).mono ?_; rintro e w' ⟨rfl, rfl⟩
          go_wp2_with fail
          refine (HW2.out _).mono ?_; rintro e w' ⟨rfl, rfl⟩
          go_wp2_with fail
          refine (HW3.out _).mono ?_; rintro e w' ⟨rfl, rfl⟩
          have HR : Hid (E = 4) := by show _ = _; rw [HE2.out, HD2.out, HTE.out]; simp
          go_wp2_with fail
          go_ret
          exact ⟨by rw [HR.out]; rfl, HB4.out⟩
        ·
          go_wp2_with fail
          refine (HW1.out _).mono ?_; rintro e w' ⟨rfl, rfl⟩
          go_wp2_with fail
          refine (HW2.out _).mono ?_; rintro e w' ⟨rfl, rfl⟩
          go_wp2_with fail
          refine (HW3.out _).mono ?_; rintro e w' ⟨rfl, rfl⟩
          have HR : Hid (devAll nl NGen.name (fun x => [x.node]) NGen.test (gens.drop (k + 1)) met2 = GA) := by show _ = _; rw [HD2.out, HTE.out]; simp
          go_wp2_with fail
          go_roundw
          case rel => exact ⟨k + 1, met2, hlt, by go_num, HR, HNS4, HB4, HX4, by omega⟩
          case measure => simp [intOf]; omega
      ·
        have g1 : (D != 0) = true := by simp [hD]
        have HR : Hid (E = D) := by show _ = _; rw [HE2.out, HDR.out, if_pos hD, if_pos hD]
        clear hD HDR
        go_wp2_with fail
        go_ret
        exact ⟨by rw [HR.out]; rfl, HB4.out⟩
    ·
      have hkn : gens.drop k = [] := List.drop_eq_nil_of_le (by rw [hG]; omega)
      have HA0 : Hid (GA = (0, met')) := by show _ = _; rw [← he.out, hkn]; rfl
      clear hkn he
      have HE3 : Hid (E = if LA.1 ≠ 0 then LA.1 else SA.1) := by show _ = _; rw [HE2.out, HA0.out]; rfl
      rw [HA0.out] at HLA
      clear HE2 HGA HA0
      have HE2 := HE3
      clear HE3
      have x4 := hbx.out.cell 4 rfl
      go_wp2_with fail
      have hm1 : met'.length ≤ 210 := by omega
      clear x4 hk hlt
      go_loopw [54] (fun i wr => ∃ (k : Nat) (met' : List ByteArray), k ≤ ln ∧ i = .int .i64 k ∧ Hid (devAll nl NLoad.name (fun x => [x.node]) NLoad.test (loads.drop k) met' = LA) ∧ Hid (NS b met' wr) ∧ Hid (Below b w wr) ∧ Hid (Blk wr w.heap.size #[.slice na nn nc, .slice sa sn sc, .slice ba bn bc, .slice ga gn gc, .slice la ln lc, .slice ta tn tc] 29) ∧ met'.length ≤ 210 + k) (fun i _ => ln - (intOf i).toNat)
      case atStart => exact ⟨0, met', Nat.zero_le _, rfl, HLA, hns, hbl, hbx, by omega⟩
      case round =>
        clear hns hbl hbx hml
        obtain ⟨k, met', hk, rfl, he, hns, hbl, hbx, hml⟩ := hrel
        by_cases hlt : k < ln
        ·
          have hlk : k < loads.length := by rw [hL]; exact hlt
          obtain ⟨x, hx⟩ : ∃ x, loads[k]? = some x := ⟨_, List.getElem?_eq_getElem hlk⟩
          have hr := (R4.out.low o4 hbl.out).addr (by omega)
          obtain ⟨g, off, cap', hvv, _, _, _, hc⟩ := hr
          simp only [Value.slice.injEq] at hvv
          obtain ⟨rfl, _, rfl⟩ := hvv
          obtain ⟨c0, c1, c2⟩ := load_cells hc hx
          have hd := devAll_drop (nl := nl) (name := NLoad.name) (ends := fun x => [x.node]) (test := NLoad.test) (met := met') hx
          have hsz := f4 x (List.mem_of_getElem? hx)
          rw [he.out] at hd
          obtain ⟨nm, nd, le⟩ := x
          simp only at c0 c1 c2 hd hsz
          have HC := Lib.hid (HD.out nm met' nd #[.string nm, .string nd, .int .i64 le] 130 wr hbl.out hns.out hbx.out (by decide) hsz (by omega))
          have HDR : Hid (LA = if deviceE nl met' nm [nd] ≠ 0 then (deviceE nl met' nm [nd], (addR met' nm).2) else if NLoad.test ⟨nm, nd, le⟩ ≠ 0 then (NLoad.test ⟨nm, nd, le⟩, (addR met' nm).2) else devAll nl NLoad.name (fun x => [x.node]) NLoad.test (loads.drop (k + 1)) (addR met' nm).2) := hd
          have hal := addR_len met' nm
          clear hc hx hd hsz he hns
          generalize deviceE nl met' nm [nd] = D at *
          generalize (addR met' nm).2 = met2 at *
          have hz2 : (wr.alloc (.cells #[.string nm, .string nd, .int .i64 le] 130)).heap.size = wr.heap.size + 1 := World.size_alloc _ _
          have e2 := Blk.new wr #[.string nm, .string nd, .int .i64 le] 130
          have n2 := hbx.out.alloc (.cells #[.string nm, .string nd, .int .i64 le] 130)
          rw [← hz2] at HC
          generalize hW2 : wr.alloc (.cells #[.string nm, .string nd, .int .i64 le] 130) = W2 at *
          have x0 := n2.cell 0 rfl
          have x1 := n2.cell 1 rfl
          have x2 := n2.cell 2 rfl
          have x3 := n2.cell 3 rfl
          have x4 := n2.cell 4 rfl
          have x5 := n2.cell 5 rfl
          have z0 := e2.cell 0 rfl
          have z1 := e2.cell 1 rfl
          clear e2 n2 hz2
          go_wp2_with fail
          refine HC.out.mono ?_; rintro e w4 ⟨rfl, hn4, hb4, hx4, he4⟩
          have HNS4 := Lib.hid hn4
          have HB4 := Lib.hid hb4
          have HX4 := Lib.hid hx4
          clear hn4 hb4 hx4 HC x0 x1 x2 x3 x4 x5 z0 z1 c0 c1 c2 hW2 hbl hbx
          have y0 := he4.cell 2 rfl
          clear he4
          have HTE : Hid (NLoad.test ⟨nm, nd, le⟩ = if withinB le 0 100000 = true then 0 else 4) := rfl
          have HW1 := Lib.hid (H1.out le 0 100000)
          generalize NLoad.test ⟨nm, nd, le⟩ = T at *
          generalize withinB le 0 100000 = q1 at *
          by_cases hD : D = 0
          ·
            have g1 : (D != 0) = false := by simp [hD]
            have HD2 := Lib.hid (HDR.out.trans (if_neg (fun h => h hD)))
            clear hD HDR
            cases q1
            ·
              go_wp2_with fail
              refine (HW1.out _).mono ?_; rintro e w' ⟨rfl, rfl⟩
              have HR : Hid (E = 4) := by show _ = _; rw [HE2.out, HD2.out, HTE.out]; simp
              go_wp2_with fail
              go_ret
              exact ⟨by rw [HR.out]; rfl, HB4.out⟩
            ·
              go_wp2_with fail
              refine (HW1.out _).mono ?_; rintro e w' ⟨rfl, rfl⟩
              have HR : Hid (devAll nl NLoad.name (fun x => [x.node]) NLoad.test (loads.drop (k + 1)) met2 = LA) := by show _ = _; rw [HD2.out, HTE.out]; simp
              go_wp2_with fail
              go_roundw
              case rel => exact ⟨k + 1, met2, hlt, by go_num, HR, HNS4, HB4, HX4, by omega⟩
              case measure => simp [intOf]; omega
          ·
            have g1 : (D != 0) = true := by simp [hD]
            have HR : Hid (E = D) := by show _ = _; rw [HE2.out, HDR.out, if_pos hD, if_pos hD]
            clear hD HDR
            go_wp2_with fail
            go_ret
            exact ⟨by rw [HR.out]; rfl, HB4.out⟩
        ·
          have hkn : loads.drop k = [] := List.drop_eq_nil_of_le (by rw [hL]; omega)
          have HA0 : Hid (LA = (0, met')) := by show _ = _; rw [← he.out, hkn]; rfl
          clear hkn he
          have HE3 : Hid (E = SA.1) := by show _ = _; rw [HE2.out, HA0.out]; rfl
          rw [HA0.out] at HSA
          clear HE2 HLA HA0
          have HE2 := HE3
          clear HE3
          have x5 := hbx.out.cell 5 rfl
          go_wp2_with fail
          have hm2 : met'.length ≤ 222 := by omega
          clear x5 hk hlt
          go_loopw [77] (fun i wr => ∃ (k : Nat) (met' : List ByteArray), k ≤ tn ∧ i = .int .i64 k ∧ Hid (devAll nl NStore.name (fun x => [x.node]) NStore.test (stores.drop k) met' = SA) ∧ Hid (NS b met' wr) ∧ Hid (Below b w wr) ∧ Hid (Blk wr w.heap.size #[.slice na nn nc, .slice sa sn sc, .slice ba bn bc, .slice ga gn gc, .slice la ln lc, .slice ta tn tc] 29) ∧ met'.length ≤ 222 + k) (fun i _ => tn - (intOf i).toNat)
          case atStart => exact ⟨0, met', Nat.zero_le _, rfl, HSA, hns, hbl, hbx, by omega⟩
          case round =>
            clear hns hbl hbx hml
            obtain ⟨k, met', hk, rfl, he, hns, hbl, hbx, hml⟩ := hrel
            by_cases hlt : k < tn
            ·
              have hlk : k < stores.length := by rw [hT]; exact hlt
              obtain ⟨x, hx⟩ : ∃ x, stores[k]? = some x := ⟨_, List.getElem?_eq_getElem hlk⟩
              have hr := (R5.out.low o5 hbl.out).addr (by omega)
              obtain ⟨g, off, cap', hvv, _, _, _, hc⟩ := hr
              simp only [Value.slice.injEq] at hvv
              obtain ⟨rfl, _, rfl⟩ := hvv
              obtain ⟨c0, c1, c2, c3, c4⟩ := store_cells hc hx
              have hd := devAll_drop (nl := nl) (name := NStore.name) (ends := fun x => [x.node]) (test := NStore.test) (met := met') hx
              have hsz := f5 x (List.mem_of_getElem? hx)
              rw [he.out] at hd
              obtain ⟨nm, nd, le, mo, ra⟩ := x
              simp only at c0 c1 c2 c3 c4 hd hsz
              have HC := Lib.hid (HD.out nm met' nd #[.string nm, .string nd, .int .i64 le, .int .i64 mo, .int .i64 ra] 132 wr hbl.out hns.out hbx.out (by decide) hsz (by omega))
              have HDR : Hid (SA = if deviceE nl met' nm [nd] ≠ 0 then (deviceE nl met' nm [nd], (addR met' nm).2) else if NStore.test ⟨nm, nd, le, mo, ra⟩ ≠ 0 then (NStore.test ⟨nm, nd, le, mo, ra⟩, (addR met' nm).2) else devAll nl NStore.name (fun x => [x.node]) NStore.test (stores.drop (k + 1)) (addR met' nm).2) := hd
              have hal := addR_len met' nm
              clear hc hx hd hsz he hns
              generalize deviceE nl met' nm [nd] = D at *
              generalize (addR met' nm).2 = met2 at *
              have hz2 : (wr.alloc (.cells #[.string nm, .string nd, .int .i64 le, .int .i64 mo, .int .i64 ra] 132)).heap.size = wr.heap.size + 1 := World.size_alloc _ _
              have e2 := Blk.new wr #[.string nm, .string nd, .int .i64 le, .int .i64 mo, .int .i64 ra] 132
              have n2 := hbx.out.alloc (.cells #[.string nm, .string nd, .int .i64 le, .int .i64 mo, .int .i64 ra] 132)
              rw [← hz2] at HC
              generalize hW2 : wr.alloc (.cells #[.string nm, .string nd, .int .i64 le, .int .i64 mo, .int .i64 ra] 132) = W2 at *
              have x0 := n2.cell 0 rfl
              have x1 := n2.cell 1 rfl
              have x2 := n2.cell 2 rfl
              have x3 := n2.cell 3 rfl
              have x4 := n2.cell 4 rfl
              have x5 := n2.cell 5 rfl
              have z0 := e2.cell 0 rfl
              have z1 := e2.cell 1 rfl
              clear e2 n2 hz2
              go_wp2_with fail
              refine HC.out.mono ?_; rintro e w4 ⟨rfl, hn4, hb4, hx4, he4⟩
              have HNS4 := Lib.hid hn4
              have HB4 := Lib.hid hb4
              have HX4 := Lib.hid hx4
              clear hn4 hb4 hx4 HC x0 x1 x2 x3 x4 x5 z0 z1 c0 c1 c2 c3 c4 hW2 hbl hbx
              have y0 := he4.cell 2 rfl
              have y1 := he4.cell 3 rfl
              have y2 := he4.cell 4 rfl
              clear he4
              have HTE : Hid (NStore.test ⟨nm, nd, le, mo, ra⟩ = if (withinB le 0 100000 && (withinB mo 0 100000 && withinB ra 0 100000)) = true then 0 else 4) := rfl
              have HW1 := Lib.hid (H1.out le 0 100000)
              have HW2 := Lib.hid (H1.out mo 0 100000)
              have HW3 := Lib.hid (H1.out ra 0 100000)
              generalize NStore.test ⟨nm, nd, le, mo, ra⟩ = T at *
              generalize withinB le 0 100000 = q1 at *
              generalize withinB mo 0 100000 = q2 at *
              generalize withinB ra 0 100000 = q3 at *
              by_cases hD : D = 0
              ·
                have g1 : (D != 0) = false := by simp [hD]
                have HD2 := Lib.hid (HDR.out.trans (if_neg (fun h => h hD)))
                clear hD HDR
                cases q1
                ·
                  go_wp2_with fail
                  refine (HW1.out _).mono ?_; rintro e w' ⟨rfl, rfl⟩
                  have HR : Hid (E = 4) := by show _ = _; rw [HE2.out, HD2.out, HTE.out]; simp
                  go_wp2_with fail
                  go_ret
                  exact ⟨by rw [HR.out]; rfl, HB4.out⟩
                cases q2
                ·
                  go_wp2_with fail
                  refine (HW1.out _).mono ?_; rintro e w' ⟨rfl, rfl⟩
                  go_wp2_with fail
                  refine (HW2.out _).mono ?_; rintro e w' ⟨rfl, rfl⟩
                  have HR : Hid (E = 4) := by show _ = _; rw [HE2.out, HD2.out, HTE.out]; simp
                  go_wp2_with fail
                  go_ret
                  exact ⟨by rw [HR.out]; rfl, HB4.out⟩
                cases q3
                ·
                  go_wp2_with fail
                  refine (HW1.out _).mono ?_; rintro e w' ⟨rfl, rfl⟩
                  go_wp2_with fail
                  refine (HW2.out _).mono ?_; rintro e w' ⟨rfl, rfl⟩
                  go_wp2_with fail
                  refine (HW3.out _).mono ?_; rintro e w' ⟨rfl, rfl⟩
                  have HR : Hid (E = 4) := by show _ = _; rw [HE2.out, HD2.out, HTE.out]; simp
                  go_wp2_with fail
                  go_ret
                  exact ⟨by rw [HR.out]; rfl, HB4.out⟩
                ·
                  go_wp2_with fail
                  refine (HW1.out _).mono ?_; rintro e w' ⟨rfl, rfl⟩
                  go_wp2_with fail
                  refine (HW2.out _).mono ?_; rintro e w' ⟨rfl, rfl⟩
                  go_wp2_with fail
                  refine (HW3.out _).mono ?_; rintro e w' ⟨rfl, rfl⟩
                  have HR : Hid (devAll nl NStore.name (fun x => [x.node]) NStore.test (stores.drop (k + 1)) met2 = SA) := by show _ = _; rw [HD2.out, HTE.out]; simp
                  go_wp2_with fail
                  go_roundw
                  case rel => exact ⟨k + 1, met2, hlt, by go_num, HR, HNS4, HB4, HX4, by omega⟩
                  case measure => simp [intOf]; omega
              ·
                have g1 : (D != 0) = true := by simp [hD]
                have HR : Hid (E = D) := by show _ = _; rw [HE2.out, HDR.out, if_pos hD]
                clear hD HDR
                go_wp2_with fail
                go_ret
                exact ⟨by rw [HR.out]; rfl, HB4.out⟩
            ·
              have hkn : stores.drop k = [] := List.drop_eq_nil_of_le (by rw [hT]; omega)
              have HA0 : Hid (SA = (0, met')) := by show _ = _; rw [← he.out, hkn]; rfl
              clear hkn he
              have HR : Hid (E = 0) := by show _ = _; rw [HE2.out, HA0.out]
              have HB4 := hbl
              go_wp2_with fail
              go_ret
              exact ⟨by rw [HR.out]; rfl, HB4.out⟩
end Go.Proofs.Ythcddboeejbncaa
namespace Go.Proofs.Ythcddboeejbncaa
open Go.RowKit


theorem sizes_case (a b c d e f : Nat) : (sizesE a b c d e f = 0 ∧ SizesOk a b c d e f) ∨ (sizesE a b c d e f = 2 ∧ ¬ SizesOk a b c d e f) := by
  unfold sizesE; split <;> simp_all

set_option maxHeartbeats 4000000 in
set_option maxRecDepth 100000 in
theorem net_c (x0 : NAddr) (n : Net) (w : World) (hr : NetR w x0 n) (hwf : n.Wf) :
    Calls Try.prog 36 #[x0.val n] w fun e w' => e = .returned (.int .i64 (netE n)) ∧ Below w.heap.size w w' := by
  have hlow := hr.isLow
  have HSO := Lib.hid (fun b met w (h1 : NetR w x0 n) h2 h3 h4 h5 h6 h7 => sources_c b x0 n met w h1 hwf h2 h3 h4 h5 h6 h7)
  have HR0 := Lib.hid hr
  have HLW := Lib.hid hlow
  obtain ⟨na, nc, sa, sc, ba, bc, ga, gc, la, lc, ta, tc⟩ := x0
  obtain ⟨nl, sws, brs, gens, loads, stores⟩ := n
  obtain ⟨f0, f1, f2, f3, f4, f5⟩ := hwf
  obtain ⟨o0, o1, o2, o3, o4, o5⟩ := hlow
  simp only at *
  have HAD : Hid (∀ b met s W, s.size ≤ 9223372036854775807 → met.length ≤ 1000 → NS b met W → Calls Try.prog 52 #[.pointer (some ⟨b, 0, none⟩), .string s] W fun e w' => e = .returned (.int .i64 (addR met s).1) ∧ NS b (addR met s).2 w' ∧ Below b W w' ∧ Frame b W w') := fun b met s W h1 h2 h3 => add_c b met s h1 h2 W h3
  have HBR : Hid (∀ nm fr to x tap sh lim shrt hold W, Calls Try.prog 54 #[.agg #[.string nm, .string fr, .string to, .int .i64 x, .int .i64 tap, .int .i64 sh, .int .i64 lim, .int .i64 shrt, .int .i64 hold]] W fun e w' => e = .returned (.int .i64 (brE x tap sh lim shrt hold)) ∧ Below W.heap.size W w') := fun nm fr to x tap sh lim shrt hold W => branch_c nm fr to x tap sh lim shrt hold W
  obtain ⟨AA, hAA⟩ : ∃ G, addAll nl [] = G := ⟨_, rfl⟩
  obtain ⟨SA, hSA⟩ : ∃ G, devAll nl NSw.name (fun x => [x.a, x.b]) NSw.test sws AA.2 = G := ⟨_, rfl⟩
  obtain ⟨BA, hBA⟩ : ∃ G, devAll nl NBr.name (fun x => [x.fr, x.to]) NBr.test brs SA.2 = G := ⟨_, rfl⟩
  have HE2 : Hid (netE ⟨nl, sws, brs, gens, loads, stores⟩ = if sizesE nl.length sws.length brs.length gens.length loads.length stores.length ≠ 0 then 2 else if AA.1 ≠ 0 then AA.1 else if SA.1 ≠ 0 then SA.1 else if BA.1 ≠ 0 then BA.1 else srcE ⟨nl, sws, brs, gens, loads, stores⟩ BA.2) := by show _ = _; rw [← hBA, ← hSA, ← hAA]; rfl
  have HAA := Lib.hid hAA
  have HSA := Lib.hid hSA
  have HBA := Lib.hid hBA
  clear hAA hSA hBA
  generalize netE ⟨nl, sws, brs, gens, loads, stores⟩ = E at *
  obtain ⟨nn, hN⟩ : ∃ n, nl.length = n := ⟨_, rfl⟩
  obtain ⟨sn, hS⟩ : ∃ n, sws.length = n := ⟨_, rfl⟩
  obtain ⟨bn, hB⟩ : ∃ n, brs.length = n := ⟨_, rfl⟩
  obtain ⟨gn, hG⟩ : ∃ n, gens.length = n := ⟨_, rfl⟩
  obtain ⟨ln, hL⟩ : ∃ n, loads.length = n := ⟨_, rfl⟩
  obtain ⟨tn, hT⟩ : ∃ n, stores.length = n := ⟨_, rfl⟩
  obtain ⟨r0, r1, r2, r3, r4, r5⟩ := hr
  simp only at r0 r1 r2 r3 r4 r5
  rw [hN] at r0
  rw [hS] at r1
  rw [hB] at r2
  rw [hG] at r3
  rw [hL] at r4
  rw [hT] at r5
  have R0 := Lib.hid r0
  have R1 := Lib.hid r1
  have R2 := Lib.hid r2
  have HSO2 : Hid (∀ b met W, NetR W ⟨na, nc, sa, sc, ba, bc, ga, gc, la, lc, ta, tc⟩ ⟨nl, sws, brs, gens, loads, stores⟩ → NAddr.Low ⟨na, nc, sa, sc, ba, bc, ga, gc, la, lc, ta, tc⟩ ⟨nl, sws, brs, gens, loads, stores⟩ b → NS b met W → met.length ≤ 200 → gn ≤ 10 → ln ≤ 12 → tn ≤ 4 →
      Calls Try.prog 55 #[netV na nn nc sa sn sc ba bn bc ga gn gc la ln lc ta tn tc, .pointer (some ⟨b, 0, none⟩)] W fun e w' => e = .returned (.int .i64 (srcE ⟨nl, sws, brs, gens, loads, stores⟩ met)) ∧ Below b W w') := by
    intro b met W h1 h2 h3 h4 h5 h6 h7
    have := HSO.out b met W h1 h2 h3 h4 (by rw [hG]; exact h5) (by rw [hL]; exact h6) (by rw [hT]; exact h7)
    rw [← hN, ← hS, ← hB, ← hG, ← hL, ← hT]
    exact this
  clear HSO r0 r1 r2 r3 r4 r5
  show Calls _ _ #[netV na nl.length nc sa sws.length sc ba brs.length bc ga gens.length gc la loads.length lc ta stores.length tc] _ _
  rw [hN, hS, hB, hG, hL, hT]
  rw [hN, hS, hB, hG, hL, hT] at HE2
  have HSZ : Hid (∀ W, Calls Try.prog 51 #[netV na nn nc sa sn sc ba bn bc ga gn gc la ln lc ta tn tc] W fun e w' => e = .returned (.int .i64 (sizesE nn sn bn gn ln tn)) ∧ Below W.heap.size W w') := fun W => sizes_c na nn nc sa sn sc ba bn bc ga gn gc la ln lc ta tn tc W
  have hsc := sizes_case nn sn bn gn ln tn
  generalize sizesE nn sn bn gn ln tn = Z at *
  have K1 : Hid (Blk (w.alloc (.cells #[.slice na nn nc, .slice sa sn sc, .slice ba bn bc, .slice ga gn gc, .slice la ln lc, .slice ta tn tc] 29)) w.heap.size #[.slice na nn nc, .slice sa sn sc, .slice ba bn bc, .slice ga gn gc, .slice la ln lc, .slice ta tn tc] 29) := Blk.new _ _ _
  have B1 : Hid (Below w.heap.size w (w.alloc (.cells #[.slice na nn nc, .slice sa sn sc, .slice ba bn bc, .slice ga gn gc, .slice la ln lc, .slice ta tn tc] 29))) := belowA (Below.refl _ _) _
  generalize hW1 : w.alloc (.cells #[.slice na nn nc, .slice sa sn sc, .slice ba bn bc, .slice ga gn gc, .slice la ln lc, .slice ta tn tc] 29) = W1 at *
  have x0 := K1.out.cell 0 rfl
  have x1 := K1.out.cell 1 rfl
  have x2 := K1.out.cell 2 rfl
  have x3 := K1.out.cell 3 rfl
  have x4 := K1.out.cell 4 rfl
  have x5 := K1.out.cell 5 rfl
  go_enter Try.func36, Try.ntmps36
  go_wp2_with fail
  refine (HSZ.out _).mono ?_; rintro e w2 ⟨rfl, hb2⟩
  have HB0 : Hid (Below w.heap.size w w2) := B1.out.trans (hb2.mono (Nat.le_trans B1.out.size (Nat.le_refl _)))
  have K2 := Lib.hid (below_blk hb2 K1.out K1.out.lt)
  clear x0 x1 x2 x3 x4 x5 hW1
  rcases hsc with ⟨hz, hok⟩ | ⟨hz, hno⟩
  · subst hz
    obtain ⟨z0, z1, z2, z3, z4, z5⟩ := hok
    have HE3 : Hid (E = if AA.1 ≠ 0 then AA.1 else if SA.1 ≠ 0 then SA.1 else if BA.1 ≠ 0 then BA.1 else srcE ⟨nl, sws, brs, gens, loads, stores⟩ BA.2) := HE2.out
    clear HE2
    have HE2 := HE3
    clear HE3
    have hxb0 : w.heap.size ≤ w2.heap.size := HB0.out.size
    have N3 : Hid (NS w2.heap.size [] (w2.alloc (.cells #[.slice none 0 0] 105))) := ⟨_, Blk.new _ _ _, ⟨rfl, Or.inl ⟨rfl, rfl⟩⟩, by simp⟩
    have B3 : Hid (Below w2.heap.size w2 (w2.alloc (.cells #[.slice none 0 0] 105))) := belowA (Below.refl _ _) _
    have K3 : Hid (Blk (w2.alloc (.cells #[.slice none 0 0] 105)) w.heap.size #[.slice na nn nc, .slice sa sn sc, .slice ba bn bc, .slice ga gn gc, .slice la ln lc, .slice ta tn tc] 29) := K2.out.alloc _
    have hxb : w.heap.size ≠ w2.heap.size := by have := K2.out.lt; omega
    generalize hW3 : w2.alloc (.cells #[.slice none 0 0] 105) = W3 at *
    have x0 := K3.out.cell 0 rfl
    go_wp2_with fail
    clear hW3
    have HB1 : Hid (Below w.heap.size w W3) := HB0.out.trans (B3.out.mono hxb0)
    have R0' := Lib.hid (R0.out.low o0 HB1.out)
    have R1' := Lib.hid (R1.out.low o1 HB1.out)
    have R2' := Lib.hid (R2.out.low o2 HB1.out)
    have HRW := Lib.hid (HR0.out.low HLW.out HB1.out)
    have HLB := Lib.hid (HLW.out.mono hxb0)
    have p0 := HLB.out.n
    have p1 := HLB.out.s
    have p2 := HLB.out.r
    simp only at p0 p1 p2
    clear R0 R1 R2 HB0 B3 HR0 HLW o0 o1 o2 o3 o4 o5
    have R0 := R0'
    have R1 := R1'
    have R2 := R2'
    have HB0 := HB1
    clear R0' R1' R2' HB1
    generalize hbb : w2.heap.size = b at *
    have HD : Hid (∀ (s : ByteArray) (met' : List ByteArray) (nd ne : ByteArray) (ec : Array Value) (et : TypeId) (wr : World), Below b W3 wr → NS b met' wr → Blk wr w.heap.size #[.slice na nn nc, .slice sa sn sc, .slice ba bn bc, .slice ga gn gc, .slice la ln lc, .slice ta tn tc] 29 → et ≠ 9 → s.size ≤ 9223372036854775807 → met'.length ≤ 1000 →
        Calls Try.prog 53 #[netV na nn nc sa sn sc ba bn bc ga gn gc la ln lc ta tn tc, .pointer (some ⟨b, 0, none⟩), .string s, .slice (some ⟨wr.heap.size + 1, 0, none⟩) 2 2] ((wr.alloc (.cells ec et)).alloc (.cells #[.string nd, .string ne] 9)) fun e w' =>
          e = .returned (.int .i64 (deviceE nl met' s [nd, ne])) ∧ NS b (addR met' s).2 w' ∧ Below b W3 w' ∧ Blk w' w.heap.size #[.slice na nn nc, .slice sa sn sc, .slice ba bn bc, .slice ga gn gc, .slice la ln lc, .slice ta tn tc] 29 ∧ Blk w' wr.heap.size ec et) :=
      fun s met' nd ne ec et wr h1 h2 h3 h4 h5 h6 => dev_c na nn nc sa sn sc ba bn bc ga gn gc la ln lc ta tn tc nl met' s b w.heap.size 2 [nd, ne] ec et _ W3 wr hN R0.out p0 h1 h2 h3 hxb h4 h5 h6 rfl (by decide) (by decide)
    go_loopw [23] (fun i wr => ∃ (k : Nat) (met' : List ByteArray), k ≤ nn ∧ i = .int .i64 k ∧ Hid (addAll (nl.drop k) met' = AA) ∧ Hid (NS b met' wr) ∧ Hid (Below b W3 wr) ∧ Hid (Blk wr w.heap.size #[.slice na nn nc, .slice sa sn sc, .slice ba bn bc, .slice ga gn gc, .slice la ln lc, .slice ta tn tc] 29) ∧ met'.length ≤ 0 + k) (fun i _ => nn - (intOf i).toNat)
    case atStart => exact ⟨0, [], Nat.zero_le _, rfl, HAA, N3, Below.refl _ _, K3, by simp⟩
    case round =>
      clear x0
      obtain ⟨k, met', hk, rfl, he, hns, hbl, hbx, hml⟩ := hrel
      by_cases hlt : k < nn
      ·
        have hlk : k < nl.length := by rw [hN]; exact hlt
        have hr := (R0.out.low p0 hbl.out).addr (by omega)
        obtain ⟨g, off, cap', hvv, _, _, _, hc⟩ := hr
        simp only [Value.slice.injEq] at hvv
        obtain ⟨rfl, _, rfl⟩ := hvv
        have c0 := hc k _ (strs_get hlk)
        have hd := addAll_drop (met := met') hlk
        have hsz := f0 (nl.getD k ByteArray.empty) (by rw [List.getD_eq_getElem?_getD, List.getElem?_eq_getElem hlk]; exact List.getElem_mem hlk)
        rw [he.out] at hd
        generalize nl.getD k ByteArray.empty = s at *
        have HC := Lib.hid (HAD.out b met' s wr hsz (by omega) hns.out)
        have HDR := Lib.hid hd
        have hal := addR_len met' s
        clear hc hd hsz he
        generalize hP : addR met' s = P at *
        obtain ⟨D, met2⟩ := P
        simp only at HC HDR hal
        go_wp2_with fail
        refine HC.out.mono ?_; rintro e w4 ⟨rfl, hn4, hb4, hf4⟩
        have HNS4 := Lib.hid hn4
        have HX4 := Lib.hid (hns.out.keep hf4 hbx.out (by decide) hxb)
        have HB4 := Lib.hid (hbl.out.trans hb4)
        clear hn4 hb4 hf4 HC hns hbl hbx c0 hP
        by_cases hD : D = 0
        ·
          have g1 : (D != 0) = false := by simp [hD]
          have HR : Hid (addAll (nl.drop (k + 1)) met2 = AA) := (HDR.out.trans (if_neg (fun h => h hD))).symm
          clear hD HDR
          go_wp2_with fail
          go_roundw
          case rel => exact ⟨k + 1, met2, hlt, by go_num, HR, HNS4, HB4, HX4, by omega⟩
          case measure => simp [intOf]; omega
        ·
          have g1 : (D != 0) = true := by simp [hD]
          have HR : Hid (E = D) := by show _ = _; rw [HE2.out, HDR.out, if_pos hD, if_pos hD]
          clear hD HDR
          go_wp2_with fail
          go_ret
          exact ⟨by rw [HR.out]; rfl, (HB0.out).trans (HB4.out.mono hxb0)⟩
      ·
        have hkn : nl.drop k = [] := List.drop_eq_nil_of_le (by rw [hN]; omega)
        have HA0 : Hid (AA = (0, met')) := by show _ = _; rw [← he.out, hkn]; rfl
        clear hkn he
        have HE3 : Hid (E = if SA.1 ≠ 0 then SA.1 else if BA.1 ≠ 0 then BA.1 else srcE ⟨nl, sws, brs, gens, loads, stores⟩ BA.2) := by show _ = _; rw [HE2.out, HA0.out]; rfl
        rw [HA0.out] at HSA
        clear HE2 HAA HA0 HAD
        have HE2 := HE3
        clear HE3
        have x1 := hbx.out.cell 1 rfl
        go_wp2_with fail
        have hm1 : met'.length ≤ 24 := by omega
        clear x1 hk hlt
        go_loopw [36] (fun i wr => ∃ (k : Nat) (met' : List ByteArray), k ≤ sn ∧ i = .int .i64 k ∧ Hid (devAll nl NSw.name (fun x => [x.a, x.b]) NSw.test (sws.drop k) met' = SA) ∧ Hid (NS b met' wr) ∧ Hid (Below b W3 wr) ∧ Hid (Blk wr w.heap.size #[.slice na nn nc, .slice sa sn sc, .slice ba bn bc, .slice ga gn gc, .slice la ln lc, .slice ta tn tc] 29) ∧ met'.length ≤ 24 + k) (fun i _ => sn - (intOf i).toNat)
        case atStart => exact ⟨0, met', Nat.zero_le _, rfl, HSA, hns, hbl, hbx, by omega⟩
        case round =>
          clear hns hbl hbx hml
          obtain ⟨k, met', hk, rfl, he, hns, hbl, hbx, hml⟩ := hrel
          by_cases hlt : k < sn
          ·
            have hlk : k < sws.length := by rw [hS]; exact hlt
            obtain ⟨x, hx⟩ : ∃ x, sws[k]? = some x := ⟨_, List.getElem?_eq_getElem hlk⟩
            have hr := (R1.out.low p1 hbl.out).addr (by omega)
            obtain ⟨g, off, cap', hvv, _, _, _, hc⟩ := hr
            simp only [Value.slice.injEq] at hvv
            obtain ⟨rfl, _, rfl⟩ := hvv
            obtain ⟨c0, c1, c2, c3, c4⟩ := sw_cells hc hx
            have hd := devAll_drop (nl := nl) (name := NSw.name) (ends := fun x => [x.a, x.b]) (test := NSw.test) (met := met') hx
            have hsz := f1 x (List.mem_of_getElem? hx)
            rw [he.out] at hd
            obtain ⟨nm, fr, to, bk, op⟩ := x
            simp only at c0 c1 c2 c3 c4 hd hsz
            have HC := Lib.hid (HD.out nm met' fr to #[.string nm, .string fr, .string to, .bool bk, .bool op] 108 wr hbl.out hns.out hbx.out (by decide) hsz (by omega))
            have HDR : Hid (SA = if deviceE nl met' nm [fr, to] ≠ 0 then (deviceE nl met' nm [fr, to], (addR met' nm).2) else if NSw.test ⟨nm, fr, to, bk, op⟩ ≠ 0 then (NSw.test ⟨nm, fr, to, bk, op⟩, (addR met' nm).2) else devAll nl NSw.name (fun x => [x.a, x.b]) NSw.test (sws.drop (k + 1)) (addR met' nm).2) := hd
            have hal := addR_len met' nm
            clear hc hx hd hsz he hns
            generalize deviceE nl met' nm [fr, to] = D at *
            generalize (addR met' nm).2 = met2 at *
            have hz2 : (wr.alloc (.cells #[.string nm, .string fr, .string to, .bool bk, .bool op] 108)).heap.size = wr.heap.size + 1 := World.size_alloc _ _
            have e2 := Blk.new wr #[.string nm, .string fr, .string to, .bool bk, .bool op] 108
            have n2 := hbx.out.alloc (.cells #[.string nm, .string fr, .string to, .bool bk, .bool op] 108)
            rw [← hz2] at HC
            generalize hW2 : wr.alloc (.cells #[.string nm, .string fr, .string to, .bool bk, .bool op] 108) = W2 at *
            have x0 := n2.cell 0 rfl
            have x1 := n2.cell 1 rfl
            have x2 := n2.cell 2 rfl
            have x3 := n2.cell 3 rfl
            have x4 := n2.cell 4 rfl
            have x5 := n2.cell 5 rfl
            have z0 := e2.cell 0 rfl
            have z1 := e2.cell 1 rfl
            have z2 := e2.cell 2 rfl
            clear e2 n2 hz2
            go_wp2_with fail
            refine HC.out.mono ?_; rintro e w4 ⟨rfl, hn4, hb4, hx4, he4⟩
            have HNS4 := Lib.hid hn4
            have HB4 := Lib.hid hb4
            have HX4 := Lib.hid hx4
            clear hn4 hb4 hx4 HC x0 x1 x2 x3 x4 x5 z0 z1 z2 c0 c1 c2 c3 c4 hW2 hbl hbx
            have y0 := he4.cell 1 rfl
            have y1 := he4.cell 2 rfl
            clear he4
            have HTE : Hid (NSw.test ⟨nm, fr, to, bk, op⟩ = if (fr.toList == to.toList) = true then 3 else 0) := rfl
            generalize NSw.test ⟨nm, fr, to, bk, op⟩ = T at *
            by_cases hD : D = 0
            ·
              have g1 : (D != 0) = false := by simp [hD]
              have HD2 := Lib.hid (HDR.out.trans (if_neg (fun h => h hD)))
              clear hD HDR
              cases hq : (fr.toList == to.toList)
              ·
                rw [hq] at HTE
                have HR : Hid (devAll nl NSw.name (fun x => [x.a, x.b]) NSw.test (sws.drop (k + 1)) met2 = SA) := by show _ = _; rw [HD2.out, HTE.out]; simp
                go_wp2_with fail
                go_roundw
                case rel => exact ⟨k + 1, met2, hlt, by go_num, HR, HNS4, HB4, HX4, by omega⟩
                case measure => simp [intOf]; omega
              ·
                rw [hq] at HTE
                have HR : Hid (E = 3) := by show _ = _; rw [HE2.out, HD2.out, HTE.out]; simp
                go_wp2_with fail
                go_ret
                exact ⟨by rw [HR.out]; rfl, (HB0.out).trans (HB4.out.mono hxb0)⟩
            ·
              have g1 : (D != 0) = true := by simp [hD]
              have HR : Hid (E = D) := by show _ = _; rw [HE2.out, HDR.out, if_pos hD, if_pos hD]
              clear hD HDR
              go_wp2_with fail
              go_ret
              exact ⟨by rw [HR.out]; rfl, (HB0.out).trans (HB4.out.mono hxb0)⟩
          ·
            have hkn : sws.drop k = [] := List.drop_eq_nil_of_le (by rw [hS]; omega)
            have HA0 : Hid (SA = (0, met')) := by show _ = _; rw [← he.out, hkn]; rfl
            clear hkn he
            have HE3 : Hid (E = if BA.1 ≠ 0 then BA.1 else srcE ⟨nl, sws, brs, gens, loads, stores⟩ BA.2) := by show _ = _; rw [HE2.out, HA0.out]; rfl
            rw [HA0.out] at HBA
            clear HE2 HSA HA0
            have HE2 := HE3
            clear HE3
            have x2 := hbx.out.cell 2 rfl
            go_wp2_with fail
            have hm2 : met'.length ≤ 56 := by omega
            clear x2 hk hlt
            go_loopw [61] (fun i wr => ∃ (k : Nat) (met' : List ByteArray), k ≤ bn ∧ i = .int .i64 k ∧ Hid (devAll nl NBr.name (fun x => [x.fr, x.to]) NBr.test (brs.drop k) met' = BA) ∧ Hid (NS b met' wr) ∧ Hid (Below b W3 wr) ∧ Hid (Blk wr w.heap.size #[.slice na nn nc, .slice sa sn sc, .slice ba bn bc, .slice ga gn gc, .slice la ln lc, .slice ta tn tc] 29) ∧ met'.length ≤ 56 + k) (fun i _ => bn - (intOf i).toNat)
            case atStart => exact ⟨0, met', Nat.zero_le _, rfl, HBA, hns, hbl, hbx, by omega⟩
            case round =>
              clear hns hbl hbx hml
              obtain ⟨k, met', hk, rfl, he, hns, hbl, hbx, hml⟩ := hrel
              by_cases hlt : k < bn
              ·
                have hlk : k < brs.length := by rw [hB]; exact hlt
                obtain ⟨x, hx⟩ : ∃ x, brs[k]? = some x := ⟨_, List.getElem?_eq_getElem hlk⟩
                have hr := (R2.out.low p2 hbl.out).addr (by omega)
                obtain ⟨g, off, cap', hvv, _, _, _, hc⟩ := hr
                simp only [Value.slice.injEq] at hvv
                obtain ⟨rfl, _, rfl⟩ := hvv
                obtain ⟨c0, c1, c2, c3, c4, c5, c6, c7, c8⟩ := br_cells hc hx
                have hd := devAll_drop (nl := nl) (name := NBr.name) (ends := fun x => [x.fr, x.to]) (test := NBr.test) (met := met') hx
                have hsz := f2 x (List.mem_of_getElem? hx)
                rw [he.out] at hd
                obtain ⟨nm, fr, to, xx, tap, sh, lim, shrt, hold⟩ := x
                simp only at c0 c1 c2 c3 c4 c5 c6 c7 c8 hd hsz
                have HC := Lib.hid (HD.out nm met' fr to #[.string nm, .string fr, .string to, .int .i64 xx, .int .i64 tap, .int .i64 sh, .int .i64 lim, .int .i64 shrt, .int .i64 hold] 53 wr hbl.out hns.out hbx.out (by decide) hsz (by omega))
                have HDR : Hid (BA = if deviceE nl met' nm [fr, to] ≠ 0 then (deviceE nl met' nm [fr, to], (addR met' nm).2) else if NBr.test ⟨nm, fr, to, xx, tap, sh, lim, shrt, hold⟩ ≠ 0 then (NBr.test ⟨nm, fr, to, xx, tap, sh, lim, shrt, hold⟩, (addR met' nm).2) else devAll nl NBr.name (fun x => [x.fr, x.to]) NBr.test (brs.drop (k + 1)) (addR met' nm).2) := hd
                have hal := addR_len met' nm
                clear hc hx hd hsz he hns
                generalize deviceE nl met' nm [fr, to] = D at *
                generalize (addR met' nm).2 = met2 at *
                have hz2 : (wr.alloc (.cells #[.string nm, .string fr, .string to, .int .i64 xx, .int .i64 tap, .int .i64 sh, .int .i64 lim, .int .i64 shrt, .int .i64 hold] 53)).heap.size = wr.heap.size + 1 := World.size_alloc _ _
                have e2 := Blk.new wr #[.string nm, .string fr, .string to, .int .i64 xx, .int .i64 tap, .int .i64 sh, .int .i64 lim, .int .i64 shrt, .int .i64 hold] 53
                have n2 := hbx.out.alloc (.cells #[.string nm, .string fr, .string to, .int .i64 xx, .int .i64 tap, .int .i64 sh, .int .i64 lim, .int .i64 shrt, .int .i64 hold] 53)
                rw [← hz2] at HC
                generalize hW2 : wr.alloc (.cells #[.string nm, .string fr, .string to, .int .i64 xx, .int .i64 tap, .int .i64 sh, .int .i64 lim, .int .i64 shrt, .int .i64 hold] 53) = W2 at *
                have x0 := n2.cell 0 rfl
                have x1 := n2.cell 1 rfl
                have x2 := n2.cell 2 rfl
                have x3 := n2.cell 3 rfl
                have x4 := n2.cell 4 rfl
                have x5 := n2.cell 5 rfl
                have z0 := e2.cell 0 rfl
                have z1 := e2.cell 1 rfl
                have z2 := e2.cell 2 rfl
                clear e2 n2 hz2
                go_wp2_with fail
                refine HC.out.mono ?_; rintro e w4 ⟨rfl, hn4, hb4, hx4, he4⟩
                have HNS4 := Lib.hid hn4
                have HB4 := Lib.hid hb4
                have HX4 := Lib.hid hx4
                clear hn4 hb4 hx4 HC x0 x1 x2 x3 x4 x5 z0 z1 z2 c0 c1 c2 c3 c4 c5 c6 c7 c8 hW2 hbl hbx
                have y0 := he4.cell 0 rfl
                have y1 := he4.cell 1 rfl
                have y2 := he4.cell 2 rfl
                have y3 := he4.cell 3 rfl
                have y4 := he4.cell 4 rfl
                have y5 := he4.cell 5 rfl
                have y6 := he4.cell 6 rfl
                have y7 := he4.cell 7 rfl
                have y8 := he4.cell 8 rfl
                clear he4
                have HTE : Hid (NBr.test ⟨nm, fr, to, xx, tap, sh, lim, shrt, hold⟩ = if (fr.toList == to.toList) = true then 3 else brE xx tap sh lim shrt hold) := rfl
                have HBC := Lib.hid (HBR.out nm fr to xx tap sh lim shrt hold)
                generalize NBr.test ⟨nm, fr, to, xx, tap, sh, lim, shrt, hold⟩ = T at *
                generalize brE xx tap sh lim shrt hold = F at *
                by_cases hD : D = 0
                ·
                  have g1 : (D != 0) = false := by simp [hD]
                  have HD2 := Lib.hid (HDR.out.trans (if_neg (fun h => h hD)))
                  clear hD HDR
                  cases hq : (fr.toList == to.toList)
                  ·
                    rw [hq] at HTE
                    have HTF : Hid (T = F) := HTE.out
                    clear HTE
                    go_wp2_with fail
                    refine (HBC.out _).mono ?_; rintro e w5 ⟨rfl, hb5⟩
                    have HNS5 := Lib.hid (HNS4.out.below hb5)
                    have HX5 := Lib.hid (below_blk hb5 HX4.out HX4.out.lt)
                    have HB5 := Lib.hid (HB4.out.trans (hb5.mono (Nat.le_of_lt (Nat.lt_of_lt_of_le (by obtain ⟨_, _, _, h⟩ := HNS4.out; omega) (Nat.le_refl _)))))
                    clear HNS4 HX4 HB4 hb5 y0 y1 y2 y3 y4 y5 y6 y7 y8
                    have HNS4 := HNS5
                    have HX4 := HX5
                    have HB4 := HB5
                    clear HNS5 HX5 HB5
                    by_cases hF : F = 0
                    ·
                      have g2 : (F != 0) = false := by simp [hF]
                      have HTE : Hid (T = 0) := HTF.out.trans hF
                      clear hF
                      have HR : Hid (devAll nl NBr.name (fun x => [x.fr, x.to]) NBr.test (brs.drop (k + 1)) met2 = BA) := by show _ = _; rw [HD2.out, HTE.out]; simp
                      go_wp2_with fail
                      go_roundw
                      case rel => exact ⟨k + 1, met2, hlt, by go_num, HR, HNS4, HB4, HX4, by omega⟩
                      case measure => simp [intOf]; omega
                    ·
                      have g2 : (F != 0) = true := by simp [hF]
                      have HR : Hid (E = F) := by show _ = _; rw [HE2.out, HD2.out, HTF.out, if_pos hF, if_pos hF]
                      clear hF
                      go_wp2_with fail
                      go_ret
                      exact ⟨by rw [HR.out]; rfl, (HB0.out).trans (HB4.out.mono hxb0)⟩
                  ·
                    rw [hq] at HTE
                    have HR : Hid (E = 3) := by show _ = _; rw [HE2.out, HD2.out, HTE.out]; simp
                    go_wp2_with fail
                    go_ret
                    exact ⟨by rw [HR.out]; rfl, (HB0.out).trans (HB4.out.mono hxb0)⟩
                ·
                  have g1 : (D != 0) = true := by simp [hD]
                  have HR : Hid (E = D) := by show _ = _; rw [HE2.out, HDR.out, if_pos hD, if_pos hD]
                  clear hD HDR
                  go_wp2_with fail
                  go_ret
                  exact ⟨by rw [HR.out]; rfl, (HB0.out).trans (HB4.out.mono hxb0)⟩
              ·
                have hkn : brs.drop k = [] := List.drop_eq_nil_of_le (by rw [hB]; omega)
                have HA0 : Hid (BA = (0, met')) := by show _ = _; rw [← he.out, hkn]; rfl
                clear hkn he
                have HE3 : Hid (E = srcE ⟨nl, sws, brs, gens, loads, stores⟩ met') := by show _ = _; rw [HE2.out, HA0.out]; rfl
                clear HE2 HBA HA0
                have hm3 : met'.length ≤ 200 := by omega
                have HSC := Lib.hid (HSO2.out b met' wr (HRW.out.low HLB.out hbl.out) HLB.out hns.out hm3 z3 z4 z5)
                have x0 := hbx.out.cell 0 rfl
                have x1 := hbx.out.cell 1 rfl
                have x2 := hbx.out.cell 2 rfl
                have x3 := hbx.out.cell 3 rfl
                have x4 := hbx.out.cell 4 rfl
                have x5 := hbx.out.cell 5 rfl
                generalize srcE ⟨nl, sws, brs, gens, loads, stores⟩ met' = SE at *
                go_wp2_with fail
                refine HSC.out.mono ?_; rintro e w4 ⟨rfl, hb4⟩
                have HB4 := Lib.hid (hbl.out.trans hb4)
                clear x0 x1 x2 x3 x4 x5 hb4
                go_wp2_with fail
                go_ret
                exact ⟨by rw [HE3.out]; rfl, (HB0.out).trans (HB4.out.mono hxb0)⟩
  · subst hz
    have HR : Hid (E = 2) := HE2.out
    go_wp2_with fail
    go_ret
    exact ⟨by rw [HR.out]; rfl, HB0.out⟩
end Go.Proofs.Ythcddboeejbncaa
