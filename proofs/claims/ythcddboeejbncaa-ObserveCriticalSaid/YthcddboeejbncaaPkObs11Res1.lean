/- The fixed example of observability. restore.more. -/
import Derived.Test.YthcddboeejbncaaPkObs9Smi
import Derived.Test.YthcddboeejbncaaPzObs10
import Derived.Test.YthcddboeejbncaaPkNetOApp
import Derived.Deep.AppendLies
import Derived.Deep.RegionHeldLaw
namespace Go.Proofs.Ythcddboeejbncaa
open Go.RowKit

def t0 : ByteArray := ⟨#[48]⟩
def t1 : ByteArray := ⟨#[49]⟩
def exO : List MIt := [⟨0, tL, t0, 1⟩, ⟨0, tM, t0, 1⟩, ⟨0, tL, t1, 1⟩]
theorem exO_met : metE pairN exO = 0 := by decide +kernel
theorem exO_met1 : metE pairN (exO.take 1) = 0 := by decide +kernel
theorem exO_free : (freeE pairN).length = 2 := by decide +kernel
theorem exO_rank : rankE pairN exO = 2 := by decide +kernel
theorem exO_crit : critE pairN exO = [1] := by decide +kernel
theorem exO_area : areaE pairN (exO.take 1) = [0, 0, 1] := by decide +kernel
theorem exO_obs : obsB pairN exO = true := by decide +kernel
theorem exO_wf : ∀ m ∈ exO, m.Wf := by
  intro m hm
  simp only [exO, List.mem_cons, List.mem_nil_iff, or_false] at hm
  rcases hm with rfl | rfl | rfl <;> (unfold MIt.Wf; decide)
set_option maxRecDepth 100000 in
set_option maxHeartbeats 8000000 in
theorem observeWorks_c (w : World) : Calls Try.prog 9 #[] w fun e w' => e = .returned (.bool true) ∧ Below w.heap.size w w' := by
  have HIN : Hid (∀ W x0 b, NetR W x0 pairN → Blk W b (flat MIt.cells exO).toArray 33 → MetIn W x0 pairN (.slice (some ⟨b, 0, none⟩) 3 3) exO) := fun W x0 b h k => ⟨h, pairN_wf, reads_blk2 k (by decide), exO_wf, by decide⟩
  have HI1 : Hid (∀ W x0 b, NetR W x0 pairN → Blk W b (flat MIt.cells exO).toArray 33 → MetIn W x0 pairN (.slice (some ⟨b, 0, none⟩) 1 3) (exO.take 1)) := fun W x0 b h k => ⟨h, pairN_wf, Or.inr ⟨b, 0, 3, rfl, by decide, by decide, k.lt, fun j u hj => by
    rw [Nat.zero_add]
    refine k.cell j ?_
    rw [List.getElem?_toArray]
    have hjl : j < 4 := (List.getElem?_eq_some_iff.1 hj).1
    have e : flat MIt.cells exO = flat MIt.cells (exO.take 1) ++ flat MIt.cells (exO.drop 1) := by rfl
    rw [e, List.getElem?_append_left hjl]; exact hj⟩, fun m hm => exO_wf m (List.mem_of_mem_take hm), by decide⟩
  have HRK := Lib.hid (fun W x0 b (h : NetR W x0 pairN) (k : Blk W b (flat MIt.cells exO).toArray 33) => obsRank_ok x0 pairN (.slice (some ⟨b, 0, none⟩) 3 3) exO W (HIN.out W x0 b h k) (by decide) exO_met)
  rw [exO_rank, exO_free] at HRK
  have HCR : Hid (∀ W x0 b, NetR W x0 pairN → Blk W b (flat MIt.cells exO).toArray 33 → Calls Try.prog 13 #[x0.val pairN, .slice (some ⟨b, 0, none⟩) 3 3] W fun e w' => (∃ v, e = .returned (.tuple #[v, .int .i64 0]) ∧ IVal w' v [1]) ∧ Below W.heap.size W w') := fun W x0 b h k => (critical_c x0 pairN _ exO W (HIN.out W x0 b h k) (by decide)).mono fun e w' ⟨v, h1, h2, h3⟩ => by
    rw [exO_met] at h1; rw [if_pos exO_met, exO_crit] at h2
    exact ⟨⟨v, h1, h2⟩, h3⟩
  have HAR : Hid (∀ W x0 b, NetR W x0 pairN → Blk W b (flat MIt.cells exO).toArray 33 → Calls Try.prog 15 #[x0.val pairN, .slice (some ⟨b, 0, none⟩) 1 3] W fun e w' => (∃ v, e = .returned (.tuple #[v, .int .i64 0]) ∧ IVal w' v [0, 0, 1]) ∧ Below W.heap.size W w') := fun W x0 b h k => (areas_c x0 pairN _ (exO.take 1) W (HI1.out W x0 b h k) (by decide)).mono fun e w' ⟨v, h1, h2, h3⟩ => by
    rw [exO_met1] at h1; rw [if_pos exO_met1, exO_area] at h2
    exact ⟨⟨v, h1, h2⟩, h3⟩
  have HOB : Hid (∀ W x0 b, NetR W x0 pairN → Blk W b (flat MIt.cells exO).toArray 33 → Calls Try.prog 17 #[x0.val pairN, .slice (some ⟨b, 0, none⟩) 3 3] W fun e w' => e = .returned (.tuple #[.bool true, .int .i64 0]) ∧ Below W.heap.size W w') := fun W x0 b h k => (observable_c x0 pairN _ exO W (HIN.out W x0 b h k) (by decide)).mono fun e w' ⟨h1, h2⟩ => by
    rw [exO_met, exO_obs] at h1
    exact ⟨h1, h2⟩
  go_enter Try.func9, Try.ntmps9
  go_wp2_with fail
  refine (flowMeter_c ⟨#[76]⟩ ⟨#[48]⟩ w).mono ?_; rintro e w1 ⟨rfl, hb1⟩
  go_wp2_with fail
  refine (flowMeter_c ⟨#[77]⟩ ⟨#[48]⟩ w1).mono ?_; rintro e w2 ⟨rfl, hb2⟩
  go_wp2_with fail
  refine (flowMeter_c ⟨#[76]⟩ ⟨#[49]⟩ w2).mono ?_; rintro e w3 ⟨rfl, hb3⟩
  have B3 := Lib.hid (belowT (belowT hb1 hb2) hb3)
  have B4 := Lib.hid (belowA B3.out (.cells (flat MIt.cells exO).toArray 33))
  have K4 := Lib.hid (Blk.new w3 (flat MIt.cells exO).toArray 33)
  clear hb1 hb2 hb3 B3
  go_upto_region 2 with fail
  change Code.wp _ _ _ _ (w3.alloc (.cells (flat MIt.cells exO).toArray 33))
  generalize w3.alloc (.cells (flat MIt.cells exO).toArray 33) = w4 at *
  generalize w3.heap.size = lb at *
  go_wp2_with fail
  refine (pairNet_c w4).mono ?_; rintro e w5 ⟨x5, rfl, hn5, hb5⟩
  have B5 := Lib.hid (belowT B4.out hb5)
  have K5 := Lib.hid (below_blk hb5 K4.out K4.out.lt)
  have HX := Lib.hid (HRK.out w5 x5 lb hn5 K5.out)
  clear hn5 hb5 B4 K4 HRK
  go_wp2_with fail
  refine HX.out.mono ?_; rintro e w6 ⟨rfl, hb6⟩
  have B6 := Lib.hid (belowT B5.out hb6)
  have K6 := Lib.hid (below_blk hb6 K5.out K5.out.lt)
  clear hb6 B5 K5 HX
  go_wp2_with fail
  refine (pairNet_c w6).mono ?_; rintro e w7 ⟨x7, rfl, hn7, hb7⟩
  have B7 := Lib.hid (belowT B6.out hb7)
  have K7 := Lib.hid (below_blk hb7 K6.out K6.out.lt)
  have HX := Lib.hid (HCR.out w7 x7 lb hn7 K7.out)
  clear hn7 hb7 B6 K6 HCR
  go_wp2_with fail
  refine HX.out.mono ?_; rintro e w8 ⟨⟨cv, rfl, hcv⟩, hb8⟩
  have B8 := Lib.hid (belowT B7.out hb8)
  have K8 := Lib.hid (below_blk hb8 K7.out K7.out.lt)
  obtain ⟨ca, cc, rfl⟩ := hcv.slice
  have HCV := Lib.hid hcv
  clear hb8 hcv B7 K7 HX
  go_upto_region 4 with fail
  have E0 := Lib.hid (below_drew0 w8.heap.size w8)
  have HPN := Lib.hid (pairNet_c w8.drew)
  go_region_held3 (fun _ => True) (trivial) (first
    | (go_simp; go_at_call 25; ((with_reducible refine HPN.out.mono ?_); rintro e w9 ⟨x9, rfl, hn9, hb9⟩; have E1 := Lib.hid (belowT E0.out hb9); have HX9 := Lib.hid (HAR.out w9 x9 lb hn9 (below_blk E1.out K8.out K8.out.lt)); clear hn9 hb9))
    | (go_simp; go_at_call 15; ((with_reducible refine HX9.out.mono ?_); rintro e w10 ⟨⟨av, rfl, hav⟩, hb10⟩; have HAV := Lib.hid hav; have E2 := Lib.hid (belowT E1.out hb10); clear hb10 hav)))
  all_goals
    obtain ⟨aa, ac, hae⟩ := HAV.out.slice
    subst hae
    have B10 := Lib.hid (belowT B8.out E2.out)
    have K10 := Lib.hid (below_blk E2.out K8.out K8.out.lt)
    have C10 := Lib.hid (HCV.out.below E2.out)
    clear E0 E1 E2 HX9 HPN HCV B8 K8 HAR
    go_simp
    go_wp2_with fail
    refine (pairNet_c w10).mono ?_; rintro e w11 ⟨x11, rfl, hn11, hb11⟩
    have B11 := Lib.hid (belowT B10.out hb11)
    have K11 := Lib.hid (below_blk hb11 K10.out K10.out.lt)
    have C11 := Lib.hid (C10.out.below hb11)
    have A11 := Lib.hid (HAV.out.below hb11)
    have HX := Lib.hid (HOB.out w11 x11 lb hn11 K11.out)
    clear hn11 hb11 B10 K10 C10 HAV HOB
    go_wp2_with fail
    refine HX.out.mono ?_; rintro e w12 ⟨rfl, hb12⟩
    have B12 := Lib.hid (belowT B11.out hb12)
    have C12 := Lib.hid (C11.out.below hb12)
    have A12 := Lib.hid (A11.out.below hb12)
    clear hb12 B11 K11 C11 A11 HX HIN HI1
    have hsi : ∀ (l : List Int) (v : Value) (W : World) (b : Nat), IVal W v l → Blk W b (ints l).toArray 3 → l.length ≤ 1000 → Calls Try.prog 26 #[v, .slice (some ⟨b, 0, none⟩) l.length l.length] W fun e w' => e = .returned (.bool true) ∧ Below W.heap.size W w' := fun l v W b hv hb hl => (sameInts_c v _ l l W hv (ival_blk hb hl)).mono fun e w' ⟨h1, h2⟩ => ⟨by rw [h1, decide_eq_true rfl], h2⟩
    have HSI := Lib.hid hsi
    have A13 := belowA (Below.refl w12.heap.size w12) (.cells #[.int .i64 1] 3)
    have HS1 := Lib.hid (hsi [1] _ _ w12.heap.size (C12.out.below A13) (Blk.new w12 #[.int .i64 1] 3) (by decide))
    have B13 := Lib.hid (belowT B12.out A13)
    have D13 := Lib.hid (A12.out.below A13)
    clear hsi A13 B12 C12 A12
    go_wp2_with fail
    refine HS1.out.mono ?_; rintro e w13 ⟨rfl, hb13⟩
    have A14 := belowA (Below.refl w13.heap.size w13) (.cells #[.int .i64 0, .int .i64 0, .int .i64 1] 3)
    have B14 := Lib.hid (belowT (belowT B13.out hb13) A14)
    have HS2 := Lib.hid (HSI.out [0, 0, 1] _ _ w13.heap.size ((D13.out.below hb13).below A14) (Blk.new w13 #[.int .i64 0, .int .i64 0, .int .i64 1] 3) (by decide))
    clear A14 hb13 HS1 B13 D13 HSI
    go_wp2_with fail
    refine HS2.out.mono ?_; rintro e w14 ⟨rfl, hb14⟩
    have B15 := Lib.hid (belowT B14.out hb14)
    clear hb14 HS2 B14
    go_wp2_with fail
    go_ret
    exact ⟨rfl, B15.out⟩
end Go.Proofs.Ythcddboeejbncaa
namespace Go.Proofs.Ythcddboeejbncaa
open Go.RowKit

/-- An own list of meters. -/
def OwnM (base : Nat) (W : World) (v : Value) (l : List MIt) : Prop := W.ownsRow base 33 4 v l.length (flat MIt.cells l)
theorem OwnM.below {base : Nat} {W W' : World} {v : Value} {l : List MIt} (h : OwnM base W v l) (k : Below W.heap.size W W') : OwnM base W' v l := ownsRow_below h k
theorem OwnM.reads {base : Nat} {W : World} {v : Value} {l : List MIt} (h : OwnM base W v l) (hl : l.length ≤ 10000) : Reads W v l.length (flat MIt.cells l) := Reads.of_owns h (by omega)
theorem mit_one (l : List MIt) : ∀ u ∈ flat MIt.cells l, u.oneCell' = true := by
  intro u hu
  unfold flat at hu
  obtain ⟨x, _, hx⟩ := List.mem_flatMap.1 hu
  simp only [MIt.cells, List.mem_cons, List.mem_nil_iff, or_false] at hx
  rcases hx with rfl | rfl | rfl | rfl <;> rfl
theorem mit_flat_len (l : List MIt) : (flat MIt.cells l).length = l.length * 4 := flat_len (sz := 4) (fun _ => rfl) l
theorem OwnM.app {base : Nat} {W : World} {v : Value} {l : List MIt} {x : MIt} {xb : Nat} (h : OwnM base W v l) (hb : base ≤ W.heap.size) (hx : Blk W xb #[.int .i64 x.kind, .string x.name, .string x.value, .int .i64 x.weight] 33) (hl : l.length ≤ 100000) :
    ∃ v' W', (∀ ty, (Builtin.append_ #[30, 30] ty #[v, .slice (some ⟨xb, 0, none⟩) 1 1]).run Try.prog W = .ok v' W') ∧ OwnM base W' v' (l ++ [x]) ∧ Below base W W' := by
  obtain ⟨i0, hi0, hz0, hz1, hz2⟩ := info_parts infoM
  obtain ⟨v', W', a1, a2, a3, _⟩ := own_app Try.underlying30 hi0 hz0 hz1 hz2 rfl (by decide) h hb (news := x.cells) hx rfl (fun u hu => mit_one [x] u (by unfold flat; simpa using hu)) hl (by decide)
  refine ⟨v', W', a1, ?_, a3⟩
  unfold OwnM
  rw [List.length_append, show flat MIt.cells (l ++ [x]) = flat MIt.cells l ++ x.cells by simp [flat]]
  exact a2
theorem cloneMI_c (v : Value) (l : List MIt) (W : World) (h : Reads W v l.length (flat MIt.cells l)) (hl : l.length ≤ 10000) :
    Calls Try.prog 37 #[v] W fun e w' => (∃ u, e = .returned u ∧ OwnM W.heap.size w' u l) ∧ Below W.heap.size W w' := by
  refine (cloneM_c v l.length _ W h (mit_flat_len l) (mit_one l) (by omega)).mono ?_
  rintro e w' ⟨u, rfl, ho, _, hb⟩
  exact ⟨⟨u, rfl, ho⟩, hb⟩
/-- Does a meter increase the rank? -/
def moreB (n : Net) (own : List MIt) (m : MIt) : Bool := decide (rankE n own < rankE n (own ++ [m]))
def moreL (n : Net) (own : List MIt) (m : MIt) : List MIt := if moreB n own m = true then own ++ [m] else own
/-- A list of meters in an own row, wherever that began. -/
def OwnS (W : World) (v : Value) (l : List MIt) : Prop := ∃ base, OwnM base W v l
theorem OwnS.below {W W' : World} {v : Value} {l : List MIt} (h : OwnS W v l) (k : Below W.heap.size W W') : OwnS W' v l := h.imp fun _ h => h.below k
theorem OwnS.reads {W : World} {v : Value} {l : List MIt} (h : OwnS W v l) (hl : l.length ≤ 10000) : Reads W v l.length (flat MIt.cells l) := by
  obtain ⟨_, h⟩ := h
  exact h.reads hl
theorem OwnS.nil (W : World) : OwnS W (.slice none 0 0) [] := ⟨0, rfl, Or.inl ⟨rfl, rfl⟩⟩
theorem OwnS.slice {W : World} {v : Value} {l : List MIt} (h : OwnS W v l) : ∃ a c, v = .slice a l.length c := by
  obtain ⟨_, h⟩ := h
  exact row_slice h
def MoreP (n : Net) (own : List MIt) (m : MIt) (w : World) (e : Ending) (w' : World) : Prop := ∃ v, e = .returned (.tuple #[.bool (moreB n own m), v]) ∧ OwnS w' v (moreL n own m) ∧ Below w.heap.size w w'
set_option maxRecDepth 100000 in
set_option maxHeartbeats 8000000 in
theorem more_c (x0 : NAddr) (n : Net) (ov : Value) (own : List MIt) (m : MIt) (w : World) (hin : MetIn w x0 n ov own) (hn : n.nodes.length ≤ 8) (h0 : metE n (own ++ [m]) = 0) (hm : m.Wf) (ho : OwnS w ov own) :
    Calls Try.prog 38 #[x0.val n, ov, .agg #[.int .i64 m.kind, .string m.name, .string m.value, .int .i64 m.weight]] w (MoreP n own m w) := by
  have h64 : own.length ≤ 63 := by have := (metE_zero.1 h0).2.1; simp at this; omega
  have h1 : metE n own = 0 := metE_zero.2 ⟨(metE_zero.1 h0).1, by omega, fun x hx => (metE_zero.1 h0).2.2 x (List.mem_append_left _ hx)⟩
  have HR1 := Lib.hid (fun W (hW : Below w.heap.size w W) => obsRank_ok x0 n ov own W (hin.below hW) hn h1)
  have HR2 := Lib.hid (fun v W (hW : Below w.heap.size w W) (hr : Reads W v (own ++ [m]).length (flat MIt.cells (own ++ [m]))) => obsRank_ok x0 n v (own ++ [m]) W ⟨hin.net.below hW, hin.wf, hr, fun x hx => by
    rcases List.mem_append.1 hx with h | h
    · exact hin.mwf x h
    · rw [List.mem_singleton] at h; subst h; exact hm, by simp; omega⟩ hn h0)
  have HCL := Lib.hid (fun W (hW : Below w.heap.size w W) => cloneMI_c ov own W (hin.rd.below hW) (by omega))
  have HP1 : Hid (∀ w' v, rankE n own < rankE n (own ++ [m]) → Hid (OwnS w' v (own ++ [m])) → Below w.heap.size w w' → MoreP n own m w (.returned (.tuple #[.bool true, v])) w') := fun w' v h hr hb => by
    have hb1 : moreB n own m = true := by unfold moreB; exact decide_eq_true h
    have hl1 : moreL n own m = own ++ [m] := by unfold moreL; rw [if_pos hb1]
    exact ⟨v, by rw [hb1], by rw [hl1]; exact hr.out, hb⟩
  have HP0 : Hid (∀ w', ¬ rankE n own < rankE n (own ++ [m]) → Below w.heap.size w w' → MoreP n own m w (.returned (.tuple #[.bool false, ov])) w') := fun w' h hb => by
    have hb1 : moreB n own m = false := by unfold moreB; exact decide_eq_false h
    have hl1 : moreL n own m = own := by unfold moreL; rw [hb1]; rfl
    exact ⟨ov, by rw [hb1], by rw [hl1]; exact ho.below hb, hb⟩
  generalize MoreP n own m w = MP at *
  generalize rankE n own = R1 at *
  generalize rankE n (own ++ [m]) = R2 at *
  have HAR := Lib.hid (fun W v (h : OwnS W v (own ++ [m])) => h.reads (by simp; omega))
  obtain ⟨oa, oc, rfl⟩ := hin.rd.slice
  obtain ⟨N, hN⟩ : ∃ N, own.length = N := ⟨_, rfl⟩
  have HN := Lib.hid hN
  rw [hN] at HR1 HCL HP0 h64 ⊢
  obtain ⟨na, nc, sa, sc, ba, bc, ga, gc, la, lc, ta, tc⟩ := x0
  simp only [NAddr.val] at HR1 HR2 ⊢
  have B1 := Lib.hid (belowA (belowA (Below.refl w.heap.size w) (.cells #[.slice na n.nodes.length nc, .slice sa n.sws.length sc, .slice ba n.brs.length bc, .slice ga n.gens.length gc, .slice la n.loads.length lc, .slice ta n.stores.length tc] 29)) (.cells #[.int .i64 m.kind, .string m.name, .string m.value, .int .i64 m.weight] 33))
  have K1 := Lib.hid ((Blk.new w #[.slice na n.nodes.length nc, .slice sa n.sws.length sc, .slice ba n.brs.length bc, .slice ga n.gens.length gc, .slice la n.loads.length lc, .slice ta n.stores.length tc] 29).alloc (.cells #[.int .i64 m.kind, .string m.name, .string m.value, .int .i64 m.weight] 33))
  have M1 := Lib.hid (Blk.new2 w (.cells #[.slice na n.nodes.length nc, .slice sa n.sws.length sc, .slice ba n.brs.length bc, .slice ga n.gens.length gc, .slice la n.loads.length lc, .slice ta n.stores.length tc] 29) #[.int .i64 m.kind, .string m.name, .string m.value, .int .i64 m.weight] 33)
  generalize n.nodes.length = nn at *
  generalize n.sws.length = sn at *
  generalize n.brs.length = bn at *
  generalize n.gens.length = gn at *
  generalize n.loads.length = lon at *
  generalize n.stores.length = tn at *
  clear hin hN h0 h1 hm hn ho
  go_enter Try.func38, Try.ntmps38
  go_upto_region 1 with fail
  generalize hw1 : (w.alloc (.cells #[.slice na nn nc, .slice sa sn sc, .slice ba bn bc, .slice ga gn gc, .slice la lon lc, .slice ta tn tc] 29)).alloc (.cells #[.int .i64 m.kind, .string m.name, .string m.value, .int .i64 m.weight] 33) = w1 at *
  clear hw1
  obtain ⟨p, hp⟩ : ∃ p, w.heap.size = p := ⟨_, rfl⟩
  have HPP := Lib.hid hp
  rw [hp] at K1 M1 ⊢
  clear hp
  have HSC : Hid (∀ W, Below w1.heap.size w1 W → (W.cell? ⟨p + 1, 0, none⟩ = some (.int .i64 m.kind) ∧ W.cell? ⟨p + 1, 1, none⟩ = some (.string m.name) ∧ W.cell? ⟨p + 1, 2, none⟩ = some (.string m.value) ∧ W.cell? ⟨p + 1, 3, none⟩ = some (.int .i64 m.weight))) := fun W hW => by
    have k := below_blk hW M1.out M1.out.lt
    exact ⟨k.cell 0 rfl, k.cell 1 rfl, k.cell 2 rfl, k.cell 3 rfl⟩
  have E0 := Lib.hid (below_drew0 w1.heap.size w1)
  have EA := Lib.hid (below_drew (belowA (Below.refl w1.heap.size w1) (.cells #[.int .i64 m.kind, .string m.name, .string m.value, .int .i64 m.weight] 33)))
  have KA := Lib.hid (Blk.new w1 #[.int .i64 m.kind, .string m.name, .string m.value, .int .i64 m.weight] 33).drew
  have HC0 := Lib.hid (HCL.out _ (belowT B1.out E0.out))
  have HCA := Lib.hid (HCL.out _ (belowT B1.out EA.out))
  have HL := Lib.hid (show own.length ≤ 100000 by rw [HN.out]; omega)
  clear HCL
  have HD0 : Hid (Calls Try.prog 37 #[.slice oa N oc] w1.drew (fun e w2 => ∃ ua uc va vc W7, e = .returned (.slice ua N uc) ∧ Hid (∀ ty, (Builtin.append_ #[30, 30] ty #[.slice ua N uc, .slice (some ⟨w2.heap.size, 0, none⟩) 1 1]).run Try.prog (w2.alloc (.cells #[.int .i64 m.kind, .string m.name, .string m.value, .int .i64 m.weight] 33)) = .ok (.slice va (N + 1) vc) W7) ∧ Hid (OwnS W7 (.slice va (N + 1) vc) (own ++ [m])) ∧ Hid (Below w1.heap.size w1 W7) ∧ Hid (Below w1.heap.size w1 w2))) := HC0.out.mono (by
    rintro e w2 ⟨⟨u, rfl, hu⟩, hb2⟩
    have E1 := belowT E0.out hb2
    obtain ⟨v7, W7, hr7, ho7, hb7⟩ := (hu.below (belowA (Below.refl _ _) (.cells #[.int .i64 m.kind, .string m.name, .string m.value, .int .i64 m.weight] 33))).app (x := m) (belowA hb2 _).size (Blk.new w2 _ _) HL.out
    obtain ⟨ua, uc, rfl⟩ := row_slice hu
    obtain ⟨va, vc, rfl⟩ := row_slice ho7
    have hO : OwnS W7 (.slice va (own ++ [m]).length vc) (own ++ [m]) := ⟨_, ho7⟩
    have e1 : (own ++ [m]).length = N + 1 := by simp [HN.out]
    have e2 : Value.slice va (own ++ [m]).length vc = .slice va (N + 1) vc := by rw [e1]
    rw [e2] at hr7 hO
    rw [HN.out] at hr7 ⊢
    exact ⟨ua, uc, va, vc, W7, rfl, hr7, hO, (belowA E1 (.cells #[.int .i64 m.kind, .string m.name, .string m.value, .int .i64 m.weight] 33)).trans (hb7.mono E0.out.size), E1⟩)
  have HDA : Hid (Calls Try.prog 37 #[.slice oa N oc] (w1.alloc (.cells #[.int .i64 m.kind, .string m.name, .string m.value, .int .i64 m.weight] 33)).drew (fun e w2 => ∃ ua uc va vc W7, e = .returned (.slice ua N uc) ∧ Hid (∀ ty, (Builtin.append_ #[30, 30] ty #[.slice ua N uc, .slice (some ⟨w1.heap.size, 0, none⟩) 1 1]).run Try.prog w2 = .ok (.slice va (N + 1) vc) W7) ∧ Hid (OwnS W7 (.slice va (N + 1) vc) (own ++ [m])) ∧ Hid (Below w1.heap.size w1 W7) ∧ Hid (Below w1.heap.size w1 w2))) := HCA.out.mono (by
    rintro e w2 ⟨⟨u, rfl, hu⟩, hb2⟩
    have E1 := belowT EA.out hb2
    obtain ⟨v7, W7, hr7, ho7, hb7⟩ := hu.app (x := m) hb2.size (below_blk hb2 KA.out KA.out.lt) HL.out
    obtain ⟨ua, uc, rfl⟩ := row_slice hu
    obtain ⟨va, vc, rfl⟩ := row_slice ho7
    have hO : OwnS W7 (.slice va (own ++ [m]).length vc) (own ++ [m]) := ⟨_, ho7⟩
    have e1 : (own ++ [m]).length = N + 1 := by simp [HN.out]
    have e2 : Value.slice va (own ++ [m]).length vc = .slice va (N + 1) vc := by rw [e1]
    rw [e2] at hr7 hO
    rw [HN.out] at hr7 ⊢
    exact ⟨ua, uc, va, vc, W7, rfl, hr7, hO, E1.trans (hb7.mono EA.out.size), E1⟩)
  obtain ⟨x0, x1, x2, x3⟩ := HSC.out _ (Below.refl _ _)
  have xl := M1.out.lt
  clear HC0 HCA HL KA E0 EA
  go_region_law
    (first
      | (refine step_append_told rfl (.tmp 16) (.tmp 18) 30 rfl (.slice ua N uc) (.slice (some ⟨w2.heap.size, 0, none⟩) 1 1) rfl rfl (.slice va (N + 1) vc) W7 H7.out (by with_reducible rfl) ?_)
      | (refine step_append_told rfl (.tmp 16) (.tmp 18) 30 rfl (.slice ua N uc) (.slice (some ⟨w1.heap.size, 0, none⟩) 1 1) rfl rfl (.slice va (N + 1) vc) W7 H7.out (by with_reducible rfl) ?_)
      | (go_simp; go_at_call 37; ((with_reducible refine HD0.out.mono ?_); rintro e w2 ⟨ua, uc, va, vc, W7, rfl, H7, O7, E7, E1⟩; obtain ⟨y0, y1, y2, y3⟩ := HSC.out _ E1.out))
      | (go_simp; go_at_call 37; ((with_reducible refine HDA.out.mono ?_); rintro e w2 ⟨ua, uc, va, vc, W7, rfl, H7, O7, E7, E1⟩)))
  all_goals
    have K7 := Lib.hid (below_blk E7.out K1.out K1.out.lt)
    have B7 := Lib.hid (belowT B1.out E7.out)
    have HRA := Lib.hid (HR1.out _ B7.out)
    have z0 := K7.out.cell 0 rfl
    have z1 := K7.out.cell 1 rfl
    have z2 := K7.out.cell 2 rfl
    have z3 := K7.out.cell 3 rfl
    have z4 := K7.out.cell 4 rfl
    have z5 := K7.out.cell 5 rfl
    have zl := K7.out.lt
    clear E7 E1 H7 HD0 HDA HSC HR1 B1 K1 M1 x0 x1 x2 x3 xl
    (try clear y0 y1 y2 y3)
    go_simp
    go_wp2_with fail
    refine HRA.out.mono ?_; rintro e w8 ⟨rfl, hb8⟩
    have K8 := Lib.hid (below_blk hb8 K7.out K7.out.lt)
    have B8 := Lib.hid (belowT B7.out hb8)
    have O8 := Lib.hid (O7.out.below hb8)
    have HRB := Lib.hid (HR2.out _ _ B8.out (HAR.out _ _ O8.out))
    clear z0 z1 z2 z3 z4 z5 zl hb8 HRA K7 B7 O7 HR2 HAR
    have z0 := K8.out.cell 0 rfl
    have z1 := K8.out.cell 1 rfl
    have z2 := K8.out.cell 2 rfl
    have z3 := K8.out.cell 3 rfl
    have z4 := K8.out.cell 4 rfl
    have z5 := K8.out.cell 5 rfl
    have zl := K8.out.lt
    go_wp2_with fail
    refine HRB.out.mono ?_; rintro e w9 ⟨rfl, hb9⟩
    have B9 := Lib.hid (belowT B8.out hb9)
    have O9 := Lib.hid (O8.out.below hb9)
    clear z0 z1 z2 z3 z4 z5 zl hb9 HRB K8 B8 O8
    by_cases hr : R1 < R2
    · have HPX := Lib.hid (fun w' v => HP1.out w' v hr)
      clear HP0 HP1
      go_wp2_with fail
      exact HPX.out _ _ O9 B9.out
    · have HPX := Lib.hid (fun w' => HP0.out w' hr)
      clear HP0 HP1
      go_wp2_with fail
      exact HPX.out _ B9.out
end Go.Proofs.Ythcddboeejbncaa
