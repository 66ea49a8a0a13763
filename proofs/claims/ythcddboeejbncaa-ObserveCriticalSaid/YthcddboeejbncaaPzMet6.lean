/- meter: Form. -/
import Derived.Test.YthcddboeejbncaaPzMet5
namespace Go.Proofs.Ythcddboeejbncaa
open Go.RowKit

set_option maxRecDepth 100000 in
set_option maxHeartbeats 8000000 in
theorem form_c (x0 : NAddr) (n : Net) (tv : Value) (mi : MIt) (w : World) (hr : NetR w x0 n) (hok : netE n = 0) (ht : TopV w tv n) (hmi : itemE n mi = 0) :
    Calls Try.prog 48 #[x0.val n, tv, .agg #[.int .i64 mi.kind, .string mi.name, .string mi.value, .int .i64 mi.weight]] w fun e w' => (∃ v, e = .returned v ∧ LineV w' v (islandsE n).length (formE n mi)) ∧ Below w.heap.size w w' := by
  have hok1 := netE_ok hok
  have hkind : ¬ (mi.kind < 0 ∨ 2 < mi.kind) := by
    intro h; unfold itemE at hmi; rw [if_pos h] at hmi; cases hmi
  have hknown : knownB n mi = true := by
    unfold itemE at hmi
    rw [if_neg hkind] at hmi
    split at hmi
    · cases hmi
    · rename_i h; simpa using h
  have hm24 : (islandsE n).length ≤ 24 := by
    obtain ⟨m', hm', h24, _⟩ := cnt_buses hok1
    rw [islands_len hm']; exact h24
  have HBI := Lib.hid (fun s (h : hasS s n.nodes = true) => bus_info hok1 h)
  have HBR := Lib.hid hok1.br
  have hnb := hok1.nb
  have hnn := hok1.nn
  have HSTEP := Lib.hid (fun (x : NBr) (a : Int) (s : Nat) (L : LineQ) (h : SzL (islandsE n).length s L) (hx : x ∈ n.brs) => h.step (a := a) hok hx)
  have HSF := Lib.hid (fun (x : NBr) (sg : Int) (s : Nat) (L : LineQ) (h : SzL (islandsE n).length s L) (hx : x ∈ n.brs) (hs : sg = 1 ∨ sg = -1) => h.flow (sg := sg) hok hx hs)
  have HFL := Lib.hid (fun (f g k : Nat) (sg : Int) (br : NBr) (L : LineQ) (s : Nat) W (hW : Below w.heap.size w W) (hl : LF W f g (islandsE n).length L.1 L.2) (hk : n.brs[k]? = some br) (hs : sg = 1 ∨ sg = -1) (hz : SzL (islandsE n).length s L) (hsz : s ≤ 1000000) => by
    obtain ⟨hfr, hto, _⟩ := hok1.br br (List.mem_of_getElem? hk)
    obtain ⟨j1, i1, _, _, h1, hl1, _⟩ := bus_info hok1 hfr
    obtain ⟨j2, i2, _, _, h2, hl2, _⟩ := bus_info hok1 hto
    have h := flow_c f g (islandsE n).length k sg x0 n br tv L.1 L.2 i1 i2 s W (hr.below hW) hok (ht.below hW) hl hk hs h1 h2 hl1 hl2 (by omega) hz.1 hz.2 hsz
    have e : flowL n br sg L = (flowC (yQ br sg) i1 i2 L.1, flowD (yQ br sg) br.sh L.2) := by unfold flowL; rw [h1, h2]; rfl
    rw [show flowC (yQ br sg) i1 i2 L.1 = (flowL n br sg L).1 by rw [e], show flowD (yQ br sg) br.sh L.2 = (flowL n br sg L).2 by rw [e]] at h
    exact h)
  have HMB := Lib.hid (fun W (hW : Below w.heap.size w W) => mbr_c x0 n mi.name W (hr.below hW))
  have HBA := Lib.hid (brAt_range n mi.name)
  have HBO := Lib.hid (fun (k : Nat) (x : NBr) => @brOf_eq n mi.name k x)
  have HSZ := Lib.hid hr.brs
  obtain ⟨bua, buc, isa, isc, rfl, hbus, hisl⟩ := ht
  have HIX : Hid (∀ (s : ByteArray) (j : Nat) W, idxS s n.nodes 0 = j → Below w.heap.size w W → Calls Try.prog 62 #[.slice x0.na n.nodes.length x0.nc, .string s] W fun e w' => e = .returned (.int .i64 j) ∧ w' = W) := fun s j W hj hW => by
    rw [← hj]
    exact (index_c _ n.nodes s W (hr.nodes.below hW)).mono fun e w' h => ⟨h.1, h.2.symm⟩
  have HFE : Hid (formE n mi = if mi.kind = 0 then flowL n (brOf n mi.name) 1 zeroL else if mi.kind = 2 then (setR (fun _ => 0) (busAt n mi.name).toNat 1, 0) else injF n (busAt n mi.name) n.brs zeroL) := rfl
  have HKB : Hid (knownB n mi = if mi.kind = 0 then decide (0 ≤ brAt n mi.name) else hasS mi.name n.nodes) := rfl
  have HKT := Lib.hid hknown
  have HBUS := Lib.hid hbus
  obtain ⟨kd, nm, vl, wt⟩ := mi
  obtain ⟨na, nc, sa, sc, ba, bc, ga, gc, la, lc, ta, tc⟩ := x0
  simp only [NAddr.val] at HIX HFL HMB HKB HFE HBA HBO HSZ hkind ⊢
  generalize formE n ⟨kd, nm, vl, wt⟩ = FE at *
  generalize n.nodes.length = nn at *
  generalize n.sws.length = sn at *
  obtain ⟨bn, hbn⟩ : ∃ b, n.brs.length = b := ⟨_, rfl⟩
  have HBN := Lib.hid hbn
  rw [hbn] at HFL HMB HSZ hnb ⊢
  generalize n.gens.length = gn at *
  generalize n.loads.length = lon at *
  generalize n.stores.length = tn at *
  have HIL : Hid ((islandsE n).length = (islandsE n).length) := rfl
  generalize (islandsE n).length = m at *
  have HB4 := Lib.hid (belowA (belowA (belowA (belowA (Below.refl w.heap.size w) (.cells #[.slice na nn nc, .slice sa sn sc, .slice ba bn bc, .slice ga gn gc, .slice la lon lc, .slice ta tn tc] 29)) (.cells #[.slice bua nn buc, .slice isa m isc] 47)) (.cells #[.int .i64 kd, .string nm, .string vl, .int .i64 wt] 33)) (.cells #[.slice none 0 0, .bool false, .slice none 0 0, .slice none 0 0] 99))
  have KN4 := Lib.hid ((((Blk.new w #[.slice na nn nc, .slice sa sn sc, .slice ba bn bc, .slice ga gn gc, .slice la lon lc, .slice ta tn tc] 29).alloc (.cells #[.slice bua nn buc, .slice isa m isc] 47)).alloc (.cells #[.int .i64 kd, .string nm, .string vl, .int .i64 wt] 33)).alloc (.cells #[.slice none 0 0, .bool false, .slice none 0 0, .slice none 0 0] 99))
  have KT4 := Lib.hid (((Blk.new2 w (.cells #[.slice na nn nc, .slice sa sn sc, .slice ba bn bc, .slice ga gn gc, .slice la lon lc, .slice ta tn tc] 29) #[.slice bua nn buc, .slice isa m isc] 47).alloc (.cells #[.int .i64 kd, .string nm, .string vl, .int .i64 wt] 33)).alloc (.cells #[.slice none 0 0, .bool false, .slice none 0 0, .slice none 0 0] 99))
  have KI4 := Lib.hid ((Blk.new ((w.alloc (.cells #[.slice na nn nc, .slice sa sn sc, .slice ba bn bc, .slice ga gn gc, .slice la lon lc, .slice ta tn tc] 29)).alloc (.cells #[.slice bua nn buc, .slice isa m isc] 47)) #[.int .i64 kd, .string nm, .string vl, .int .i64 wt] 33).alloc (.cells #[.slice none 0 0, .bool false, .slice none 0 0, .slice none 0 0] 99))
  have KR4 := Lib.hid (Blk.new (((w.alloc (.cells #[.slice na nn nc, .slice sa sn sc, .slice ba bn bc, .slice ga gn gc, .slice la lon lc, .slice ta tn tc] 29)).alloc (.cells #[.slice bua nn buc, .slice isa m isc] 47)).alloc (.cells #[.int .i64 kd, .string nm, .string vl, .int .i64 wt] 33)) #[.slice none 0 0, .bool false, .slice none 0 0, .slice none 0 0] 99)
  simp only [World.size_alloc] at KI4 KR4
  have hmk := make_qs m (by omega)
  go_enter Try.func48, Try.ntmps48
  go_upto_region 1 with fail
  generalize (((w.alloc (.cells #[.slice na nn nc, .slice sa sn sc, .slice ba bn bc, .slice ga gn gc, .slice la lon lc, .slice ta tn tc] 29)).alloc (.cells #[.slice bua nn buc, .slice isa m isc] 47)).alloc (.cells #[.int .i64 kd, .string nm, .string vl, .int .i64 wt] 33)).alloc (.cells #[.slice none 0 0, .bool false, .slice none 0 0, .slice none 0 0] 99) = w4 at *
  obtain ⟨p, hp⟩ : ∃ p, w.heap.size = p := ⟨_, rfl⟩
  have HP := Lib.hid hp
  rw [hp] at KN4 KT4 KI4 KR4 ⊢
  clear hp hr hok hok1 hmi hknown hbus hisl hbn
  have x0 := KT4.out.cell 0 rfl
  have x1 := KT4.out.cell 1 rfl
  have hlt := KT4.out.lt
  go_wp2_with fail
  refine (buses_len_c _ _ _ _ _ _ w4).mono ?_; rintro e w5 ⟨rfl, hb5⟩
  have HB5 := Lib.hid (belowT HB4.out hb5)
  have KN5 := Lib.hid (below_blk hb5 KN4.out KN4.out.lt)
  have KT5 := Lib.hid (below_blk hb5 KT4.out KT4.out.lt)
  have KI5 := Lib.hid (below_blk hb5 KI4.out KI4.out.lt)
  have KR5 := Lib.hid (below_blk hb5 KR4.out KR4.out.lt)
  clear hb5 HB4 KN4 KT4 KI4 KR4 x0 x1 hlt
  have LFX : Hid (LF ((w5.alloc (.cells (madeCells #[.bool false, .slice none 0 0, .slice none 0 0] (m * 3)) 80)).alloc (.cells #[.slice (some ⟨w5.heap.size, 0, none⟩) m m, .bool false, .slice none 0 0, .slice none 0 0] 99)) (w5.heap.size + 1) w5.heap.size m zeroL.1 zeroL.2) :=
    ⟨⟨_, _, _, Blk.new2 _ _ _ _, QC.zero _⟩, (RowM.zero w5 m).below (belowA (Below.refl _ _) _), by omega⟩
  have HB6 := Lib.hid (belowA (belowA HB5.out (.cells (madeCells #[.bool false, .slice none 0 0, .slice none 0 0] (m * 3)) 80)) (.cells #[.slice (some ⟨w5.heap.size, 0, none⟩) m m, .bool false, .slice none 0 0, .slice none 0 0] 99))
  have KN6 := Lib.hid ((KN5.out.alloc (.cells (madeCells #[.bool false, .slice none 0 0, .slice none 0 0] (m * 3)) 80)).alloc (.cells #[.slice (some ⟨w5.heap.size, 0, none⟩) m m, .bool false, .slice none 0 0, .slice none 0 0] 99))
  have KT6 := Lib.hid ((KT5.out.alloc (.cells (madeCells #[.bool false, .slice none 0 0, .slice none 0 0] (m * 3)) 80)).alloc (.cells #[.slice (some ⟨w5.heap.size, 0, none⟩) m m, .bool false, .slice none 0 0, .slice none 0 0] 99))
  have KI6 := Lib.hid ((KI5.out.alloc (.cells (madeCells #[.bool false, .slice none 0 0, .slice none 0 0] (m * 3)) 80)).alloc (.cells #[.slice (some ⟨w5.heap.size, 0, none⟩) m m, .bool false, .slice none 0 0, .slice none 0 0] 99))
  have KR6 := Lib.hid ((KR5.out.alloc (.cells (madeCells #[.bool false, .slice none 0 0, .slice none 0 0] (m * 3)) 80)).alloc (.cells #[.slice (some ⟨w5.heap.size, 0, none⟩) m m, .bool false, .slice none 0 0, .slice none 0 0] 99))
  have HGE : Hid (p + 1 + 1 + 1 < w5.heap.size) := KR5.out.lt
  go_upto_region 2 with fail
  generalize (w5.alloc (.cells (madeCells #[.bool false, .slice none 0 0, .slice none 0 0] (m * 3)) 80)).alloc (.cells #[.slice (some ⟨w5.heap.size, 0, none⟩) m m, .bool false, .slice none 0 0, .slice none 0 0] 99) = w6 at *
  obtain ⟨g, hg⟩ : ∃ g, w5.heap.size = g := ⟨_, rfl⟩
  rw [hg] at LFX HGE ⊢
  clear hg HB5 KN5 KT5 KI5 KR5 hmk
  have i0 := KI6.out.cell 0 rfl
  have hil := KI6.out.lt
  by_cases hk0 : kd = 0
  · subst hk0
    have HF0 := Lib.hid (HFE.out.trans (if_pos rfl))
    have hk1 : 0 ≤ brAt n nm := by
      have h := HKT.out
      rw [HKB.out, if_pos rfl] at h
      exact of_decide_eq_true h
    clear HFE HKB HKT
    obtain ⟨k, x, hbk, hx⟩ : ∃ (k : Nat) (x : NBr), brAt n nm = k ∧ n.brs[k]? = some x := by
      rcases HBA.out with h | ⟨k, x, h1, h2, _⟩
      · omega
      · exact ⟨k, x, h1, h2⟩
    have HFE2 : Hid (FE = flowL n x 1 zeroL) := by show _ = _; rw [HF0.out, HBO.out k x hbk hx]
    have HFX := Lib.hid (fun W (hW : Below w.heap.size w W) (hl : LF W (g + 1) g m zeroL.1 zeroL.2) => HFL.out (g + 1) g k 1 x zeroL 1 W hW hl hx (Or.inl rfl) (SzL.zero m) (by omega))
    rw [hbk] at HMB
    have E0 := Lib.hid (below_drew0 w6.heap.size w6)
    have HSC : Hid (∀ W, Below w6.heap.size w6 W → (W.cell? ⟨p, 0, none⟩ = some (.slice na nn nc) ∧ W.cell? ⟨p, 1, none⟩ = some (.slice sa sn sc) ∧ W.cell? ⟨p, 2, none⟩ = some (.slice ba bn bc) ∧ W.cell? ⟨p, 3, none⟩ = some (.slice ga gn gc) ∧ W.cell? ⟨p, 4, none⟩ = some (.slice la lon lc) ∧ W.cell? ⟨p, 5, none⟩ = some (.slice ta tn tc) ∧ W.cell? ⟨p + 1, 0, none⟩ = some (.slice bua nn buc) ∧ W.cell? ⟨p + 1, 1, none⟩ = some (.slice isa m isc) ∧ W.cell? ⟨p + 1 + 1, 1, none⟩ = some (.string nm))) := fun W hW => by
      have k1 := below_blk hW KN6.out KN6.out.lt
      have k2 := below_blk hW KT6.out KT6.out.lt
      have k3 := below_blk hW KI6.out KI6.out.lt
      exact ⟨k1.cell 0 rfl, k1.cell 1 rfl, k1.cell 2 rfl, k1.cell 3 rfl, k1.cell 4 rfl, k1.cell 5 rfl, k2.cell 0 rfl, k2.cell 1 rfl, k3.cell 1 rfl⟩
    have HSS : Hid (∀ w7 W, Below w6.heap.size w6 w7 → ButS (fun b => b = g + 1 ∨ b = g) w7 W → (W.cell? ⟨p, 0, none⟩ = some (.slice na nn nc) ∧ W.cell? ⟨p, 1, none⟩ = some (.slice sa sn sc) ∧ W.cell? ⟨p, 2, none⟩ = some (.slice ba bn bc) ∧ W.cell? ⟨p, 3, none⟩ = some (.slice ga gn gc) ∧ W.cell? ⟨p, 4, none⟩ = some (.slice la lon lc) ∧ W.cell? ⟨p, 5, none⟩ = some (.slice ta tn tc) ∧ W.cell? ⟨p + 1, 0, none⟩ = some (.slice bua nn buc) ∧ W.cell? ⟨p + 1, 1, none⟩ = some (.slice isa m isc) ∧ W.cell? ⟨p + 1 + 1, 1, none⟩ = some (.string nm))) := fun w7 W hW hb => by
      have hge := HGE.out
      have k1 := hb.blk (below_blk hW KN6.out KN6.out.lt) (by omega)
      have k2 := hb.blk (below_blk hW KT6.out KT6.out.lt) (by omega)
      have k3 := hb.blk (below_blk hW KI6.out KI6.out.lt) (by omega)
      exact ⟨k1.cell 0 rfl, k1.cell 1 rfl, k1.cell 2 rfl, k1.cell 3 rfl, k1.cell 4 rfl, k1.cell 5 rfl, k2.cell 0 rfl, k2.cell 1 rfl, k3.cell 1 rfl⟩
    clear HBA HBO HBR HBI HBUS HIX HSTEP HSF HFL HSZ hbk hk1 HF0
    go_wp2_with fail
    go_region_held3 (fun W => (W.cell? ⟨p, 0, none⟩ = some (.slice na nn nc) ∧ W.cell? ⟨p, 1, none⟩ = some (.slice sa sn sc) ∧ W.cell? ⟨p, 2, none⟩ = some (.slice ba bn bc) ∧ W.cell? ⟨p, 3, none⟩ = some (.slice ga gn gc) ∧ W.cell? ⟨p, 4, none⟩ = some (.slice la lon lc) ∧ W.cell? ⟨p, 5, none⟩ = some (.slice ta tn tc) ∧ W.cell? ⟨p + 1, 0, none⟩ = some (.slice bua nn buc) ∧ W.cell? ⟨p + 1, 1, none⟩ = some (.slice isa m isc) ∧ W.cell? ⟨p + 1 + 1, 1, none⟩ = some (.string nm)))
      (first
        | with_reducible exact HSC.out _ E0.out
        | with_reducible exact HSC.out _ E1.out
        | with_reducible exact HF8.out)
      (first
        | (go_simp; go_at_call 57; ((with_reducible refine (HMB.out _ (belowT HB6.out E0.out)).mono ?_); rintro e w7 ⟨rfl, hb7⟩; have E1 := Lib.hid (belowT E0.out hb7); clear hb7))
        | (go_simp; go_at_call 66; ((with_reducible refine (HFX.out _ (belowT HB6.out E1.out) (LFX.out.below E1.out)).mono ?_); rintro e w8 ⟨rfl, hl8, hs8⟩; have L8 := Lib.hid hl8; have S8 := Lib.hid hs8; have HF8 := Lib.hid (HSS.out w7 w8 E1.out hs8); clear hl8 hs8)))
    all_goals
      have KR8 := Lib.hid (S8.out.blk (below_blk E1.out KR6.out KR6.out.lt) (fun h => by have := HGE.out; omega))
      have HB8 := Lib.hid ((belowT HB6.out E1.out).trans (S8.out.toBelow (base := w.heap.size) (fun b hb => by have := HGE.out; have := HP.out; omega) (belowT HB6.out E1.out).size))
      rw [← HFE2.out] at L8
      clear S8 E0 E1 HB6 KN6 KT6 KI6 KR6 HSC HSS HF8 HFX LFX HMB i0 hil
      go_simp
      obtain ⟨fg, fna, fn, fnc, fda, fdl, fdc, fblk, fq⟩ := L8.out.parts
      have t0 := fblk.cell 0 rfl
      have t1 := fblk.cell 1 rfl
      have t2 := fblk.cell 2 rfl
      have t3 := fblk.cell 3 rfl
      have hfl := fblk.lt
      have r0 := KR8.out.cell 0 rfl
      have r1 := KR8.out.cell 1 rfl
      have r2 := KR8.out.cell 2 rfl
      have r3 := KR8.out.cell 3 rfl
      have f0 := KR8.out.free 0
      have f1 := KR8.out.free 1
      have f2 := KR8.out.free 2
      have f3 := KR8.out.free 3
      have hrl := KR8.out.lt
      have RF := (((KR8.out.set 0 (.slice (some ⟨g, 0, none⟩) m m)).set 1 (.bool fg)).set 2 (.slice fna fn fnc)).set 3 (.slice fda fdl fdc)
      have u0 := RF.cell 0 rfl
      have u1 := RF.cell 1 rfl
      have u2 := RF.cell 2 rfl
      have u3 := RF.cell 3 rfl
      have hbut : But (p + 1 + 1 + 1) w8 ((((w8.setCell ⟨p + 1 + 1 + 1, 0, none⟩ (.slice (some ⟨g, 0, none⟩) m m)).setCell ⟨p + 1 + 1 + 1, 1, none⟩ (.bool fg)).setCell ⟨p + 1 + 1 + 1, 2, none⟩ (.slice fna fn fnc)).setCell ⟨p + 1 + 1 + 1, 3, none⟩ (.slice fda fdl fdc)) := ((((But.refl _ _).set 0 _).set 1 _).set 2 _).set 3 _
      have hrow := Lib.hid (L8.out.row.keepT KR8.out (by decide) hbut (by have := HGE.out; omega))
      have hqf := Lib.hid (fq.keepT KR8.out (by decide) hbut)
      have hge : w.heap.size ≤ p + 1 + 1 + 1 := by have := HP.out; omega
      have hbl := Lib.hid ((((HB8.out.setCell (p := ⟨p + 1 + 1 + 1, 0, none⟩) hge (.slice (some ⟨g, 0, none⟩) m m)).setCell (p := ⟨p + 1 + 1 + 1, 1, none⟩) hge (.bool fg)).setCell (p := ⟨p + 1 + 1 + 1, 2, none⟩) hge (.slice fna fn fnc)).setCell (p := ⟨p + 1 + 1 + 1, 3, none⟩) hge (.slice fda fdl fdc))
      clear RF hbut fblk fq
      go_wp2_with fail
      refine bodyPost_ret (v := .agg #[.slice (some ⟨g, 0, none⟩) m m, .bool fg, .slice fna fn fnc, .slice fda fdl fdc]) (by rw [results_cell rfl]; go_simp) rfl ⟨⟨_, rfl, g, fg, fna, fn, fnc, fda, fdl, fdc, rfl, ?_, hqf.out⟩, hbl.out⟩
      exact hrow.out
  · have q0 : (kd == 0) = false := by rw [beq_eq_false_iff_ne]; exact hk0
    have hHN : hasS nm n.nodes = true := by
      have h := HKT.out
      rw [HKB.out, if_neg hk0] at h
      exact h
    obtain ⟨ja, ia, hja, hjal, hba, hial, hua⟩ := HBI.out nm hHN
    have HF0 := Lib.hid (HFE.out.trans (if_neg hk0))
    rw [hba] at HF0
    obtain ⟨ug, uo, uc, huv, _, _, hugl, huc⟩ := HBUS.out.addr (by omega)
    simp only [Value.slice.injEq] at huv
    obtain ⟨rfl, _, rfl⟩ := huv
    have HUC := Lib.hid huc
    have HUL := Lib.hid hugl
    clear huc hugl HFE HKB HKT HBUS HBA HBO HMB hHN hba
    have HJX := Lib.hid (HIX.out nm ja w6.drew hja (below_drew HB6.out))
    have hu' := (HB6.out.cell (p := ⟨ug, uo + ja, none⟩) HUL.out).trans (HUC.out ja _ hua)
    have HAA : Hid (w6.drew.cell? ⟨p + 1, 0, none⟩ = some (.slice (some ⟨ug, uo, none⟩) nn buc) ∧ w6.drew.cell? ⟨p, 0, none⟩ = some (.slice na nn nc) ∧ w6.drew.cell? ⟨p + 1 + 1, 1, none⟩ = some (.string nm) ∧ w6.drew.cell? ⟨ug, uo + ja, none⟩ = some (.int .i64 (ia : Int))) := ⟨KT6.out.drew.cell 0 rfl, KN6.out.drew.cell 0 rfl, KI6.out.drew.cell 1 rfl, hu'⟩
    clear hu'
    go_wp2_with fail
    go_region_held3 (fun W => (W.cell? ⟨p + 1, 0, none⟩ = some (.slice (some ⟨ug, uo, none⟩) nn buc) ∧ W.cell? ⟨p, 0, none⟩ = some (.slice na nn nc) ∧ W.cell? ⟨p + 1 + 1, 1, none⟩ = some (.string nm) ∧ W.cell? ⟨ug, uo + ja, none⟩ = some (.int .i64 (ia : Int))))
      (with_reducible exact HAA.out)
      (first
        | (go_simp; go_at_call 62; ((with_reducible refine HJX.out.mono ?_); rintro e w' ⟨rfl, rfl⟩)))
    all_goals
      clear HAA HJX
      go_simp
      have KN7 := Lib.hid KN6.out.drew
      have KT7 := Lib.hid KT6.out.drew
      have KI7 := Lib.hid KI6.out.drew
      have KR7 := Lib.hid KR6.out.drew
      have LF7 := Lib.hid (LFX.out.below (below_drew0 w6.heap.size w6))
      have HB7 := Lib.hid (below_drew HB6.out)
      clear i0 hil KN6 KT6 KI6 KR6 LFX HB6
      generalize w6.drew = w7 at *
      have i0 := KI7.out.cell 0 rfl
      have hil := KI7.out.lt
      by_cases hk2 : kd = 2
      · have q1 : (kd == 2) = true := by rw [beq_iff_eq]; exact hk2
        have HFE2 : Hid (FE = (setR (fun _ => 0) ia ((1 : Int) : Rat), 0)) := by
          show _ = _; rw [HF0.out, if_pos hk2]; rfl
        have c0 := (LF7.out.parts).choose_spec
        obtain ⟨fg, fna, fn, fnc, fda, fdl, fdc, fblk, fq⟩ := LF7.out.parts
        have FB := Lib.hid fblk
        have hfl := fblk.lt
        have hgl := LF7.out.row.lt
        have hgi : g + 1 ≠ g := by omega
        have HSC : Hid (∀ W, Below w7.heap.size w7 W → W.cell? ⟨g + 1, 0, none⟩ = some (.slice (some ⟨g, 0, none⟩) m m)) := fun W hW => (below_blk hW FB.out FB.out.lt).cell 0 rfl
        have HSS : Hid (∀ w5 W', But g w5 W' → Below w7.heap.size w7 w5 → W'.cell? ⟨g + 1, 0, none⟩ = some (.slice (some ⟨g, 0, none⟩) m m)) := fun w5 W' hb hW => (hb.blk (below_blk hW FB.out FB.out.lt) hgi).cell 0 rfl
        have E0 := Lib.hid (below_drew0 w7.heap.size w7)
        have hlc : ia < 1000000 := by omega
        have HINT := Lib.hid (fun W => int_c 1 W (by omega) (by omega))
        clear c0 fblk fq HFL HSTEP HSF HBI HBR HIX HSZ HUC HUL hja hua
        go_upto_region 7 with fail
        go_region_held3 (fun W => W.cell? ⟨g + 1, 0, none⟩ = some (.slice (some ⟨g, 0, none⟩) m m))
          (first
            | with_reducible exact HSC.out _ E0.out
            | with_reducible exact HSC.out _ E1.out
            | exact HSF.out)
          (first
            | (go_simp; go_at_call 34; ((with_reducible refine (HINT.out _).mono ?_); rintro e w8 ⟨⟨v5, rfl, rg, rn, rd, rfl, hqc⟩, hb5⟩; obtain ⟨ra, rca, rda, rdl, rdc, rfl, rfl, _⟩ := hqc.parts; have E1 := Lib.hid (belowT E0.out hb5); have HQC := Lib.hid hqc; obtain ⟨rl, hrl⟩ : ∃ l, ln ((1 : Int) : Rat).num.natAbs = l := ⟨_, rfl⟩; rw [hrl] at HQC ⊢; have l5 := LF7.out.below E1.out; have L5 := Lib.hid l5; obtain ⟨_, _, _, _, _, _, _, z0, z1, z2, _⟩ := l5.row.ent hial; have f0 := l5.row.free (ia * 3); have f1 := l5.row.free (ia * 3 + 1); have f2 := l5.row.free (ia * 3 + 2); have hgl5 := l5.row.lt; have HSF := Lib.hid (HSS.out w8 _ (but_putQ w8 g (ia * 3) rg (.slice ra rl rca) (.slice rda rdl rdc)) E1.out); clear hb5 hqc hrl l5)))
        all_goals
          have hge := HGE.out
          have hpp := HP.out
          have L9 := L5.out.put hial HQC.out
          have R9 := (but_putQ w8 g (ia * 3) rg (.slice ra rl rca) (.slice rda rdl rdc)).blk (below_blk E1.out KR7.out KR7.out.lt) (by omega)
          have hgw : w.heap.size ≤ g := by omega
          have B9 : Below w.heap.size w (putQ w8 g (ia * 3) rg (.slice ra rl rca) (.slice rda rdl rdc)) := (((belowT HB7.out E1.out).setCell (p := ⟨g, ia * 3, none⟩) hgw (.bool rg)).setCell (p := ⟨g, ia * 3 + 1, none⟩) hgw (.slice ra rl rca)).setCell (p := ⟨g, ia * 3 + 2, none⟩) hgw (.slice rda rdl rdc)
          rw [show setR zeroL.1 ia ((1 : Int) : Rat) = FE.1 by rw [HFE2.out]; rfl, show zeroL.2 = FE.2 by rw [HFE2.out]; rfl] at L9
          clear z0 z1 z2 f0 f1 f2 HSF HSC HSS E0 E1 L5 HQC HFE2 KN7 KT7 KI7 KR7 LF7 HB7 i0 hil
          go_simp
          go_upto_region 8 with fail
          obtain ⟨w9, hw9⟩ : ∃ W, putQ w8 g (ia * 3) rg (.slice ra rl rca) (.slice rda rdl rdc) = W := ⟨_, rfl⟩
          rw [hw9] at L9 R9 B9
          unfold putQ at hw9
          rw [hw9]
          clear hw9
          have L8 := Lib.hid L9
          have KR8 := Lib.hid R9
          have HB8 := Lib.hid B9
          clear L9 R9 B9 fg fna fn fnc fda fdl fdc FB hfl
          obtain ⟨fg, fna, fn, fnc, fda, fdl, fdc, fblk, fq⟩ := L8.out.parts
          have t0 := fblk.cell 0 rfl
          have t1 := fblk.cell 1 rfl
          have t2 := fblk.cell 2 rfl
          have t3 := fblk.cell 3 rfl
          have hfl := fblk.lt
          have r0 := KR8.out.cell 0 rfl
          have r1 := KR8.out.cell 1 rfl
          have r2 := KR8.out.cell 2 rfl
          have r3 := KR8.out.cell 3 rfl
          have f0 := KR8.out.free 0
          have f1 := KR8.out.free 1
          have f2 := KR8.out.free 2
          have f3 := KR8.out.free 3
          have hrl := KR8.out.lt
          have RF := (((KR8.out.set 0 (.slice (some ⟨g, 0, none⟩) m m)).set 1 (.bool fg)).set 2 (.slice fna fn fnc)).set 3 (.slice fda fdl fdc)
          have u0 := RF.cell 0 rfl
          have u1 := RF.cell 1 rfl
          have u2 := RF.cell 2 rfl
          have u3 := RF.cell 3 rfl
          have hbut : But (p + 1 + 1 + 1) w9 ((((w9.setCell ⟨p + 1 + 1 + 1, 0, none⟩ (.slice (some ⟨g, 0, none⟩) m m)).setCell ⟨p + 1 + 1 + 1, 1, none⟩ (.bool fg)).setCell ⟨p + 1 + 1 + 1, 2, none⟩ (.slice fna fn fnc)).setCell ⟨p + 1 + 1 + 1, 3, none⟩ (.slice fda fdl fdc)) := ((((But.refl _ _).set 0 _).set 1 _).set 2 _).set 3 _
          have hrow := Lib.hid (L8.out.row.keepT KR8.out (by decide) hbut (by have := HGE.out; omega))
          have hqf := Lib.hid (fq.keepT KR8.out (by decide) hbut)
          have hge : w.heap.size ≤ p + 1 + 1 + 1 := by have := HP.out; omega
          have hbl := Lib.hid ((((HB8.out.setCell (p := ⟨p + 1 + 1 + 1, 0, none⟩) hge (.slice (some ⟨g, 0, none⟩) m m)).setCell (p := ⟨p + 1 + 1 + 1, 1, none⟩) hge (.bool fg)).setCell (p := ⟨p + 1 + 1 + 1, 2, none⟩) hge (.slice fna fn fnc)).setCell (p := ⟨p + 1 + 1 + 1, 3, none⟩) hge (.slice fda fdl fdc))
          clear RF hbut fblk fq
          go_wp2_with fail
          refine bodyPost_ret (v := .agg #[.slice (some ⟨g, 0, none⟩) m m, .bool fg, .slice fna fn fnc, .slice fda fdl fdc]) (by rw [results_cell rfl]; go_simp) rfl ⟨⟨_, rfl, g, fg, fna, fn, fnc, fda, fdl, fdc, rfl, ?_, hqf.out⟩, hbl.out⟩
          exact hrow.out
      · have q1 : (kd == 2) = false := by rw [beq_eq_false_iff_ne]; exact hk2
        have HFE2 : Hid (injF n ia (n.brs.drop 0) zeroL = FE) := by
          show _ = _; rw [HF0.out, if_neg hk2]; rfl
        have b2 := KN7.out.cell 2 rfl
        have hnl := KN7.out.lt
        clear HF0
        go_wp2_with fail
        go_loopw [47] (fun i wr => ∃ (k : Nat) (L : LineQ), k ≤ bn ∧ i = .int .i64 k ∧ Hid (injF n ia (n.brs.drop k) L = FE) ∧ Hid (SzL m (1 + 68 * k) L) ∧ Hid (LF wr (g + 1) g m L.1 L.2) ∧ Hid (Blk wr p #[.slice na nn nc, .slice sa sn sc, .slice ba bn bc, .slice ga gn gc, .slice la lon lc, .slice ta tn tc] 29) ∧ Hid (Blk wr (p + 1) #[.slice (some ⟨ug, uo, none⟩) nn buc, .slice isa m isc] 47) ∧ Hid (Blk wr (p + 1 + 1 + 1) #[.slice none 0 0, .bool false, .slice none 0 0, .slice none 0 0] 99) ∧ Hid (Below w.heap.size w wr)) (fun i _ => bn - (intOf i).toNat)
        case atStart => exact ⟨0, zeroL, Nat.zero_le _, rfl, HFE2.out, SzL.zero m, LF7.out, KN7.out, KT7.out, KR7.out, HB7.out⟩
        case round =>
          clear HFE2 LF7 KN7 KT7 KI7 KR7 HB7 i0 hil b2 hnl
          obtain ⟨k, L, hk, rfl, he, hsl, hlf, hkn, hkt, hkr, hb⟩ := hrel
          by_cases hlt : k < bn
          · obtain ⟨bg, bo, bcap, hbv, _, _, hbgl, hbc⟩ := (HSZ.out.below hb.out).addr (by omega)
            simp only [Value.slice.injEq] at hbv
            obtain ⟨rfl, _, rfl⟩ := hbv
            obtain ⟨x, hx⟩ : ∃ x, n.brs[k]? = some x := ⟨_, List.getElem?_eq_getElem (by rw [HBN.out]; exact hlt)⟩
            obtain ⟨c0, c1, c2, c3, c4, c5, c6, c7, c8⟩ := br_cells hbc hx
            have hmem := List.mem_of_getElem? hx
            obtain ⟨hfr, hto, _⟩ := HBR.out x hmem
            obtain ⟨j1, i1, h1j, h1l, h1b, h1i, h1u⟩ := HBI.out x.fr hfr
            obtain ⟨j2, i2, h2j, h2l, h2b, h2i, h2u⟩ := HBI.out x.to hto
            have HXX := Lib.hid hx
            have HD := Lib.hid (injF_drop (n := n) (a := (ia : Int)) hx L)
            have HS1 := Lib.hid (HSF.out x 1 (1 + 68 * k) L hsl.out hmem (Or.inl rfl))
            have N1 := Lib.hid (hkn.out.alloc (.cells #[.string x.name, .string x.fr, .string x.to, .int .i64 x.x, .int .i64 x.tap, .int .i64 x.sh, .int .i64 x.lim, .int .i64 x.shrt, .int .i64 x.hold] 53))
            have T1 := Lib.hid (hkt.out.alloc (.cells #[.string x.name, .string x.fr, .string x.to, .int .i64 x.x, .int .i64 x.tap, .int .i64 x.sh, .int .i64 x.lim, .int .i64 x.shrt, .int .i64 x.hold] 53))
            have R1 := Lib.hid (hkr.out.alloc (.cells #[.string x.name, .string x.fr, .string x.to, .int .i64 x.x, .int .i64 x.tap, .int .i64 x.sh, .int .i64 x.lim, .int .i64 x.shrt, .int .i64 x.hold] 53))
            have X1 := Lib.hid (Blk.new wr #[.string x.name, .string x.fr, .string x.to, .int .i64 x.x, .int .i64 x.tap, .int .i64 x.sh, .int .i64 x.lim, .int .i64 x.shrt, .int .i64 x.hold] 53)
            have L1 := Lib.hid (hlf.out.below (belowA (Below.refl _ _) (.cells #[.string x.name, .string x.fr, .string x.to, .int .i64 x.x, .int .i64 x.tap, .int .i64 x.sh, .int .i64 x.lim, .int .i64 x.shrt, .int .i64 x.hold] 53)))
            have W1 := Lib.hid (hb.out.alloc hb.out.size (.cells #[.string x.name, .string x.fr, .string x.to, .int .i64 x.x, .int .i64 x.tap, .int .i64 x.sh, .int .i64 x.lim, .int .i64 x.shrt, .int .i64 x.hold] 53))
            have HPB : Hid (g + 1 < wr.heap.size) := hlf.out.flt
            clear hx hmem hfr hto hbc hkn hkt hkr hlf hb
            go_upto_region 12 with fail
            generalize wr.alloc (.cells #[.string x.name, .string x.fr, .string x.to, .int .i64 x.x, .int .i64 x.tap, .int .i64 x.sh, .int .i64 x.lim, .int .i64 x.shrt, .int .i64 x.hold] 53) = v1 at *
            generalize wr.heap.size = pb at *
            clear c0 c1 c2 c3 c4 c5 c6 c7 c8 hbgl
            have HJX := Lib.hid (HIX.out x.fr j1 v1.drew h1j (below_drew W1.out))
            have hu' := (W1.out.cell (p := ⟨ug, uo + j1, none⟩) HUL.out).trans (HUC.out j1 _ h1u)
            have HAA : Hid (v1.drew.cell? ⟨p + 1, 0, none⟩ = some (.slice (some ⟨ug, uo, none⟩) nn buc) ∧ v1.drew.cell? ⟨p, 0, none⟩ = some (.slice na nn nc) ∧ v1.drew.cell? ⟨pb, 1, none⟩ = some (.string x.fr) ∧ v1.drew.cell? ⟨ug, uo + j1, none⟩ = some (.int .i64 (i1 : Int))) := ⟨T1.out.drew.cell 0 rfl, N1.out.drew.cell 0 rfl, X1.out.drew.cell 1 rfl, hu'⟩
            clear hu'
            go_wp2_with fail
            go_region_held3 (fun W => (W.cell? ⟨p + 1, 0, none⟩ = some (.slice (some ⟨ug, uo, none⟩) nn buc) ∧ W.cell? ⟨p, 0, none⟩ = some (.slice na nn nc) ∧ W.cell? ⟨pb, 1, none⟩ = some (.string x.fr) ∧ W.cell? ⟨ug, uo + j1, none⟩ = some (.int .i64 (i1 : Int))))
              (with_reducible exact HAA.out)
              (first
                | (go_simp; go_at_call 62; ((with_reducible refine HJX.out.mono ?_); rintro e w' ⟨rfl, rfl⟩)))
            all_goals
              clear HAA HJX
              go_simp
              have N2 := Lib.hid N1.out.drew
              have T2 := Lib.hid T1.out.drew
              have R2 := Lib.hid R1.out.drew
              have X2 := Lib.hid X1.out.drew
              have L2 := Lib.hid (L1.out.below (below_drew0 v1.heap.size v1))
              have W2 := Lib.hid (below_drew W1.out)
              clear N1 T1 R1 X1 L1 W1
              generalize v1.drew = v2 at *
              by_cases h1 : i1 = ia
              · have q3 : ((i1 : Int) == (ia : Int)) = true := by rw [beq_iff_eq]; omega
                have hfr1 : busAt n x.fr = (ia : Int) := by rw [h1b, h1]
                have n0 := N2.out.cell 0 rfl
                have n1 := N2.out.cell 1 rfl
                have n2 := N2.out.cell 2 rfl
                have n3 := N2.out.cell 3 rfl
                have n4 := N2.out.cell 4 rfl
                have n5 := N2.out.cell 5 rfl
                have t0 := T2.out.cell 0 rfl
                have t1 := T2.out.cell 1 rfl
                have hnl := N2.out.lt
                have htl := T2.out.lt
                have HFW := Lib.hid (HFL.out (g + 1) g k 1 x L (1 + 68 * k) v2 W2.out L2.out HXX.out (by omega) hsl.out (by omega))
                go_wp2_with fail
                refine HFW.out.mono ?_; rintro e v5 ⟨rfl, hlv, hsv⟩
                have hge := HGE.out
                have hpp := HP.out
                have LV := Lib.hid hlv
                have NV' := Lib.hid (hsv.blk N2.out (by omega))
                have TV' := Lib.hid (hsv.blk T2.out (by omega))
                have RV' := Lib.hid (hsv.blk R2.out (by omega))
                have BV' := Lib.hid (hsv.blk X2.out (by have := HPB.out; omega))
                have WV' := Lib.hid (W2.out.trans (hsv.toBelow (base := w.heap.size) (fun b hb => by omega) W2.out.size))
                clear hlv hsv n0 n1 n2 n3 n4 n5 t0 t1 hnl htl HFW hge hpp
                have HJX := Lib.hid (HIX.out x.to j2 v5.drew h2j (below_drew WV'.out))
                have hu' := (WV'.out.cell (p := ⟨ug, uo + j2, none⟩) HUL.out).trans (HUC.out j2 _ h2u)
                have HAA : Hid (v5.drew.cell? ⟨p + 1, 0, none⟩ = some (.slice (some ⟨ug, uo, none⟩) nn buc) ∧ v5.drew.cell? ⟨p, 0, none⟩ = some (.slice na nn nc) ∧ v5.drew.cell? ⟨pb, 2, none⟩ = some (.string x.to) ∧ v5.drew.cell? ⟨ug, uo + j2, none⟩ = some (.int .i64 (i2 : Int))) := ⟨TV'.out.drew.cell 0 rfl, NV'.out.drew.cell 0 rfl, BV'.out.drew.cell 2 rfl, hu'⟩
                clear hu'
                go_wp2_with fail
                go_region_held3 (fun W => (W.cell? ⟨p + 1, 0, none⟩ = some (.slice (some ⟨ug, uo, none⟩) nn buc) ∧ W.cell? ⟨p, 0, none⟩ = some (.slice na nn nc) ∧ W.cell? ⟨pb, 2, none⟩ = some (.string x.to) ∧ W.cell? ⟨ug, uo + j2, none⟩ = some (.int .i64 (i2 : Int))))
                  (with_reducible exact HAA.out)
                  (first
                    | (go_simp; go_at_call 62; ((with_reducible refine HJX.out.mono ?_); rintro e w' ⟨rfl, rfl⟩)))
                all_goals
                  clear HAA HJX
                  go_simp
                  have N3 := Lib.hid NV'.out.drew
                  have T3 := Lib.hid TV'.out.drew
                  have R3 := Lib.hid RV'.out.drew
                  have B3 := Lib.hid BV'.out.drew
                  have L3 := Lib.hid (LV.out.below (below_drew0 v5.heap.size v5))
                  have W3 := Lib.hid (below_drew WV'.out)
                  clear NV' TV' RV' BV' LV WV'
                  generalize v5.drew = v3 at *
                  by_cases h2 : i2 = ia
                  · have q2 : ((i2 : Int) == (ia : Int)) = true := by rw [beq_iff_eq]; omega
                    have he2 : Hid (injF n ia (n.brs.drop (k + 1)) (flowL n x (-1) (flowL n x 1 L)) = FE) := by show _ = _; rw [← he.out, HD.out, if_pos (by rw [h2b, h2]), if_pos hfr1]
                    have n0 := N3.out.cell 0 rfl
                    have n1 := N3.out.cell 1 rfl
                    have n2 := N3.out.cell 2 rfl
                    have n3 := N3.out.cell 3 rfl
                    have n4 := N3.out.cell 4 rfl
                    have n5 := N3.out.cell 5 rfl
                    have t0 := T3.out.cell 0 rfl
                    have t1 := T3.out.cell 1 rfl
                    have hnl := N3.out.lt
                    have htl := T3.out.lt
                    have HFW := Lib.hid (HFL.out (g + 1) g k (-1) x (flowL n x 1 L) (1 + 68 * k + 34) v3 W3.out L3.out HXX.out (by omega) HS1.out (by omega))
                    go_wp2_with fail
                    refine HFW.out.mono ?_; rintro e v4 ⟨rfl, hlv, hsv⟩
                    have hge := HGE.out
                    have hpp := HP.out
                    have LV := Lib.hid hlv
                    have NV' := Lib.hid (hsv.blk N3.out (by omega))
                    have TV' := Lib.hid (hsv.blk T3.out (by omega))
                    have RV' := Lib.hid (hsv.blk R3.out (by omega))
                    have BV' := Lib.hid (hsv.blk B3.out (by have := HPB.out; omega))
                    have WV' := Lib.hid (W3.out.trans (hsv.toBelow (base := w.heap.size) (fun b hb => by omega) W3.out.size))
                    clear hlv hsv n0 n1 n2 n3 n4 n5 t0 t1 hnl htl HFW hge hpp
                    go_wp2_with fail
                    go_roundw
                    case rel => exact ⟨k + 1, _, hlt, by go_num, he2, (HSF.out x (-1) (1 + 68 * k + 34) (flowL n x 1 L) HS1.out (List.mem_of_getElem? HXX.out) (Or.inr rfl)).mono (by omega), LV.out, NV'.out, TV'.out, RV'.out, WV'.out⟩
                    case measure => simp [intOf]; omega
                  · have q2 : ((i2 : Int) == (ia : Int)) = false := by rw [beq_eq_false_iff_ne]; omega
                    have he2 : Hid (injF n ia (n.brs.drop (k + 1)) (flowL n x 1 L) = FE) := by show _ = _; rw [← he.out, HD.out, if_neg (by rw [h2b]; omega), if_pos hfr1]
                    go_wp2_with fail
                    go_roundw
                    case rel => exact ⟨k + 1, _, hlt, by go_num, he2, (HS1.out.mono (by omega)), L3.out, N3.out, T3.out, R3.out, W3.out⟩
                    case measure => simp [intOf]; omega
              · have q3 : ((i1 : Int) == (ia : Int)) = false := by rw [beq_eq_false_iff_ne]; omega
                have hfr1 : ¬ busAt n x.fr = (ia : Int) := by rw [h1b]; omega
                have HJX := Lib.hid (HIX.out x.to j2 v2.drew h2j (below_drew W2.out))
                have hu' := (W2.out.cell (p := ⟨ug, uo + j2, none⟩) HUL.out).trans (HUC.out j2 _ h2u)
                have HAA : Hid (v2.drew.cell? ⟨p + 1, 0, none⟩ = some (.slice (some ⟨ug, uo, none⟩) nn buc) ∧ v2.drew.cell? ⟨p, 0, none⟩ = some (.slice na nn nc) ∧ v2.drew.cell? ⟨pb, 2, none⟩ = some (.string x.to) ∧ v2.drew.cell? ⟨ug, uo + j2, none⟩ = some (.int .i64 (i2 : Int))) := ⟨T2.out.drew.cell 0 rfl, N2.out.drew.cell 0 rfl, X2.out.drew.cell 2 rfl, hu'⟩
                clear hu'
                go_wp2_with fail
                go_region_held3 (fun W => (W.cell? ⟨p + 1, 0, none⟩ = some (.slice (some ⟨ug, uo, none⟩) nn buc) ∧ W.cell? ⟨p, 0, none⟩ = some (.slice na nn nc) ∧ W.cell? ⟨pb, 2, none⟩ = some (.string x.to) ∧ W.cell? ⟨ug, uo + j2, none⟩ = some (.int .i64 (i2 : Int))))
                  (with_reducible exact HAA.out)
                  (first
                    | (go_simp; go_at_call 62; ((with_reducible refine HJX.out.mono ?_); rintro e w' ⟨rfl, rfl⟩)))
                all_goals
                  clear HAA HJX
                  go_simp
                  have N3 := Lib.hid N2.out.drew
                  have T3 := Lib.hid T2.out.drew
                  have R3 := Lib.hid R2.out.drew
                  have B3 := Lib.hid X2.out.drew
                  have L3 := Lib.hid (L2.out.below (below_drew0 v2.heap.size v2))
                  have W3 := Lib.hid (below_drew W2.out)
                  clear N2 T2 R2 X2 L2 W2
                  generalize v2.drew = v3 at *
                  by_cases h2 : i2 = ia
                  · have q2 : ((i2 : Int) == (ia : Int)) = true := by rw [beq_iff_eq]; omega
                    have he2 : Hid (injF n ia (n.brs.drop (k + 1)) (flowL n x (-1) L) = FE) := by show _ = _; rw [← he.out, HD.out, if_pos (by rw [h2b, h2]), if_neg hfr1]
                    have n0 := N3.out.cell 0 rfl
                    have n1 := N3.out.cell 1 rfl
                    have n2 := N3.out.cell 2 rfl
                    have n3 := N3.out.cell 3 rfl
                    have n4 := N3.out.cell 4 rfl
                    have n5 := N3.out.cell 5 rfl
                    have t0 := T3.out.cell 0 rfl
                    have t1 := T3.out.cell 1 rfl
                    have hnl := N3.out.lt
                    have htl := T3.out.lt
                    have HFW := Lib.hid (HFL.out (g + 1) g k (-1) x L (1 + 68 * k) v3 W3.out L3.out HXX.out (by omega) hsl.out (by omega))
                    go_wp2_with fail
                    refine HFW.out.mono ?_; rintro e v4 ⟨rfl, hlv, hsv⟩
                    have hge := HGE.out
                    have hpp := HP.out
                    have LV := Lib.hid hlv
                    have NV' := Lib.hid (hsv.blk N3.out (by omega))
                    have TV' := Lib.hid (hsv.blk T3.out (by omega))
                    have RV' := Lib.hid (hsv.blk R3.out (by omega))
                    have BV' := Lib.hid (hsv.blk B3.out (by have := HPB.out; omega))
                    have WV' := Lib.hid (W3.out.trans (hsv.toBelow (base := w.heap.size) (fun b hb => by omega) W3.out.size))
                    clear hlv hsv n0 n1 n2 n3 n4 n5 t0 t1 hnl htl HFW hge hpp
                    go_wp2_with fail
                    go_roundw
                    case rel => exact ⟨k + 1, _, hlt, by go_num, he2, (HSF.out x (-1) (1 + 68 * k) L hsl.out (List.mem_of_getElem? HXX.out) (Or.inr rfl)).mono (by omega), LV.out, NV'.out, TV'.out, RV'.out, WV'.out⟩
                    case measure => simp [intOf]; omega
                  · have q2 : ((i2 : Int) == (ia : Int)) = false := by rw [beq_eq_false_iff_ne]; omega
                    have he2 : Hid (injF n ia (n.brs.drop (k + 1)) L = FE) := by show _ = _; rw [← he.out, HD.out, if_neg (by rw [h2b]; omega), if_neg hfr1]
                    go_wp2_with fail
                    go_roundw
                    case rel => exact ⟨k + 1, _, hlt, by go_num, he2, (hsl.out.mono (by omega)), L3.out, N3.out, T3.out, R3.out, W3.out⟩
                    case measure => simp [intOf]; omega
          · have HL : Hid (L = FE) := by
              show _ = _; rw [← he.out, List.drop_eq_nil_of_le (by rw [HBN.out]; omega)]; rfl
            rw [HL.out] at hlf
            clear he HFL HSTEP HSF HBI HBR HIX HSZ HUC HUL hja hua
            obtain ⟨fg, fna, fn, fnc, fda, fdl, fdc, fblk, fq⟩ := hlf.out.parts
            have t0 := fblk.cell 0 rfl
            have t1 := fblk.cell 1 rfl
            have t2 := fblk.cell 2 rfl
            have t3 := fblk.cell 3 rfl
            have hfl := fblk.lt
            have r0 := hkr.out.cell 0 rfl
            have r1 := hkr.out.cell 1 rfl
            have r2 := hkr.out.cell 2 rfl
            have r3 := hkr.out.cell 3 rfl
            have f0 := hkr.out.free 0
            have f1 := hkr.out.free 1
            have f2 := hkr.out.free 2
            have f3 := hkr.out.free 3
            have hrl := hkr.out.lt
            have RF := (((hkr.out.set 0 (.slice (some ⟨g, 0, none⟩) m m)).set 1 (.bool fg)).set 2 (.slice fna fn fnc)).set 3 (.slice fda fdl fdc)
            have u0 := RF.cell 0 rfl
            have u1 := RF.cell 1 rfl
            have u2 := RF.cell 2 rfl
            have u3 := RF.cell 3 rfl
            have hbut : But (p + 1 + 1 + 1) wr ((((wr.setCell ⟨p + 1 + 1 + 1, 0, none⟩ (.slice (some ⟨g, 0, none⟩) m m)).setCell ⟨p + 1 + 1 + 1, 1, none⟩ (.bool fg)).setCell ⟨p + 1 + 1 + 1, 2, none⟩ (.slice fna fn fnc)).setCell ⟨p + 1 + 1 + 1, 3, none⟩ (.slice fda fdl fdc)) := ((((But.refl _ _).set 0 _).set 1 _).set 2 _).set 3 _
            have hrow := Lib.hid (hlf.out.row.keepT hkr.out (by decide) hbut (by have := HGE.out; omega))
            have hqf := Lib.hid (fq.keepT hkr.out (by decide) hbut)
            have hge : w.heap.size ≤ p + 1 + 1 + 1 := by have := HP.out; omega
            have hbl := Lib.hid ((((hb.out.setCell (p := ⟨p + 1 + 1 + 1, 0, none⟩) hge (.slice (some ⟨g, 0, none⟩) m m)).setCell (p := ⟨p + 1 + 1 + 1, 1, none⟩) hge (.bool fg)).setCell (p := ⟨p + 1 + 1 + 1, 2, none⟩) hge (.slice fna fn fnc)).setCell (p := ⟨p + 1 + 1 + 1, 3, none⟩) hge (.slice fda fdl fdc))
            clear RF hbut fblk fq
            go_wp2_with fail
            refine bodyPost_ret (v := .agg #[.slice (some ⟨g, 0, none⟩) m m, .bool fg, .slice fna fn fnc, .slice fda fdl fdc]) (by rw [results_cell rfl]; go_simp) rfl ⟨⟨_, rfl, g, fg, fna, fn, fnc, fda, fdl, fdc, rfl, ?_, hqf.out⟩, hbl.out⟩
            exact hrow.out
end Go.Proofs.Ythcddboeejbncaa
