/- station.Edges, graph.Count. graph.Count; slices.Repeat of one number. The components of a graph, as graph.Parts computes them. graph.Parts. station.Buses. topology.Wires. topology.Fresh. -/
import Derived.Test.YthcddboeejbncaaPkNetOApp
import Derived.Test.YthcddboeejbncaaShelf
import Derived.StillTailTactics
import Derived.Laws.CopyOwn
import Derived.Deep.RegionLaw
namespace Go.Proofs.Ythcddboeejbncaa
open Go.RowKit

/-- Pairs of numbers as cells. -/
def prC (x : Int × Int) : List Value := [.int .i64 x.1, .int .i64 x.2]
theorem pr_cells {w : World} {b off : Nat} {l : List (Int × Int)} (h : ∀ j u, (flat prC l)[j]? = some u → w.cell? ⟨b, off + j, none⟩ = some u) {k : Nat} {x : Int × Int} (hx : l[k]? = some x) :
    w.cell? ⟨b, off + k * 2, none⟩ = some (.int .i64 x.1) ∧ w.cell? ⟨b, off + k * 2 + 1, none⟩ = some (.int .i64 x.2) := by
  have e := fun j u hj hu => Reads.elem (sz := 2) (fun _ => rfl) h hx (j := j) (u := u) hj hu
  exact ⟨e 0 _ (by decide) rfl, by rw [Nat.add_assoc]; exact e 1 _ (by decide) rfl⟩
theorem infoPr : (Try.prog.info? 117).map (fun i => (i.zero, i.size, i.bytes)) = some (some (.agg #[.int .i64 0, .int .i64 0]), 2, 16) := by kernel_rfl
/-- The switches as edges. -/
def stE (n : Net) : List (Int × Int) := n.sws.map fun s => (idxS s.a n.nodes 0, idxS s.b n.nodes 0)
theorem map_take_succ {α β : Type} (f : α → β) {l : List α} {k : Nat} {x : α} (h : l[k]? = some x) : (l.take (k + 1)).map f = (l.take k).map f ++ [f x] := by
  rw [List.take_add_one, h, List.map_append]; rfl

set_option maxHeartbeats 4000000 in
set_option maxRecDepth 100000 in
theorem stEdges_c (x0 : NAddr) (n : Net) (w : World) (hr : NetR w x0 n) (h1 : n.sws.length ≤ 32) :
    Calls Try.prog 59 #[x0.val n] w fun e w' => ∃ lv, e = .returned lv ∧ Reads w' lv (stE n).length (flat prC (stE n)) ∧ Below w.heap.size w w' := by
  obtain ⟨na, nc, sa, sc, ba, bc, ga, gc, la, lc, ta, tc⟩ := x0
  obtain ⟨nl, sws, brs, gens, loads, stores⟩ := n
  obtain ⟨r0, r1, _, _, _, _⟩ := hr
  simp only at r0 r1 h1
  obtain ⟨IX, hIX⟩ : ∃ f : ByteArray → Int, (fun s => idxS s nl 0) = f := ⟨_, rfl⟩
  have HIXE : ∀ s, idxS s nl 0 = IX s := fun s => by rw [← hIX]
  obtain ⟨EF, hEF⟩ : ∃ f : NSw → Int × Int, (fun s : NSw => (idxS s.a nl 0, idxS s.b nl 0)) = f := ⟨_, rfl⟩
  have HEF : Hid (∀ nm fr tt bk op, EF ⟨nm, fr, tt, bk, op⟩ = (IX fr, IX tt)) := fun _ _ _ _ _ => by rw [← hEF]; simp only [HIXE]
  have hSE : stE ⟨nl, sws, brs, gens, loads, stores⟩ = sws.map EF := by rw [← hEF]; rfl
  generalize stE ⟨nl, sws, brs, gens, loads, stores⟩ = SE at *
  have HSE := Lib.hid hSE
  clear hSE hEF
  show Calls _ _ #[netV na nl.length nc sa sws.length sc ba brs.length bc ga gens.length gc la loads.length lc ta stores.length tc] _ _
  obtain ⟨nn, hN⟩ : ∃ n, nl.length = n := ⟨_, rfl⟩
  obtain ⟨sn, hS⟩ : ∃ n, sws.length = n := ⟨_, rfl⟩
  have HS := Lib.hid hS
  generalize brs.length = bn at *
  generalize gens.length = gn at *
  generalize loads.length = ln at *
  generalize stores.length = tn at *
  rw [hN] at r0
  rw [hS] at r1 h1
  rw [hN, hS]
  have B1 := belowA (Below.refl w.heap.size w) (.cells #[.slice na nn nc, .slice sa sn sc, .slice ba bn bc, .slice ga gn gc, .slice la ln lc, .slice ta tn tc] 29)
  have K1 := Blk.new w #[.slice na nn nc, .slice sa sn sc, .slice ba bn bc, .slice ga gn gc, .slice la ln lc, .slice ta tn tc] 29
  generalize hW1 : w.alloc (.cells #[.slice na nn nc, .slice sa sn sc, .slice ba bn bc, .slice ga gn gc, .slice la ln lc, .slice ta tn tc] 29) = W1 at *
  have R0 := Lib.hid (r0.below B1)
  have R1 := Lib.hid (r1.below B1)
  have HIX : Hid (∀ s W, Below W1.heap.size W1 W → Calls Try.prog 62 #[.slice na nn nc, .string s] W fun e w' => e = .returned (.int .i64 (IX s)) ∧ w' = W) := fun s W hW => by
    rw [← HIXE]
    exact (index_c (.slice na nn nc) nl s W (by show Reads _ _ _ _; rw [hN]; exact R0.out.below hW)).mono fun e w' h => ⟨h.1, h.2.symm⟩
  have BW := Lib.hid B1
  have hxb : w.heap.size < W1.heap.size := K1.lt
  have K1' := Lib.hid K1
  have x1 := K1.cell 1 rfl
  obtain ⟨i0, hi0, hz0, hz1, hz2⟩ := info_parts infoPr
  clear r0 r1 B1 K1 hS hN
  go_enter Try.func59, Try.ntmps59
  go_wp2_with fail
  go_loopw [9, 3] (fun i l wr => ∃ k : Nat, k ≤ sn ∧ i = .int .i64 k ∧ Hid (wr.ownsRow W1.heap.size 117 2 l k (flat prC ((sws.take k).map EF))) ∧ Hid (Below W1.heap.size W1 wr)) (fun i _ _ => sn - (intOf i).toNat)
  case atStart => exact ⟨0, Nat.zero_le _, rfl, World.ownsRow_nil _ _ _ _, Below.refl _ _⟩
  case round =>
    clear x1
    obtain ⟨k, hk, rfl, how, hbl⟩ := hrel
    obtain ⟨lva, lvc, rfl⟩ := row_slice how.out
    by_cases hlt : k < sn
    ·
      obtain ⟨x, hx⟩ : ∃ x, sws[k]? = some x := ⟨_, List.getElem?_eq_getElem (by rw [HS.out]; exact hlt)⟩
      obtain ⟨g, off, cap', hvv, _, _, _, hc⟩ := (R1.out.below hbl.out).addr (by omega)
      simp only [Value.slice.injEq] at hvv
      obtain ⟨rfl, _, rfl⟩ := hvv
      obtain ⟨c0, c1, c2, c3, c4⟩ := sw_cells hc hx
      have hmt := map_take_succ EF hx
      obtain ⟨nm, fr, tt, bk, op⟩ := x
      simp only at c0 c1 c2 c3 c4
      rw [HEF.out] at hmt
      have HMT := Lib.hid hmt
      clear hmt hx hc
      have e2 := Blk.new wr #[.string nm, .string fr, .string tt, .bool bk, .bool op] 108
      have hb2 := hbl.out.alloc hbl.out.size (.cells #[.string nm, .string fr, .string tt, .bool bk, .bool op] 108)
      have ho2 := row_alloc how.out (.cells #[.string nm, .string fr, .string tt, .bool bk, .bool op] 108)
      have k2 := (below_blk hbl.out K1'.out hxb).alloc (.cells #[.string nm, .string fr, .string tt, .bool bk, .bool op] 108)
      have HA1 := Lib.hid (fun s => HIX.out s (wr.alloc (.cells #[.string nm, .string fr, .string tt, .bool bk, .bool op] 108)).drew ⟨hb2.os, hb2.tape, hb2.output, hb2.size, hb2.block⟩)
      have HE2 := Lib.hid e2
      have HK2 := Lib.hid k2
      have HB2 : Hid (Below W1.heap.size W1 (wr.alloc (.cells #[.string nm, .string fr, .string tt, .bool bk, .bool op] 108)).drew) := ⟨hb2.os, hb2.tape, hb2.output, hb2.size, hb2.block⟩
      have HO2 : Hid ((wr.alloc (.cells #[.string nm, .string fr, .string tt, .bool bk, .bool op] 108)).drew.ownsRow W1.heap.size 117 2 (.slice lva k lvc) k (flat prC ((sws.take k).map EF))) := ho2
      have HRL := Lib.hid (row_lt how.out)
      clear e2 hb2 ho2 k2
      go_wp2_with fail
      generalize wr.alloc (.cells #[.string nm, .string fr, .string tt, .bool bk, .bool op] 108) = W2 at *
      have HL : Hid ((W2.drew.alloc (.cells #[.int .i64 (IX fr), .int .i64 (IX tt)] 117)).ownsRow W1.heap.size 117 2 (.slice lva k lvc) k (flat prC ((sws.take k).map EF))) := row_alloc HO2.out _
      have HBA : Hid (Below W1.heap.size W1 (W2.drew.alloc (.cells #[.int .i64 (IX fr), .int .i64 (IX tt)] 117))) := HB2.out.alloc HB2.out.size _
      have N1 : Hid (∀ j u, [Value.int .i64 (IX fr), .int .i64 (IX tt)][j]? = some u → (W2.drew.alloc (.cells #[.int .i64 (IX fr), .int .i64 (IX tt)] 117)).cell? ((⟨W2.heap.size, 0, none⟩ : Addr).add j) = some u) := (Blk.new W2.drew #[.int .i64 (IX fr), .int .i64 (IX tt)] 117).row
      have S1 := Lib.hid (HE2.out.drew.alloc (.cells #[.int .i64 (IX fr), .int .i64 (IX tt)] 117))
      have T1 := Lib.hid (HK2.out.drew.alloc (.cells #[.int .i64 (IX fr), .int .i64 (IX tt)] 117))
      have HKP : Hid (∀ u1, (W2.drew.alloc (.cells #[.int .i64 (IX fr), .int .i64 (IX tt)] 117)).grownBy u1 (Value.slice lva k lvc).ownBlock → Blk u1 wr.heap.size #[.string nm, .string fr, .string tt, .bool bk, .bool op] 108 ∧ Blk u1 w.heap.size #[.slice na nn nc, .slice (some ⟨g, off, none⟩) sn sc, .slice ba bn bc, .slice ga gn gc, .slice la ln lc, .slice ta tn tc] 29) := fun u1 hg =>
        ⟨blk_grown S1.out hg (fun e => Nat.lt_irrefl _ (HRL.out _ e.symm)), blk_grown T1.out hg (fun e => by have := row_own HL.out _ e.symm; omega)⟩
      have HL1 : Hid (k + 1 ≤ maxLen) := by show _ ≤ _; unfold maxLen; omega
      have HL2 : Hid ((k + 1) * 16 ≤ 140737488355328) := by show _ ≤ _; omega
      have T0 := HK2.out.drew
      have S0 := HE2.out.drew
      have HAA : Hid (W2.drew.cell? ⟨w.heap.size, 0, none⟩ = some (.slice na nn nc) ∧ W2.drew.cell? ⟨wr.heap.size, 1, none⟩ = some (.string fr) ∧ W2.drew.cell? ⟨wr.heap.size, 2, none⟩ = some (.string tt)) := ⟨T0.cell 0 rfl, S0.cell 1 rfl, S0.cell 2 rfl⟩
      have HAB : Hid ((W2.drew.alloc (.cells #[.int .i64 (IX fr), .int .i64 (IX tt)] 117)).cell? ⟨w.heap.size, 0, none⟩ = some (.slice na nn nc) ∧ (W2.drew.alloc (.cells #[.int .i64 (IX fr), .int .i64 (IX tt)] 117)).cell? ⟨wr.heap.size, 1, none⟩ = some (.string fr) ∧ (W2.drew.alloc (.cells #[.int .i64 (IX fr), .int .i64 (IX tt)] 117)).cell? ⟨wr.heap.size, 2, none⟩ = some (.string tt)) := ⟨T1.out.cell 0 rfl, S1.out.cell 1 rfl, S1.out.cell 2 rfl⟩
      clear T0 S0
      go_region_held3 (fun W => W.cell? ⟨w.heap.size, 0, none⟩ = some (.slice na nn nc) ∧ W.cell? ⟨wr.heap.size, 1, none⟩ = some (.string fr) ∧ W.cell? ⟨wr.heap.size, 2, none⟩ = some (.string tt))
        (first
          | with_reducible exact HAA.out
          | with_reducible exact HAB.out
          | with_reducible exact SU.out
          | exact HAB.out)
        (first
          | (go_at_call 62; refine (HA1.out _).mono ?_; rintro e w' ⟨rfl, rfl⟩)
          | (refine step_append_lies _ rfl (.tmp 13) (.tmp 25) 92 rfl W1.heap.size 117 i0 (.agg #[.int .i64 0, .int .i64 0]) 2 16 Try.underlying92 hi0 hz0 hz1 hz2 rfl (by decide) (.slice lva k lvc) k (flat prC ((sws.take k).map EF)) rfl HL.out ⟨W2.heap.size, 0, none⟩ 1 1 [.int .i64 (IX fr), .int .i64 (IX tt)] rfl rfl N1.out (ints_one [IX fr, IX tt]) (by decide) HL1.out HL2.out HBA.out.size _ rfl ?_; intro g1 cap1 u1 hown1 hgrow1 hat1 hlt1; have HOW := Lib.hid hown1; have HGR := Lib.hid hgrow1; have SU : Hid (u1.cell? ⟨w.heap.size, 0, none⟩ = some (.slice na nn nc) ∧ u1.cell? ⟨wr.heap.size, 1, none⟩ = some (.string fr) ∧ u1.cell? ⟨wr.heap.size, 2, none⟩ = some (.string tt)) := ⟨(HKP.out u1 hgrow1).2.cell 0 rfl, (HKP.out u1 hgrow1).1.cell 1 rfl, (HKP.out u1 hgrow1).1.cell 2 rfl⟩; clear hown1 hgrow1 hat1 hlt1))
      all_goals
        go_simp
        go_wp2_with fail
        go_roundw
        case rel => exact ⟨k + 1, hlt, by go_num, by show World.ownsRow _ _ _ _ _ _ _; rw [HMT.out, flat_snoc]; exact HOW.out, Below.grown HBA.out HGR.out HBA.out.size (row_own HL.out)⟩
        case measure => simp [intOf]; omega
    ·
      have hkn : sn = k := by omega
      have HTK : Hid (SE = (sws.take k).map EF) := by show _ = _; rw [HSE.out, List.take_of_length_le (by rw [HS.out]; omega)]
      have HLL : Hid ((sws.take k).map EF = SE) := HTK.out.symm
      have hSL : SE.length = k := by rw [HSE.out, List.length_map, HS.out, hkn]
      have HSL := Lib.hid hSL
      clear hSL
      go_wp2_with fail
      go_ret
      refine ⟨_, rfl, ?_, belowT BW.out hbl.out⟩
      rw [HSL.out, ← HLL.out]
      exact Reads.of_owns how.out (by omega)
end Go.Proofs.Ythcddboeejbncaa
namespace Go.Proofs.Ythcddboeejbncaa
open Go.RowKit

def cntE (l : List Int) : Int := l.foldl (fun n p => max n (p + 1)) 0
theorem cnt_fold : ∀ (l : List Int) (a : Int), a ≤ l.foldl (fun n p => max n (p + 1)) a ∧ (∀ x ∈ l, x + 1 ≤ l.foldl (fun n p => max n (p + 1)) a) ∧ (∀ b, a ≤ b → (∀ x ∈ l, x + 1 ≤ b) → l.foldl (fun n p => max n (p + 1)) a ≤ b) := by
  intro l
  induction l with
  | nil => intro a; exact ⟨Int.le_refl _, fun x hx => by (cases hx), fun b h _ => h⟩
  | cons y ys ih =>
    intro a
    obtain ⟨h1, h2, h3⟩ := ih (max a (y + 1))
    refine ⟨?_, fun x hx => ?_, fun b hb hx => ?_⟩
    · show a ≤ ys.foldl _ (max a (y + 1)); omega
    · rcases List.mem_cons.1 hx with rfl | hx
      · show x + 1 ≤ ys.foldl _ (max a (x + 1)); omega
      · exact h2 x hx
    · refine h3 b ?_ (fun x h => hx x (List.mem_cons_of_mem _ h))
      have := hx y (List.mem_cons_self ..); omega
theorem cntE_ge {l : List Int} {x : Int} (h : x ∈ l) : x < cntE l := by have := (cnt_fold l 0).2.1 x h; unfold cntE; omega
theorem cntE_nonneg (l : List Int) : 0 ≤ cntE l := (cnt_fold l 0).1
theorem cntE_le {l : List Int} {b : Int} (hb : 0 ≤ b) (h : ∀ x ∈ l, x + 1 ≤ b) : cntE l ≤ b := (cnt_fold l 0).2.2 b hb h

set_option maxHeartbeats 1000000 in
theorem count_c (v : Value) (l : List Int) (w : World) (hv : IVal w v l) (hr : ∀ x ∈ l, -1 ≤ x ∧ x ≤ 1000000) :
    Calls Try.prog 42 #[v] w fun e w' => e = .returned (.int .i64 (cntE l)) ∧ w = w' := by
  obtain ⟨a, cap, rfl⟩ := hv.slice
  have hn : l.length ≤ 9223372036854775807 := by
    rcases hv with ⟨h, _⟩ | ⟨_, _, _, _, _, h, _⟩
    · omega
    · exact h
  have HE : Hid ((l.drop 0).foldl (fun n p => max n (p + 1)) 0 = cntE l) := rfl
  generalize cntE l = E at *
  obtain ⟨n, hN⟩ : ∃ n, l.length = n := ⟨_, rfl⟩
  have HN := Lib.hid hN
  have HV2 : Hid (Reads w (.slice a n cap) n (ints l)) := by show Reads _ _ _ _; rw [← hN]; exact hv
  have HR := Lib.hid hr
  rw [hN] at hn ⊢
  clear hN hv hr
  go_enter Try.func42, Try.ntmps42
  go_wp2_with fail
  go_loop [3, 8] (fun m i => ∃ (k : Nat) (x : Int), k ≤ n ∧ i = .int .i64 k ∧ m = .int .i64 x ∧ 0 ≤ x ∧ x ≤ 1000001 ∧ Hid ((l.drop k).foldl (fun n p => max n (p + 1)) x = E)) (fun _ i => n - (intOf i).toNat)
  case atStart => exact ⟨0, 0, Nat.zero_le _, rfl, rfl, by omega, by omega, HE⟩
  case round =>
    obtain ⟨k, x, hk, rfl, rfl, x0, x1, he⟩ := hrel
    by_cases hlt : k < n
    · obtain ⟨b, off, cap', hvv, _, _, hbl, hc⟩ := HV2.out.addr (by omega)
      simp only [Value.slice.injEq] at hvv
      obtain ⟨rfl, _, rfl⟩ := hvv
      have hlk : k < l.length := by rw [HN.out]; exact hlt
      have c0 := hc k _ (ints_get hlk)
      have hge : l.getD k 0 = l[k] := by simp [hlk]
      have hm : l.getD k 0 ∈ l := by rw [hge]; exact List.getElem_mem hlk
      have hrr := HR.out _ hm
      have hd : (l.drop k).foldl (fun n p => max n (p + 1)) x = (l.drop (k + 1)).foldl (fun n p => max n (p + 1)) (max x (l.getD k 0 + 1)) := by
        rw [List.drop_eq_getElem_cons hlk, hge]; rfl
      rw [he.out] at hd
      clear hge
      generalize l.getD k 0 = y at *
      by_cases hxy : x < y + 1
      · have HD : Hid (E = (l.drop (k + 1)).foldl (fun n p => max n (p + 1)) (y + 1)) := by show _ = _; rw [hd, Int.max_eq_right (by omega)]
        clear hd hc hm he
        go_wp2_with fail
        go_round
        case rel => exact ⟨k + 1, y + 1, hlt, by go_num, by first | rfl | (congr 1; omega), by omega, by omega, HD.out.symm⟩
        case measure => simp [intOf]; omega
      · have HD : Hid (E = (l.drop (k + 1)).foldl (fun n p => max n (p + 1)) x) := by show _ = _; rw [hd, Int.max_eq_left (by omega)]
        clear hd hc hm he
        go_wp2_with fail
        go_round
        case rel => exact ⟨k + 1, x, hlt, by go_num, by first | rfl | (congr 1; omega), x0, x1, HD.out.symm⟩
        case measure => simp [intOf]; omega
    · have hkn : l.drop k = [] := List.drop_eq_nil_of_le (by rw [HN.out]; omega)
      have HX : Hid (E = x) := by show _ = _; rw [← he.out, hkn]; rfl
      clear he hkn
      go_wp2_with fail
      go_ret
      exact ⟨by rw [HX.out]; rfl, rfl⟩

theorem mul1 (n : Nat) (h : n < 18446744073709551616) (w : World) :
    Calls Try.prog 78 #[.int .u64 1, .int .u64 n] w fun e w' => e = .returned (.tuple #[.int .u64 0, .int .u64 n]) ∧ w = w' :=
  (Try.bits_Mul 1 n (by decide) h w).mono fun e w' ⟨h1, h2⟩ => by
    rw [h1, h2, Nat.one_mul, Nat.div_eq_of_lt h, Nat.mod_eq_of_lt h]; exact ⟨rfl, rfl⟩
theorem rep_splice (c : Int) (n k m : Nat) (hk : k ≤ n) (hm : k + m ≤ n) : splice (ints (List.replicate k c ++ List.replicate (n - k) 0)) k (ints (List.replicate m c)) = ints (List.replicate (k + m) c ++ List.replicate (n - (k + m)) 0) := by
  unfold splice ints
  apply List.ext_getElem?
  intro i
  simp only [List.map_append, List.map_replicate, List.length_replicate, List.getElem?_append, List.getElem?_take, List.getElem?_drop, List.getElem?_replicate, List.length_append, List.length_take]
  repeat' split
  all_goals first | rfl | (exfalso; omega)
theorem rep_splice0 (c : Int) (n m : Nat) (hm : m ≤ n) : splice (ints (List.replicate n 0)) 0 (ints (List.replicate m c)) = ints (List.replicate m c ++ List.replicate (n - m) 0) := by
  have := rep_splice c n 0 m (Nat.zero_le _) (by omega)
  simpa using this
theorem sizeInt : (Try.prog.info? 3).map (·.size) = some 1 := by kernel_rfl
set_option maxHeartbeats 2000000 in
set_option maxRecDepth 100000 in
theorem repeat_c (b : Nat) (c : Int) (n : Nat) (w : World) (hn : n ≤ 1000) (hb : b < w.heap.size) (hc : w.cell? ⟨b, 0, none⟩ = some (.int .i64 c)) :
    Calls Try.prog 61 #[.slice (some ⟨b, 0, none⟩) 1 1, .int .i64 n] w fun e w' => e = .returned (.slice (some ⟨w.heap.size, 0, none⟩) n n) ∧ Blk w' w.heap.size (ints (List.replicate n c)).toArray 3 ∧ Below w.heap.size w w' := by
  obtain ⟨i0, hi0, hz0, hz1, hz2⟩ := info_parts infoIntL
  have HM := Lib.hid (mul1 n (by omega) w)
  have g1 : decide ((9223372036854775807 : Int) < (n : Int)) = false := decide_eq_false (by omega)
  have B1 : Hid (Below w.heap.size w (w.alloc (.cells (madeCells #[.int .i64 0] n) 3))) := belowA (Below.refl _ w) _
  have K1 : Hid (Blk (w.alloc (.cells (madeCells #[.int .i64 0] n) 3)) w.heap.size (ints (List.replicate n 0)).toArray 3) := by
    have := Blk.new w (madeCells #[.int .i64 0] n) 3
    show Blk _ _ _ _
    rw [← made_ints]; exact this
  obtain ⟨k0, hk0⟩ : ∃ k, min 1 n = k := ⟨_, rfl⟩
  obtain ⟨cs, hcs⟩ : ∃ cs, ints (List.replicate k0 c) = cs := ⟨_, rfl⟩
  have hcl : cs.length = k0 := by rw [← hcs]; simp [ints]
  have HC1 : Hid (∀ j v, cs[j]? = some v → (w.alloc (.cells (madeCells #[.int .i64 0] n) 3)).cell? ((⟨b, 0, none⟩ : Addr).add j) = some v) := by
    intro j v hj
    rw [← hcs] at hj
    have hj0 : j < k0 := by
      rcases Nat.lt_or_ge j k0 with h | h
      · exact h
      · simp [ints, h] at hj
    have : j = 0 := by omega
    subst this
    have hv : v = .int .i64 c := by simp [ints, hj0] at hj; exact hj.symm
    rw [hv]
    show World.cell? _ ⟨b, 0, none⟩ = _
    rw [B1.out.cell (p := ⟨b, 0, none⟩) hb]; exact hc
  have HC2 : Hid (cs.length = Nat.min 1 n) := hcl.trans hk0.symm
  have HC3 : Hid (0 + cs.length ≤ (ints (List.replicate n 0)).length) := by show _ ≤ _; rw [hcl, ← hk0]; simp [ints]; omega
  have HC4 : Hid (∀ v ∈ cs, v.oneCell' = true) := by show ∀ v ∈ cs, _; rw [← hcs]; exact ints_one _
  have HS0 : Hid (splice (ints (List.replicate n 0)) 0 cs = ints (List.replicate k0 c ++ List.replicate (n - k0) 0)) := by show _ = _; rw [← hcs]; exact rep_splice0 c n k0 (by omega)
  have HK0 : Hid (cs.length = k0) := hcl
  have hkn : k0 ≤ n := by omega
  have hk1 : 1 ≤ k0 ∨ n = 0 := by omega
  clear hc hcs hcl hk0
  go_enter Try.func61, Try.ntmps61
  go_wp2_with fail
  refine HM.out.mono ?_; rintro e w1 ⟨rfl, rfl⟩
  go_wp2_with (first
    | (at_make; refine wpList_make_row _ rfl _ _ 39 rfl 3 i0 (.int .i64 0) Try.underlying39 hi0 hz0 hz1 rfl .i64 .i64 n rfl rfl (by rw [hz2]; omega) (by omega) ?_)
    | (refine wpList_copy_splice (o := ⟨some 33, _, _, _, _, _⟩) rfl (.tmp 31) (.tmp 32) 39 39 rfl 3 Try.underlying39 sizeInt (some ⟨w.heap.size, 0, none⟩) (some ⟨b, 0, none⟩) n n 1 1 rfl rfl w.heap.size 0 (ints (List.replicate n 0)) 3 K1.out cs HC2.out (fun _ => ⟨rfl, _, rfl, HC1.out⟩) HC3.out HC4.out w.heap.size w B1.out (Nat.le_refl _) ?_; intro w2 hg2 hb2))
  rw [HS0.out] at hg2
  have HG2 : Hid (Blk w2 w.heap.size (ints (List.replicate k0 c ++ List.replicate (n - k0) 0)).toArray 3) := hg2
  have HB2 := Lib.hid hb2
  rw [HK0.out]
  clear hg2 hb2 HS0 HC1 HC2 HC3 HC4 HK0 K1 B1
  go_loopw [8] (fun i wr => ∃ k : Nat, k ≤ n ∧ (1 ≤ k ∨ n = 0) ∧ i = .int .i64 k ∧ Hid (Blk wr w.heap.size (ints (List.replicate k c ++ List.replicate (n - k) 0)).toArray 3) ∧ Hid (Below w.heap.size w wr)) (fun i _ => n - (intOf i).toNat)
  case atStart => exact ⟨k0, hkn, hk1, rfl, HG2, HB2⟩
  case round =>
    clear HG2 HB2 hk1 hkn
    obtain ⟨k, hk, hk1, rfl, hg, hb2⟩ := hrel
    by_cases hlt : k < n
    ·
      have hk1' : 1 ≤ k := by omega
      obtain ⟨m, hm⟩ : ∃ m, min k (n - k) = m := ⟨_, rfl⟩
      obtain ⟨cs, hcs⟩ : ∃ cs, ints (List.replicate m c) = cs := ⟨_, rfl⟩
      obtain ⟨L, hL⟩ : ∃ L, ints (List.replicate k c ++ List.replicate (n - k) 0) = L := ⟨_, rfl⟩
      have hcl : cs.length = m := by rw [← hcs]; simp [ints]
      have hLl : L.length = n := by rw [← hL]; simp [ints]; omega
      have HBD : Hid (Below w.heap.size w wr.drew) := ⟨hb2.out.os, hb2.out.tape, hb2.out.output, hb2.out.size, hb2.out.block⟩
      have HC1 : Hid (∀ j v, cs[j]? = some v → wr.drew.cell? ((⟨w.heap.size, 0, none⟩ : Addr).add j) = some v) := by
        intro j v hj
        have hjm : j < m := by
          rcases Nat.lt_or_ge j m with h | h
          · exact h
          · rw [List.getElem?_eq_none (by omega)] at hj; cases hj
        have hLj : L[j]? = some v := by
          rw [← hj, ← hL, ← hcs]
          unfold ints
          rw [List.getElem?_map, List.getElem?_map, List.getElem?_append_left (by simp; omega), List.getElem?_replicate, List.getElem?_replicate, if_pos (by omega), if_pos hjm]
        have e : (⟨w.heap.size, 0, none⟩ : Addr).add j = ⟨w.heap.size, j, none⟩ := by unfold Addr.add; split <;> simp_all
        rw [e]
        exact hg.out.drew.cell j (by rw [hL]; simpa using hLj)
      have HC2 : Hid (cs.length = Nat.min k (n - k)) := hcl.trans hm.symm
      have HC3 : Hid (k + cs.length ≤ L.length) := by show _ ≤ _; omega
      have HC4 : Hid (∀ v ∈ cs, v.oneCell' = true) := by show ∀ v ∈ cs, _; rw [← hcs]; exact ints_one _
      have HS0 : Hid (splice L k cs = ints (List.replicate (k + m) c ++ List.replicate (n - (k + m)) 0)) := by show _ = _; rw [← hcs, ← hL]; exact rep_splice c n k m (by omega) (by omega)
      have HK0 : Hid (cs.length = m) := hcl
      have hg0 : wr.drew.heap[w.heap.size]? = some (.cells L.toArray 3 (0, 0)) := by have := hg.out; rw [hL] at this; exact this
      have HG0 := Lib.hid hg0
      have hmk : 1 ≤ m := by omega
      have hkm : k + m ≤ n := by omega
      have hkl : ((cs.length : Nat) : Int) = (m : Int) := by rw [hcl]
      have HKL := Lib.hid hkl
      clear hcl hLl hcs hL hg hg0 hm hkl
      go_wp2_with fail
      have hnk : ¬ n = k := by omega
      have hcp : (Builtin.copy_ #[39, 39] 3 #[.slice (some ⟨w.heap.size, k, none⟩) (n - k) (n - k), .slice (some ⟨w.heap.size, 0, none⟩) k n]).run Try.prog wr.drew = .ok (.int .i64 m) (wr.drew.setRow w.heap.size (splice L k cs).toArray) := by
        have := run_copy_row (P := Try.prog) wr.drew 39 39 3 3 w.heap.size k (n - k) (n - k) ⟨w.heap.size, 0, none⟩ k n L.toArray 3 cs Try.underlying39 sizeInt HG0.out HC2.out HC1.out (by simpa using HC3.out) HC4.out
        rw [HK0.out] at this
        rw [this]; unfold splice; simp [HK0.out]; rfl
      have HGN : Hid (Blk (wr.drew.setRow w.heap.size (splice L k cs).toArray) w.heap.size (ints (List.replicate (k + m) c ++ List.replicate (n - (k + m)) 0)).toArray 3) := by
        show Blk _ _ _ _
        rw [← HS0.out]; exact setRow_heap wr.drew w.heap.size _ _ 3 _ HG0.out
      have HBN : Hid (Below w.heap.size w (wr.drew.setRow w.heap.size (splice L k cs).toArray)) := below_setRow HBD.out (Nat.le_refl _) _
      generalize wr.drew.setRow w.heap.size (splice L k cs).toArray = W5 at *
      go_region
      all_goals
        go_wp2_with fail
        go_roundw
        case rel => exact ⟨k + m, hkm, Or.inl (by omega), by go_num, HGN, HBN⟩
        case measure => simp [intOf]; omega
    ·
      have hkn : k = n := by omega
      subst hkn
      have HKF : Hid (Blk wr w.heap.size (ints (List.replicate k c)).toArray 3) := by show Blk _ _ _ _; have := hg.out; simpa using this
      clear hg
      go_wp2_with fail
      go_ret
      exact ⟨rfl, HKF.out, hb2.out⟩
end Go.Proofs.Ythcddboeejbncaa
namespace Go.Proofs.Ythcddboeejbncaa
open Go.RowKit

def pHit (U : Nat → Bool) (m : Int) (out : List Int) (i : Nat) (x : Int × Int) : Bool := ((out.getD x.1.toNat 0 == m) != (out.getD x.2.toNat 0 == m)) && U i
def pStep (U : Nat → Bool) (m : Int) (st : List Int × Bool) (i : Nat) (x : Int × Int) : List Int × Bool := if pHit U m st.1 i x = true then ((st.1.set x.1.toNat m).set x.2.toNat m, true) else st
def pPass (U : Nat → Bool) (m : Int) : List (Int × Int) → Nat → List Int × Bool → List Int × Bool
  | [], _, st => st
  | x :: xs, i, st => pPass U m xs (i + 1) (pStep U m st i x)
theorem pPass_drop {U : Nat → Bool} {m : Int} {l : List (Int × Int)} {k : Nat} {x : Int × Int} {st : List Int × Bool} (h : l[k]? = some x) : pPass U m (l.drop k) k st = pPass U m (l.drop (k + 1)) (k + 1) (pStep U m st k x) := by
  obtain ⟨hk, hx⟩ := List.getElem?_eq_some_iff.1 h
  rw [List.drop_eq_getElem_cons hk, hx]; rfl
/-- How many entries are not m. -/
def muP (m : Int) (d : List Int) : Nat := (d.map (fun x => if x = m then 0 else 1)).sum
theorem muP_set (m : Int) : ∀ (d : List Int) (i : Nat), muP m (d.set i m) ≤ muP m d ∧ (i < d.length → d.getD i 0 ≠ m → muP m (d.set i m) < muP m d) := by
  intro d
  induction d with
  | nil => intro i; simp [muP]
  | cons x xs ih =>
    intro i
    cases i with
    | zero =>
      simp only [muP, List.set_cons_zero, List.map_cons, List.sum_cons, if_true, List.getD_cons_zero]
      refine ⟨by omega, fun _ h => ?_⟩
      rw [if_neg h]; omega
    | succ i =>
      obtain ⟨h1, h2⟩ := ih i
      simp only [muP, List.set_cons_succ, List.map_cons, List.sum_cons, List.getD_cons_succ, List.length_cons] at h1 h2 ⊢
      refine ⟨by omega, fun h h' => ?_⟩
      have := h2 (by omega) h'
      omega
/-- Pairs of nodes below n. -/
def PrOk (n : Nat) (l : List (Int × Int)) : Prop := ∀ x ∈ l, 0 ≤ x.1 ∧ x.1 < n ∧ 0 ≤ x.2 ∧ x.2 < n
theorem pStep_good {U : Nat → Bool} {m : Int} {n : Nat} {d : List Int} {q : Bool} {i : Nat} {x : Int × Int} (hd : d.length = n) (hx : 0 ≤ x.1 ∧ x.1 < n ∧ 0 ≤ x.2 ∧ x.2 < n) :
    (pStep U m (d, q) i x).1.length = n ∧ (pStep U m (d, q) i x = (d, q) ∨ ((pStep U m (d, q) i x).2 = true ∧ muP m (pStep U m (d, q) i x).1 < muP m d)) := by
  unfold pStep
  by_cases h : pHit U m (d, q).1 i x = true
  · rw [if_pos h]
    refine ⟨by simp [hd], Or.inr ⟨rfl, ?_⟩⟩
    unfold pHit at h
    simp only [Bool.and_eq_true] at h
    have h1 := h.1
    show muP m ((d.set x.1.toNat m).set x.2.toNat m) < muP m d
    have a1 := muP_set m d x.1.toNat
    have a2 := muP_set m (d.set x.1.toNat m) x.2.toNat
    by_cases e1 : d.getD x.1.toNat 0 = m
    · have e2 : d.getD x.2.toNat 0 ≠ m := by
        intro e2
        simp only [e1, e2] at h1
        simp at h1
      have ne : x.1.toNat ≠ x.2.toNat := by intro e; rw [e] at e1; exact e2 e1
      have e3 : (d.set x.1.toNat m).getD x.2.toNat 0 ≠ m := by
        rw [List.getD_eq_getElem?_getD, List.getElem?_set_ne ne, ← List.getD_eq_getElem?_getD]; exact e2
      have := a2.2 (by simp; omega) e3
      omega
    · have := a1.2 (by omega) e1
      omega
  · rw [if_neg h]
    exact ⟨hd, Or.inl rfl⟩
theorem pPass_good {U : Nat → Bool} {m : Int} {n : Nat} : ∀ (l : List (Int × Int)) (i : Nat) (d : List Int) (q : Bool), PrOk n l → d.length = n →
    (pPass U m l i (d, q)).1.length = n ∧ (pPass U m l i (d, q) = (d, q) ∨ ((pPass U m l i (d, q)).2 = true ∧ muP m (pPass U m l i (d, q)).1 < muP m d)) := by
  intro l
  induction l with
  | nil => intro i d q _ hd; exact ⟨hd, Or.inl rfl⟩
  | cons x xs ih =>
    intro i d q hl hd
    have hx := hl x (List.mem_cons_self ..)
    have hxs : PrOk n xs := fun y hy => hl y (List.mem_cons_of_mem _ hy)
    show (pPass U m xs (i + 1) (pStep U m (d, q) i x)).1.length = n ∧ (pPass U m xs (i + 1) (pStep U m (d, q) i x) = (d, q) ∨ ((pPass U m xs (i + 1) (pStep U m (d, q) i x)).2 = true ∧ muP m (pPass U m xs (i + 1) (pStep U m (d, q) i x)).1 < muP m d))
    obtain ⟨h1, h2⟩ := pStep_good (U := U) (m := m) (q := q) (i := i) hd hx
    rcases h2 with h2 | ⟨h2, h3⟩
    · rw [h2]; exact ih (i + 1) d q hxs hd
    · obtain ⟨d', hd'⟩ : ∃ d', (pStep U m (d, q) i x).1 = d' := ⟨_, rfl⟩
      have e : pStep U m (d, q) i x = (d', true) := by rw [← hd', ← h2]
      rw [hd'] at h1 h3
      rw [e]
      obtain ⟨g1, g2⟩ := ih (i + 1) d' true hxs h1
      refine ⟨g1, Or.inr ?_⟩
      rcases g2 with g2 | ⟨g2, g3⟩
      · rw [g2]; exact ⟨rfl, h3⟩
      · exact ⟨g2, by omega⟩
def pGrowF (U : Nat → Bool) (m : Int) (l : List (Int × Int)) : Nat → List Int → List Int
  | 0, d => d
  | f + 1, d => if (pPass U m l 0 (d, false)).2 = true then pGrowF U m l f (pPass U m l 0 (d, false)).1 else (pPass U m l 0 (d, false)).1
def pGrow (U : Nat → Bool) (m : Int) (l : List (Int × Int)) (d : List Int) : List Int := pGrowF U m l (muP m d + 1) d
theorem pGrowF_eq {U : Nat → Bool} {m : Int} {n : Nat} {l : List (Int × Int)} (hl : PrOk n l) : ∀ (f g : Nat) (d : List Int), d.length = n → muP m d < f → muP m d < g → pGrowF U m l f d = pGrowF U m l g d := by
  intro f
  induction f with
  | zero => intro g d _ h; omega
  | succ f ih =>
    intro g d hd hf hg
    cases g with
    | zero => omega
    | succ g =>
      unfold pGrowF
      obtain ⟨h1, h2⟩ := pPass_good (U := U) (m := m) l 0 d false hl hd
      split
      · rename_i hq
        rcases h2 with h2 | ⟨_, h3⟩
        · rw [h2] at hq; cases hq
        · exact ih g _ h1 (by omega) (by omega)
      · rfl
theorem pGrow_step {U : Nat → Bool} {m : Int} {n : Nat} {l : List (Int × Int)} (hl : PrOk n l) {d : List Int} (hd : d.length = n) :
    pGrow U m l d = if (pPass U m l 0 (d, false)).2 = true then pGrow U m l (pPass U m l 0 (d, false)).1 else (pPass U m l 0 (d, false)).1 := by
  obtain ⟨h1, h2⟩ := pPass_good (U := U) (m := m) l 0 d false hl hd
  show pGrowF U m l (muP m d + 1) d = _
  conv => lhs; unfold pGrowF
  split
  · rename_i hq
    rcases h2 with h2 | ⟨_, h3⟩
    · rw [h2] at hq; cases hq
    · exact pGrowF_eq hl _ _ _ h1 (by omega) (by omega)
  · rfl
def pOut (U : Nat → Bool) (l : List (Int × Int)) : Nat → Nat → List Int × Int → List Int × Int
  | 0, _, st => st
  | r + 1, s, st => pOut U l r (s + 1) (if 0 ≤ st.1.getD s 0 then st else (pGrow U st.2 l (st.1.set s st.2), st.2 + 1))
/-- What graph.Parts returns. -/
def partsE (n : Nat) (l : List (Int × Int)) (U : Nat → Bool) : List Int := (pOut U l n 0 (List.replicate n (-1), 0)).1

/-- Every entry is an old one, or m. -/
def Mix (m : Int) (d d' : List Int) : Prop := d'.length = d.length ∧ ∀ i, d'.getD i 0 = d.getD i 0 ∨ d'.getD i 0 = m
theorem Mix.refl (m : Int) (d : List Int) : Mix m d d := ⟨rfl, fun _ => Or.inl rfl⟩
theorem Mix.trans {m : Int} {d d' d'' : List Int} (h : Mix m d d') (k : Mix m d' d'') : Mix m d d'' :=
  ⟨k.1.trans h.1, fun i => by rcases k.2 i with e | e; · rw [e]; exact h.2 i
                              · exact Or.inr e⟩
theorem Mix.set (m : Int) (d : List Int) (i : Nat) : Mix m d (d.set i m) := by
  refine ⟨by simp, fun j => ?_⟩
  simp only [List.getD_eq_getElem?_getD, List.getElem?_set]
  split
  · split
    · exact Or.inr rfl
    · rename_i h1 h2; left; subst h1; rw [List.getElem?_eq_none (by omega)]
  · exact Or.inl rfl
theorem pPass_mix (U : Nat → Bool) (m : Int) : ∀ (l : List (Int × Int)) (i : Nat) (st : List Int × Bool), Mix m st.1 (pPass U m l i st).1 := by
  intro l
  induction l with
  | nil => intro i st; exact Mix.refl _ _
  | cons x xs ih =>
    intro i st
    refine Mix.trans ?_ (ih (i + 1) _)
    unfold pStep
    split
    · exact (Mix.set m st.1 _).trans (Mix.set m _ _)
    · exact Mix.refl _ _
theorem pGrowF_mix (U : Nat → Bool) (m : Int) (l : List (Int × Int)) : ∀ (f : Nat) (d : List Int), Mix m d (pGrowF U m l f d) := by
  intro f
  induction f with
  | zero => intro d; exact Mix.refl _ _
  | succ f ih =>
    intro d
    unfold pGrowF
    split
    · exact (pPass_mix U m l 0 (d, false)).trans (ih _)
    · exact pPass_mix U m l 0 (d, false)
theorem pGrow_mix (U : Nat → Bool) (m : Int) (l : List (Int × Int)) (d : List Int) : Mix m d (pGrow U m l d) := pGrowF_mix U m l _ d
/-- What the entries are when s nodes have been looked at. -/
structure POk (n s : Nat) (d : List Int) (m : Int) : Prop where
  len : d.length = n
  m0 : 0 ≤ m
  m1 : m ≤ s
  lo : ∀ i, i < n → -1 ≤ d.getD i 0 ∧ d.getD i 0 < m
  seen : ∀ i, i < s → i < n → 0 ≤ d.getD i 0
theorem POk.next {U : Nat → Bool} {l : List (Int × Int)} {n s : Nat} {d : List Int} {m : Int} (h : POk n s d m) (hs : s < n) (hneg : ¬ 0 ≤ d.getD s 0) : POk n (s + 1) (pGrow U m l (d.set s m)) (m + 1) := by
  have hm := (Mix.set m d s).trans (pGrow_mix U m l (d.set s m))
  have hset : (d.set s m).getD s 0 = m := by
    have := h.len
    simp [List.getD_eq_getElem?_getD, this, hs]
  have hg := (pGrow_mix U m l (d.set s m)).2 s
  have hl := h.m0
  refine ⟨hm.1.trans h.len, by have := h.m0; omega, by have := h.m1; push_cast; omega, fun i hi => ?_, fun i hi hn => ?_⟩
  · rcases hm.2 i with e | e
    · have := h.lo i hi; omega
    · rw [e]; omega
  · rcases hm.2 i with e | e
    · by_cases his : i = s
      · subst his
        rcases hg with e' | e' <;> omega
      · have := h.seen i (by omega) hn; omega
    · rw [e]; omega
theorem POk.skip {n s : Nat} {d : List Int} {m : Int} (h : POk n s d m) (hs : 0 ≤ d.getD s 0) : POk n (s + 1) d m :=
  ⟨h.len, h.m0, by have := h.m1; push_cast; omega, h.lo, fun i hi hn => by
    by_cases his : i = s
    · subst his; exact hs
    · exact h.seen i (by omega) hn⟩
theorem POk.start (n : Nat) : POk n 0 (List.replicate n (-1)) 0 :=
  ⟨by simp, by omega, by simp, fun i hi => by simp [List.getD_eq_getElem?_getD, hi], fun i hi => by omega⟩
theorem pOut_ok (U : Nat → Bool) (l : List (Int × Int)) (n : Nat) : ∀ (r s : Nat) (d : List Int) (m : Int), POk n s d m → s + r = n → POk n n (pOut U l r s (d, m)).1 (pOut U l r s (d, m)).2 := by
  intro r
  induction r with
  | zero => intro s d m h hs; have : s = n := by omega
            subst this; exact h
  | succ r ih =>
    intro s d m h hs
    unfold pOut
    split
    · rename_i h0
      exact ih (s + 1) d m (h.skip h0) (by omega)
    · rename_i h0
      exact ih (s + 1) _ _ (h.next (by omega) h0) (by omega)
theorem partsE_ok (n : Nat) (l : List (Int × Int)) (U : Nat → Bool) : (partsE n l U).length = n ∧ ∀ x ∈ partsE n l U, 0 ≤ x ∧ x < n := by
  have h := pOut_ok U l n n 0 _ 0 (POk.start n) (by omega)
  refine ⟨h.len, fun x hx => ?_⟩
  obtain ⟨i, hi, rfl⟩ := List.getElem_of_mem hx
  have hin : i < n := by have := h.len; unfold partsE at hi; omega
  have e : (partsE n l U)[i] = (pOut U l n 0 (List.replicate n (-1), 0)).1.getD i 0 := by
    unfold partsE at hi ⊢; simp [hi]
  rw [e]
  have h1 := h.lo i hin
  have h2 := h.seen i hin hin
  have h3 := h.m1
  omega
end Go.Proofs.Ythcddboeejbncaa
namespace Go.Proofs.Ythcddboeejbncaa
open Go.RowKit

theorem below_drew {B : Nat} {a w : World} (h : Below B a w) : Below B a w.drew := ⟨h.os, h.tape, h.output, h.size, h.block⟩
theorem pStep_hit {U : Nat → Bool} {m : Int} {d : List Int} {q : Bool} {i u v : Nat} (hA : ((d.getD u 0 == m) != (d.getD v 0 == m)) = true) (hU : U i = true) : pStep U m (d, q) i ((u : Int), (v : Int)) = ((d.set u m).set v m, true) := by
  unfold pStep pHit
  rw [if_pos (by simp only [Int.toNat_natCast]; rw [hA, hU]; rfl)]; rfl
theorem pStep_miss {U : Nat → Bool} {m : Int} {d : List Int} {q : Bool} {i u v : Nat} (h : ((d.getD u 0 == m) != (d.getD v 0 == m)) = false ∨ U i = false) : pStep U m (d, q) i ((u : Int), (v : Int)) = (d, q) := by
  unfold pStep pHit
  refine if_neg ?_
  simp only [Int.toNat_natCast]
  rcases h with h | h
  · rw [h]; simp
  · rw [h]; simp

set_option maxHeartbeats 8000000 in
set_option maxRecDepth 100000 in
theorem parts_c (n : Nat) (l : List (Int × Int)) (U : Nat → Bool) (g : FuncId) (caps : Array Value) (lv : Value) (w : World) (hn : n ≤ 1000) (hl : PrOk n l) (hv : Reads w lv l.length (flat prC l))
    (eg : ∀ (args : Array Value) (w : World), (callFunc g args).run Try.prog w = .ok (.enter g args) w)
    (hf : Hid (∀ (i : Nat) W, i < l.length → Below w.heap.size w W → Calls Try.prog g (#[.int .i64 i] ++ caps) W fun e w' => e = .returned (.bool (U i)) ∧ Below W.heap.size W w')) :
    Calls Try.prog 41 #[.int .i64 n, lv, .func (.func g) #[] caps] w fun e w' => ∃ b, e = .returned (.slice (some ⟨b, 0, none⟩) n n) ∧ w.heap.size ≤ b ∧ Blk w' b (ints (partsE n l U)).toArray 3 ∧ Below w.heap.size w w' := by
  obtain ⟨la, lc, rfl⟩ := hv.slice
  obtain ⟨M, hM⟩ : ∃ k, l.length = k := ⟨_, rfl⟩
  have hmm : M ≤ 9223372036854775807 := by
    rcases hv with ⟨h, _⟩ | ⟨_, _, _, _, _, h, _⟩
    · omega
    · omega
  have HM := Lib.hid hM
  rw [hM] at hv ⊢
  have HV := Lib.hid hv
  have HL := Lib.hid hl
  have HRS : Hid (∀ R, partsE n l U = R → (pOut U l (n - 0) 0 (List.replicate n (-1), ((0 : Nat) : Int))).1 = R) := fun R h => h
  obtain ⟨R, hR⟩ : ∃ R, partsE n l U = R := ⟨_, rfl⟩
  have HR0 := Lib.hid (HRS.out R hR)
  rw [hR]
  have HP0 : Hid (POk n 0 (List.replicate n (-1)) 0) := POk.start n
  have HPN : Hid (∀ (d : List Int) (m : Int) (s : Nat), POk n s d m → s < n → ¬ 0 ≤ d.getD s 0 → POk n (s + 1) (pGrow U m l (d.set s m)) (m + 1)) := fun d m s h1 h2 h3 => h1.next h2 h3
  have HGS : Hid (∀ (m : Int) (d : List Int), d.length = n → pGrow U m l d = if (pPass U m l 0 (d, false)).2 = true then pGrow U m l (pPass U m l 0 (d, false)).1 else (pPass U m l 0 (d, false)).1) := fun m d hd => pGrow_step hl hd
  have HGG : Hid (∀ (m : Int) (d : List Int), d.length = n → (pPass U m l 0 (d, false)).1.length = n ∧ (pPass U m l 0 (d, false) = (d, false) ∨ ((pPass U m l 0 (d, false)).2 = true ∧ muP m (pPass U m l 0 (d, false)).1 < muP m d))) := fun m d hd => pPass_good l 0 d false hl hd
  clear hv hl hM hR HRS
  have B1 := belowA (Below.refl w.heap.size w) (.cells #[.int .i64 (-1)] 3)
  have K1 := Blk.new w #[.int .i64 (-1)] 3
  generalize hW1 : w.alloc (.cells #[.int .i64 (-1)] 3) = W1 at *
  have HRC := Lib.hid (repeat_c w.heap.size (-1) n W1 hn K1.lt (K1.cell 0 rfl))
  obtain ⟨ob, hob0⟩ : ∃ ob, W1.heap.size = ob := ⟨_, rfl⟩
  have hob : w.heap.size ≤ ob := by rw [← hob0]; exact B1.size
  have hB1 := Lib.hid B1
  have HO0 := Lib.hid hob0
  clear K1 B1 hob0
  go_enter Try.func41, Try.ntmps41
  go_wp2_with fail
  refine HRC.out.mono ?_; rintro e w2 ⟨rfl, hk2, hb2⟩
  rw [HO0.out] at hk2 ⊢
  have KB0 := Lib.hid hk2
  have HB0 := Lib.hid (belowT hB1.out hb2)
  clear hk2 hb2 hB1 HO0 HRC
  go_wp2_with fail
  go_loopw [19, 8] (fun i mm wr => ∃ (s : Nat) (d : List Int) (m : Int), s ≤ n ∧ i = .int .i64 s ∧ mm = .int .i64 m ∧ 0 ≤ m ∧ m ≤ s ∧ Hid (POk n s d m) ∧ Hid ((pOut U l (n - s) s (d, m)).1 = R) ∧ Hid (Blk wr ob (ints d).toArray 3) ∧ Hid (Below w.heap.size w wr)) (fun i _ _ => n - (intOf i).toNat)
  case atStart => exact ⟨0, List.replicate n (-1), 0, Nat.zero_le _, rfl, rfl, by omega, by omega, HP0, HR0, KB0, HB0⟩
  case round =>
    clear KB0 HB0
    obtain ⟨s, d, m, hs, rfl, rfl, m0, m1, hp, hr, hkb, hb⟩ := hrel
    by_cases hlt : s < n
    ·
      have hdl : s < d.length := by rw [hp.out.len]; exact hlt
      have hrs : (pOut U l (n - (s + 1)) (s + 1) (if 0 ≤ d.getD s 0 then (d, m) else (pGrow U m l (d.set s m), m + 1))).1 = R := by
        have h := hr.out
        rw [show n - s = (n - (s + 1)) + 1 by omega] at h
        exact h
      have HRS := Lib.hid hrs
      have cs := hkb.out.int hdl
      have HX := Lib.hid (rfl : d.getD s 0 = d.getD s 0)
      obtain ⟨X, hX⟩ : ∃ X, d.getD s 0 = X := ⟨_, rfl⟩
      rw [hX] at cs
      have HX := Lib.hid hX
      clear hrs hr hX
      by_cases hx0 : 0 ≤ X
      ·
        have HS := Lib.hid (hp.out.skip (by rw [HX.out]; exact hx0))
        have HRR : Hid ((pOut U l (n - (s + 1)) (s + 1) (d, m)).1 = R) := by show _ = _; rw [← HRS.out, if_pos (by rw [HX.out]; exact hx0)]
        go_wp2_with fail
        go_roundw
        case rel => exact ⟨s + 1, d, m, hlt, by go_num, rfl, m0, by omega, HS, HRR, hkb, hb⟩
        case measure => simp [intOf]; omega
      ·
        have HRR : Hid ((pOut U l (n - (s + 1)) (s + 1) (pGrow U m l (d.set s m), m + 1)).1 = R) := by show _ = _; rw [← HRS.out, if_neg (by rw [HX.out]; exact hx0)]
        have HS := Lib.hid (HPN.out d m s hp.out hlt (by rw [HX.out]; omega))
        obtain ⟨D, hD⟩ : ∃ D, pGrow U m l (d.set s m) = D := ⟨_, rfl⟩
        rw [hD] at HRR HS
        have HD := Lib.hid hD
        have HDL : Hid ((d.set s m).length = n) := by show _ = _; simp; exact hp.out.len
        have KS : Hid (Blk (wr.setCell ⟨ob, s, none⟩ (.int .i64 m)) ob (ints (d.set s m)).toArray 3) := by show Blk _ _ _ _; rw [← ints_set]; exact hkb.out.set s _
        have BS : Hid (Below w.heap.size w (wr.setCell ⟨ob, s, none⟩ (.int .i64 m))) := hb.out.setCell hob _
        have fs := hkb.out.free s
        clear hD HRS hkb hb hp
        obtain ⟨d1, hd1⟩ : ∃ d1, d.set s m = d1 := ⟨_, rfl⟩
        rw [hd1] at HD HDL KS
        clear hd1 hdl HX
        go_wp2_with fail
        generalize wr.setCell ⟨ob, s, none⟩ (.int .i64 m) = W4 at *
        clear cs fs
        go_loopw [10] (fun ag wr => ∃ (q : Bool) (d2 : List Int), ag = .bool q ∧ Hid (d2.length = n) ∧ Hid (if q = true then pGrow U m l d2 = D else d2 = D) ∧ Hid (Blk wr ob (ints d2).toArray 3) ∧ Hid (Below w.heap.size w wr)) (fun ag wr => 2 * muP m (listAt wr ob) + agN ag)
        case atStart => exact ⟨true, d1, rfl, HDL, HD, KS, BS⟩
        case round =>
          clear KS BS HDL HD
          rename_i wr1
          obtain ⟨q, d2, rfl, hd2, hg, hkb, hb⟩ := hrel
          cases q
          ·
            have HDD : Hid (d2 = D) := hg.out
            have hmn : m + 1 ≤ 1001 := by omega
            go_wp2_with fail
            go_roundw
            case rel => exact ⟨s + 1, d2, m + 1, hlt, by go_num, rfl, by omega, by omega, by show POk _ _ _ _; rw [HDD.out]; exact HS.out, by show _ = _; rw [HDD.out]; exact HRR.out, hkb, hb⟩
            case measure => simp [intOf]; omega
          ·
            have HGD : Hid (pGrow U m l d2 = D) := hg.out
            obtain ⟨P, hP⟩ : ∃ P, pPass U m l 0 (d2, false) = P := ⟨_, rfl⟩
            have hstep := HGS.out m d2 hd2.out
            have hgood := HGG.out m d2 hd2.out
            rw [hP] at hstep hgood
            rw [HGD.out] at hstep
            have HST := Lib.hid hstep
            have HGO := Lib.hid hgood
            have HPP : Hid (pPass U m (l.drop 0) 0 (d2, false) = P) := hP
            have HMU : Hid (listAt wr ob = d2) := listAt_eq hkb.out
            clear hP hstep hgood hg HGD
            go_wp2_with fail
            go_loopw [34, 10] (fun i ag w2 => ∃ (k : Nat) (d3 : List Int) (q3 : Bool), k ≤ M ∧ i = .int .i64 k ∧ ag = .bool q3 ∧ Hid (d3.length = n) ∧ Hid (pPass U m (l.drop k) k (d3, q3) = P) ∧ Hid (Blk w2 ob (ints d3).toArray 3) ∧ Hid (Below w.heap.size w w2)) (fun i _ _ => M - (intOf i).toNat)
            case atStart => exact ⟨0, d2, false, Nat.zero_le _, rfl, rfl, hd2, HPP, hkb, hb⟩
            case round =>
              clear hkb hb HPP
              rename_i wr2
              obtain ⟨k, d3, q3, hk, rfl, rfl, hd3, hpp, hkb, hb⟩ := hrel
              by_cases hlt : k < M
              ·
                obtain ⟨x, hx⟩ : ∃ x, l[k]? = some x := ⟨_, List.getElem?_eq_getElem (by rw [HM.out]; exact hlt)⟩
                obtain ⟨lg, loff, lcap', lvv, _, _, lgl, lcc⟩ := (HV.out.below hb.out).addr (by omega)
                simp only [Value.slice.injEq] at lvv
                obtain ⟨rfl, _, rfl⟩ := lvv
                obtain ⟨c0, c1⟩ := pr_cells lcc hx
                have hok := HL.out x (List.mem_of_getElem? hx)
                have hpd := pPass_drop (U := U) (m := m) (st := (d3, q3)) hx
                rw [hpp.out] at hpd
                obtain ⟨a, b⟩ := x
                obtain ⟨a0, a1, b0, b1⟩ := hok
                simp only at a0 a1 b0 b1 c0 c1
                obtain ⟨u, rfl⟩ := Int.eq_ofNat_of_zero_le a0
                obtain ⟨v, rfl⟩ := Int.eq_ofNat_of_zero_le b0
                have hun : u < n := by omega
                have hvn : v < n := by omega
                have HFS : Hid (pPass U m (l.drop (k + 1)) (k + 1) (pStep U m (d3, q3) k ((u : Int), (v : Int))) = P) := hpd.symm
                have HMl : k < l.length := by rw [HM.out]; exact hlt
                clear hpd hpp hx lcc a0 a1 b0 b1
                have KX5 := Blk.new wr #[.int .i64 u, .int .i64 v] 117
                have KB5 := hkb.out.alloc (.cells #[.int .i64 u, .int .i64 v] 117)
                have HB5 := belowA hb.out (.cells #[.int .i64 u, .int .i64 v] 117)
                obtain ⟨xb0, hxb0⟩ : ∃ b, wr.heap.size = b := ⟨_, rfl⟩
                have hxb : ¬ xb0 = ob := by have := hkb.out.lt; omega
                rw [hxb0] at KX5
                have HXB0 := Lib.hid hxb0
                clear hxb0
                go_wp2_with fail
                rw [HXB0.out]
                generalize wr.alloc (.cells #[.int .i64 u, .int .i64 v] 117) = W5 at *
                clear c0 c1 HXB0 hkb hb
                have x0 := KX5.cell 0 rfl
                have x1 := KX5.cell 1 rfl
                have cu := KB5.int (i := u) (by rw [hd3.out]; exact hun)
                have cv := KB5.int (i := v) (by rw [hd3.out]; exact hvn)
                obtain ⟨X, hX⟩ : ∃ X, d3.getD u 0 = X := ⟨_, rfl⟩
                obtain ⟨Y, hY⟩ : ∃ X, d3.getD v 0 = X := ⟨_, rfl⟩
                rw [hX] at cu
                rw [hY] at cv
                have HXD := Lib.hid hX
                have HYD := Lib.hid hY
                have KX5' := Lib.hid KX5
                have KB5' := Lib.hid KB5
                have HB5' := Lib.hid HB5
                clear hX hY KX5 KB5 HB5
                refine wp_region_quiet_lit (by kernel_rfl) (by kernel_rfl) ?_
                repeat (first | go_big_quiet_step (fail) | (go_big_quiet_want; go_simp; go_big_quiet_on))
                refine wpQuiet_nil ?_
                intro _ hw'
                obtain ⟨nq, hw''⟩ := hw'
                subst hw''
                have KX6 := Lib.hid (KX5'.out.drewN nq)
                have KB6 := Lib.hid (KB5'.out.drewN nq)
                have HB6 := Lib.hid (below_drewN HB5'.out nq)
                generalize W5.drewN nq = W6 at *
                clear KX5' KB5' HB5' x0 x1 cu cv
                cases xa : (X == m) <;> cases xb : (Y == m)
                ·
                  have HFD : Hid (pPass U m (l.drop (k + 1)) (k + 1) (d3, q3) = P) := by show _ = _; rw [← HFS.out, pStep_miss (Or.inl (by rw [HXD.out, HYD.out, xa, xb]; rfl))]
                  have KB := KB6
                  have HB := HB6
                  clear KX6 KB6 HB6
                  go_wp2_with fail
                  go_roundw
                  case rel => exact ⟨k + 1, d3, q3, hlt, by go_num, rfl, hd3, HFD, KB, HB⟩
                  case measure => simp [intOf]; omega
                ·
                  have HT : Hid (((d3.getD u 0 == m) != (d3.getD v 0 == m)) = true) := by show _ = _; rw [HXD.out, HYD.out, xa, xb]; rfl
                  have hne : ¬ u = v := by
                    intro e
                    have h1 := HXD.out
                    have h2 := HYD.out
                    rw [e] at h1
                    rw [← h1, h2] at xa
                    rw [xa] at xb
                    cases xb
                  have hne2 : ¬ v = u := fun e => hne e.symm
                  have HF := Lib.hid (hf.out k W6 HMl HB6.out)
                  cases hu : U k
                  ·
                    have HFD : Hid (pPass U m (l.drop (k + 1)) (k + 1) (d3, q3) = P) := by show _ = _; rw [← HFS.out, pStep_miss (Or.inr hu)]
                    have HU := Lib.hid hu
                    clear hu hne hne2 HT
                    rw [HU.out] at HF
                    go_wp2_with fail
                    refine HF.out.mono ?_; rintro e w7 ⟨rfl, hb7⟩
                    have KB := Lib.hid (below_blk hb7 KB6.out KB6.out.lt)
                    have HB := Lib.hid (belowT HB6.out hb7)
                    clear hb7 KB6 HB6
                    go_wp2_with fail
                    go_roundw
                    case rel => exact ⟨k + 1, d3, q3, hlt, by go_num, rfl, hd3, HFD, KB, HB⟩
                    case measure => simp [intOf]; omega
                  ·
                    have HFD : Hid (pPass U m (l.drop (k + 1)) (k + 1) ((d3.set u m).set v m, true) = P) := by show _ = _; rw [← HFS.out, pStep_hit HT.out hu]
                    have HU := Lib.hid hu
                    clear hu HT
                    rw [HU.out] at HF
                    go_wp2_with fail
                    refine HF.out.mono ?_; rintro e w7 ⟨rfl, hb7⟩
                    have KB := Lib.hid (below_blk hb7 KB6.out KB6.out.lt)
                    have HB := Lib.hid (belowT HB6.out hb7)
                    have KX := Lib.hid (below_blk hb7 KX6.out KX6.out.lt)
                    clear hb7 KB6 HB6 KX6
                    have x0 := KX.out.cell 0 rfl
                    have x1 := KX.out.cell 1 rfl
                    have cu := KB.out.int (i := u) (by rw [hd3.out]; exact hun)
                    have cv := KB.out.int (i := v) (by rw [hd3.out]; exact hvn)
                    have fu := KB.out.free u
                    have fv := KB.out.free v
                    have hxb2 : ¬ xb0 = ob := hxb
                    have K1 : Hid (Blk ((w7.setCell ⟨ob, u, none⟩ (.int .i64 m)).setCell ⟨ob, v, none⟩ (.int .i64 m)).drew ob (ints ((d3.set u m).set v m)).toArray 3) := by
                      show Blk _ _ _ _
                      rw [← ints_set, ← ints_set]; exact ((KB.out.set u _).set v _).drew
                    have K2 : Hid (Blk ((w7.setCell ⟨ob, v, none⟩ (.int .i64 m)).setCell ⟨ob, u, none⟩ (.int .i64 m)).drew ob (ints ((d3.set u m).set v m)).toArray 3) := by
                      show Blk _ _ _ _
                      rw [List.set_comm _ _ hne, ← ints_set, ← ints_set]; exact ((KB.out.set v _).set u _).drew
                    have L1 : Hid (Below w.heap.size w ((w7.setCell ⟨ob, u, none⟩ (.int .i64 m)).setCell ⟨ob, v, none⟩ (.int .i64 m)).drew) := below_drew ((HB.out.setCell hob _).setCell hob _)
                    have L2 : Hid (Below w.heap.size w ((w7.setCell ⟨ob, v, none⟩ (.int .i64 m)).setCell ⟨ob, u, none⟩ (.int .i64 m)).drew) := below_drew ((HB.out.setCell hob _).setCell hob _)
                    have HD4 : Hid (((d3.set u m).set v m).length = n) := by show _ = _; simp; exact hd3.out
                    go_wp2_with fail
                    go_region
                    all_goals
                      go_wp2_with fail
                      go_roundw
                      case rel =>
                        first
                          | exact ⟨k + 1, _, true, hlt, by go_num, rfl, HD4, HFD, K1, L1⟩
                          | exact ⟨k + 1, _, true, hlt, by go_num, rfl, HD4, HFD, K2, L2⟩
                      case measure => simp [intOf]; omega
                ·
                  have HT : Hid (((d3.getD u 0 == m) != (d3.getD v 0 == m)) = true) := by show _ = _; rw [HXD.out, HYD.out, xa, xb]; rfl
                  have hne : ¬ u = v := by
                    intro e
                    have h1 := HXD.out
                    have h2 := HYD.out
                    rw [e] at h1
                    rw [← h1, h2] at xa
                    rw [xa] at xb
                    cases xb
                  have hne2 : ¬ v = u := fun e => hne e.symm
                  have HF := Lib.hid (hf.out k W6 HMl HB6.out)
                  cases hu : U k
                  ·
                    have HFD : Hid (pPass U m (l.drop (k + 1)) (k + 1) (d3, q3) = P) := by show _ = _; rw [← HFS.out, pStep_miss (Or.inr hu)]
                    have HU := Lib.hid hu
                    clear hu hne hne2 HT
                    rw [HU.out] at HF
                    go_wp2_with fail
                    refine HF.out.mono ?_; rintro e w7 ⟨rfl, hb7⟩
                    have KB := Lib.hid (below_blk hb7 KB6.out KB6.out.lt)
                    have HB := Lib.hid (belowT HB6.out hb7)
                    clear hb7 KB6 HB6
                    go_wp2_with fail
                    go_roundw
                    case rel => exact ⟨k + 1, d3, q3, hlt, by go_num, rfl, hd3, HFD, KB, HB⟩
                    case measure => simp [intOf]; omega
                  ·
                    have HFD : Hid (pPass U m (l.drop (k + 1)) (k + 1) ((d3.set u m).set v m, true) = P) := by show _ = _; rw [← HFS.out, pStep_hit HT.out hu]
                    have HU := Lib.hid hu
                    clear hu HT
                    rw [HU.out] at HF
                    go_wp2_with fail
                    refine HF.out.mono ?_; rintro e w7 ⟨rfl, hb7⟩
                    have KB := Lib.hid (below_blk hb7 KB6.out KB6.out.lt)
                    have HB := Lib.hid (belowT HB6.out hb7)
                    have KX := Lib.hid (below_blk hb7 KX6.out KX6.out.lt)
                    clear hb7 KB6 HB6 KX6
                    have x0 := KX.out.cell 0 rfl
                    have x1 := KX.out.cell 1 rfl
                    have cu := KB.out.int (i := u) (by rw [hd3.out]; exact hun)
                    have cv := KB.out.int (i := v) (by rw [hd3.out]; exact hvn)
                    have fu := KB.out.free u
                    have fv := KB.out.free v
                    have hxb2 : ¬ xb0 = ob := hxb
                    have K1 : Hid (Blk ((w7.setCell ⟨ob, u, none⟩ (.int .i64 m)).setCell ⟨ob, v, none⟩ (.int .i64 m)).drew ob (ints ((d3.set u m).set v m)).toArray 3) := by
                      show Blk _ _ _ _
                      rw [← ints_set, ← ints_set]; exact ((KB.out.set u _).set v _).drew
                    have K2 : Hid (Blk ((w7.setCell ⟨ob, v, none⟩ (.int .i64 m)).setCell ⟨ob, u, none⟩ (.int .i64 m)).drew ob (ints ((d3.set u m).set v m)).toArray 3) := by
                      show Blk _ _ _ _
                      rw [List.set_comm _ _ hne, ← ints_set, ← ints_set]; exact ((KB.out.set v _).set u _).drew
                    have L1 : Hid (Below w.heap.size w ((w7.setCell ⟨ob, u, none⟩ (.int .i64 m)).setCell ⟨ob, v, none⟩ (.int .i64 m)).drew) := below_drew ((HB.out.setCell hob _).setCell hob _)
                    have L2 : Hid (Below w.heap.size w ((w7.setCell ⟨ob, v, none⟩ (.int .i64 m)).setCell ⟨ob, u, none⟩ (.int .i64 m)).drew) := below_drew ((HB.out.setCell hob _).setCell hob _)
                    have HD4 : Hid (((d3.set u m).set v m).length = n) := by show _ = _; simp; exact hd3.out
                    go_wp2_with fail
                    go_region
                    all_goals
                      go_wp2_with fail
                      go_roundw
                      case rel =>
                        first
                          | exact ⟨k + 1, _, true, hlt, by go_num, rfl, HD4, HFD, K1, L1⟩
                          | exact ⟨k + 1, _, true, hlt, by go_num, rfl, HD4, HFD, K2, L2⟩
                      case measure => simp [intOf]; omega
                ·
                  have HFD : Hid (pPass U m (l.drop (k + 1)) (k + 1) (d3, q3) = P) := by show _ = _; rw [← HFS.out, pStep_miss (Or.inl (by rw [HXD.out, HYD.out, xa, xb]; rfl))]
                  have KB := KB6
                  have HB := HB6
                  clear KX6 KB6 HB6
                  go_wp2_with fail
                  go_roundw
                  case rel => exact ⟨k + 1, d3, q3, hlt, by go_num, rfl, hd3, HFD, KB, HB⟩
                  case measure => simp [intOf]; omega
              ·
                have hkn : l.drop k = [] := List.drop_eq_nil_of_le (by rw [HM.out]; omega)
                have HF : Hid ((d3, q3) = P) := by show _ = _; rw [← hpp.out, hkn]; rfl
                clear hkn hpp
                go_wp2_with fail
                go_roundw
                case rel =>
                  refine ⟨q3, d3, rfl, hd3, ?_, hkb, hb⟩
                  have h := HST.out
                  rw [← HF.out] at h
                  cases q3
                  · exact h.symm
                  · exact h.symm
                case measure =>
                  rw [listAt_eq hkb.out]
                  have h := HGO.out
                  rw [← HF.out] at h
                  rw [HMU.out]
                  rcases h.2 with h | ⟨h, h'⟩
                  · cases h; simp [agN]
                  · cases h; simp [agN]; simp at h'; omega
    ·
      have hsn : n = s := by omega
      have HRE : Hid (d = R) := by show _ = _; rw [← hr.out, show n - s = 0 by omega]; rfl
      have HKF : Hid (Blk wr ob (ints R).toArray 3) := by show Blk _ _ _ _; rw [← HRE.out]; exact hkb.out
      clear hsn hr hkb HRE
      go_wp2_with fail
      go_ret
      exact ⟨ob, rfl, hob, HKF.out, hb.out⟩
end Go.Proofs.Ythcddboeejbncaa
namespace Go.Proofs.Ythcddboeejbncaa
open Go.RowKit

def swShut (n : Net) (i : Nat) : Bool := match n.sws[i]? with | some s => !s.opn | none => false
/-- The bus of each node. -/
def busesE (n : Net) : List Int := partsE n.nodes.length (stE n) (swShut n)
theorem stE_ok {n : Net} (h : Net.Ok n) : PrOk n.nodes.length (stE n) := by
  intro x hx
  unfold stE at hx
  obtain ⟨s, hs, rfl⟩ := List.mem_map.1 hx
  have h2 := h.sw s hs
  have i1 := idxS_lt n.nodes 0 h2.1
  have i2 := idxS_lt n.nodes 0 h2.2
  simp only
  omega
theorem busesE_ok (n : Net) : (busesE n).length = n.nodes.length ∧ ∀ x ∈ busesE n, 0 ≤ x ∧ x < n.nodes.length := partsE_ok _ _ _

set_option maxHeartbeats 1000000 in
theorem buses1_c (n : Net) (nb : Nat) (sa : Option Addr) (sc i : Nat) (w : World) (hi : i < n.sws.length) (hr : Reads w (.slice sa n.sws.length sc) n.sws.length (flat NSw.cells n.sws)) (hc : w.cell? ⟨nb, 1, none⟩ = some (.slice sa n.sws.length sc)) :
    Calls Try.prog 60 #[.int .i64 i, .pointer (some ⟨nb, 0, none⟩)] w fun e w' => e = .returned (.bool (swShut n i)) ∧ w = w' := by
  obtain ⟨x, hx⟩ : ∃ x, n.sws[i]? = some x := ⟨_, List.getElem?_eq_getElem hi⟩
  have hE : swShut n i = !x.opn := by unfold swShut; rw [hx]
  have HE := Lib.hid hE
  obtain ⟨g, off, cap', hvv, _, hnm, _, hcc⟩ := hr.addr (by omega)
  simp only [Value.slice.injEq] at hvv
  obtain ⟨rfl, _, rfl⟩ := hvv
  obtain ⟨c0, c1, c2, c3, c4⟩ := sw_cells hcc hx
  obtain ⟨nm, fr, tt, bk, op⟩ := x
  generalize swShut n i = E at *
  generalize n.sws.length = sn at *
  simp only at c4 HE
  clear hx hcc hr hE
  go_enter Try.func60, Try.ntmps60
  go_wp2_with fail
  go_ret
  exact ⟨by rw [HE.out]; rfl, rfl⟩

set_option maxHeartbeats 4000000 in
set_option maxRecDepth 100000 in
theorem buses_c (x0 : NAddr) (n : Net) (w : World) (hr : NetR w x0 n) (hok : Net.Ok n) :
    Calls Try.prog 40 #[x0.val n] w fun e w' => ∃ b, e = .returned (.slice (some ⟨b, 0, none⟩) n.nodes.length n.nodes.length) ∧ w.heap.size ≤ b ∧ Blk w' b (ints (busesE n)).toArray 3 ∧ Below w.heap.size w w' := by
  have hnn := hok.nn
  have hns := hok.ns
  have hse : (stE n).length = n.sws.length := by unfold stE; simp
  have B1 := belowA (Below.refl w.heap.size w) (.cells #[.slice x0.na n.nodes.length x0.nc, .slice x0.sa n.sws.length x0.sc, .slice x0.ba n.brs.length x0.bc, .slice x0.ga n.gens.length x0.gc, .slice x0.la n.loads.length x0.lc, .slice x0.ta n.stores.length x0.tc] 29)
  have K1 := Blk.new w #[.slice x0.na n.nodes.length x0.nc, .slice x0.sa n.sws.length x0.sc, .slice x0.ba n.brs.length x0.bc, .slice x0.ga n.gens.length x0.gc, .slice x0.la n.loads.length x0.lc, .slice x0.ta n.stores.length x0.tc] 29
  obtain ⟨nb, hnb0⟩ : ∃ b, w.heap.size = b := ⟨_, rfl⟩
  obtain ⟨W1, hW1⟩ : ∃ W, w.alloc (.cells #[.slice x0.na n.nodes.length x0.nc, .slice x0.sa n.sws.length x0.sc, .slice x0.ba n.brs.length x0.bc, .slice x0.ga n.gens.length x0.gc, .slice x0.la n.loads.length x0.lc, .slice x0.ta n.stores.length x0.tc] 29) = W := ⟨_, rfl⟩
  rw [hW1] at B1 K1
  rw [hnb0] at K1
  have HED : Hid (∀ W, Below W1.heap.size W1 W → Calls Try.prog 59 #[x0.val n] W fun e w' => ∃ lv, e = .returned lv ∧ Reads w' lv (stE n).length (flat prC (stE n)) ∧ Below W.heap.size W w') := fun W hW =>
    stEdges_c x0 n W (hr.below (belowT B1 hW)) hns
  have HPC : Hid (∀ lv W, Below W1.heap.size W1 W → Reads W lv (stE n).length (flat prC (stE n)) → Calls Try.prog 41 #[.int .i64 n.nodes.length, lv, .func (.func 60) #[] #[.pointer (some ⟨nb, 0, none⟩)]] W fun e w' => ∃ b, e = .returned (.slice (some ⟨b, 0, none⟩) n.nodes.length n.nodes.length) ∧ W.heap.size ≤ b ∧ Blk w' b (ints (busesE n)).toArray 3 ∧ Below W.heap.size W w') := by
    intro lv W hW hlv
    refine parts_c n.nodes.length (stE n) (swShut n) _ _ lv W (by omega) (stE_ok hok) hlv (fun a w' => enters_of Try.func60 (by kernel_rfl) rfl a w') ?_
    intro i W' hi hW'
    have hbW := belowT hW hW'
    have hk := below_blk hbW K1 K1.lt
    refine (buses1_c n nb x0.sa x0.sc i W' (by omega) ((hr.below (belowT B1 hbW)).sws) (hk.cell 1 rfl)).mono fun e w' h => ⟨h.1, ?_⟩
    rw [h.2]; exact Below.refl _ _
  have HB1 := Lib.hid B1
  have HK1 := Lib.hid K1
  have hnl : nb < W1.heap.size := K1.lt
  generalize busesE n = BE at *
  generalize hSE : flat prC (stE n) = SE at *
  generalize (stE n).length = en at *
  clear hok hr hse hns hnn hSE
  obtain ⟨na, nc, sa, sc, ba, bc, ga, gc, la, lc, ta, tc⟩ := x0
  obtain ⟨nl, sws, brs, gens, loads, stores⟩ := n
  simp only [NAddr.val] at HED HPC hW1 HK1 K1 ⊢
  generalize nl.length = nn at *
  generalize sws.length = sn at *
  generalize brs.length = bn at *
  generalize gens.length = gn at *
  generalize loads.length = ln at *
  generalize stores.length = tn at *
  have HSB : Hid (∀ W, Below W1.heap.size W1 W → (W.cell? ⟨nb, 0, none⟩ = some (.slice na nn nc) ∧ W.cell? ⟨nb, 1, none⟩ = some (.slice sa sn sc) ∧ W.cell? ⟨nb, 2, none⟩ = some (.slice ba bn bc) ∧ W.cell? ⟨nb, 3, none⟩ = some (.slice ga gn gc) ∧ W.cell? ⟨nb, 4, none⟩ = some (.slice la ln lc) ∧ W.cell? ⟨nb, 5, none⟩ = some (.slice ta tn tc))) := fun W hW => by
    have k := below_blk hW HK1.out hnl
    exact ⟨k.cell 0 rfl, k.cell 1 rfl, k.cell 2 rfl, k.cell 3 rfl, k.cell 4 rfl, k.cell 5 rfl⟩
  have D0 : Hid (Below W1.heap.size W1 W1.drew) := ⟨rfl, rfl, rfl, Nat.le_refl _, fun _ _ => rfl⟩
  have HW1 := Lib.hid hW1
  have HNB := Lib.hid hnb0
  have HWB : Hid (w.heap.size ≤ W1.heap.size) := B1.size
  clear B1 K1 HK1 hW1 hnl hnb0
  go_enter Try.func40, Try.ntmps40
  go_wp2_with fail
  rw [HW1.out, HNB.out]
  go_region_held3 (fun W => (W.cell? ⟨nb, 0, none⟩ = some (.slice na nn nc) ∧ W.cell? ⟨nb, 1, none⟩ = some (.slice sa sn sc) ∧ W.cell? ⟨nb, 2, none⟩ = some (.slice ba bn bc) ∧ W.cell? ⟨nb, 3, none⟩ = some (.slice ga gn gc) ∧ W.cell? ⟨nb, 4, none⟩ = some (.slice la ln lc) ∧ W.cell? ⟨nb, 5, none⟩ = some (.slice ta tn tc)))
    (first
      | exact HSB.out _ D0.out
      | exact HSB.out _ D1.out
      | exact HSB.out _ D2.out)
    (first
      | (go_at_call 59; refine (HED.out W1.drew D0.out).mono ?_; rintro e w1 ⟨lv, rfl, hrd, hb1⟩; have D1 := Lib.hid (belowT D0.out hb1); have R1 := Lib.hid hrd; clear hb1 hrd)
      | (go_at_call 41; refine (HPC.out lv w1 D1.out R1.out).mono ?_; rintro e w2 ⟨b, rfl, hle, hkb, hb2⟩; have D2 := Lib.hid (belowT D1.out hb2); have KB := Lib.hid hkb; have HLE := Lib.hid (Nat.le_trans D1.out.size hle); clear hb2 hkb hle))
  all_goals
    go_simp
    go_wp2_with fail
    go_ret
    exact ⟨b, rfl, by have h1 := HLE.out; have h2 := HWB.out; omega, KB.out, belowT HB1.out D2.out⟩
end Go.Proofs.Ythcddboeejbncaa
namespace Go.Proofs.Ythcddboeejbncaa
open Go.RowKit

/-- The branches as edges between buses. -/
def wiresE (n : Net) (bus : List Int) : List (Int × Int) := n.brs.map fun s => (bus.getD (idxS s.fr n.nodes 0).toNat 0, bus.getD (idxS s.to n.nodes 0).toNat 0)
theorem wiresE_ok {n : Net} {bus : List Int} {m : Nat} (hb : ∀ x ∈ bus, 0 ≤ x ∧ x < m) (hl : bus.length = n.nodes.length) (h : Net.Ok n) : PrOk m (wiresE n bus) := by
  intro x hx
  unfold wiresE at hx
  obtain ⟨s, hs, rfl⟩ := List.mem_map.1 hx
  have h2 := h.br s hs
  have i1 := idxS_lt n.nodes 0 h2.1
  have i2 := idxS_lt n.nodes 0 h2.2.1
  have e : ∀ i : Nat, i < bus.length → 0 ≤ bus.getD i 0 ∧ bus.getD i 0 < m := fun i hi => by
    have : bus.getD i 0 = bus[i] := by simp [hi]
    rw [this]; exact hb _ (List.getElem_mem hi)
  have e1 := e (idxS s.fr n.nodes 0).toNat (by omega)
  have e2 := e (idxS s.to n.nodes 0).toNat (by omega)
  exact ⟨e1.1, e1.2, e2.1, e2.2⟩

set_option maxHeartbeats 4000000 in
set_option maxRecDepth 100000 in
theorem wires_c (x0 : NAddr) (n : Net) (bus : List Int) (bv : Value) (w : World) (hr : NetR w x0 n) (hv : IVal w bv bus) (hok : Net.Ok n) (hbl : bus.length = n.nodes.length) :
    Calls Try.prog 43 #[x0.val n, bv] w fun e w' => ∃ lv, e = .returned lv ∧ Reads w' lv (wiresE n bus).length (flat prC (wiresE n bus)) ∧ Below w.heap.size w w' := by
  obtain ⟨va, vc, rfl⟩ := hv.slice
  have h1 := hok.nb
  have hnl := hok.nn
  have hbr := hok.br
  clear hok
  obtain ⟨na, nc, sa, sc, ba, bc, ga, gc, la, lc, ta, tc⟩ := x0
  obtain ⟨nl, sws, brs, gens, loads, stores⟩ := n
  obtain ⟨r0, _, r1, _, _, _⟩ := hr
  simp only at r0 r1 h1 hbl hnl hbr
  obtain ⟨IX, hIX⟩ : ∃ f : ByteArray → Int, (fun s => idxS s nl 0) = f := ⟨_, rfl⟩
  have HIXE : ∀ s, idxS s nl 0 = IX s := fun s => by rw [← hIX]
  obtain ⟨EF, hEF⟩ : ∃ f : NBr → Int × Int, (fun s : NBr => (bus.getD (idxS s.fr nl 0).toNat 0, bus.getD (idxS s.to nl 0).toNat 0)) = f := ⟨_, rfl⟩
  have HEF : Hid (∀ nm fr tt a b c d e f, EF ⟨nm, fr, tt, a, b, c, d, e, f⟩ = (bus.getD (IX fr).toNat 0, bus.getD (IX tt).toNat 0)) := fun _ _ _ _ _ _ _ _ _ => by rw [← hEF]; simp only [HIXE]
  have HIN : Hid (∀ x ∈ brs, (∃ k : Nat, IX x.fr = k ∧ k < nl.length) ∧ (∃ k : Nat, IX x.to = k ∧ k < nl.length)) := fun x hx => by
    have h := hbr x hx
    rw [← HIXE, ← HIXE]
    exact ⟨idxS_nat h.1, idxS_nat h.2.1⟩
  have hSE : wiresE ⟨nl, sws, brs, gens, loads, stores⟩ bus = brs.map EF := by rw [← hEF]; rfl
  generalize wiresE ⟨nl, sws, brs, gens, loads, stores⟩ bus = SE at *
  have HSE := Lib.hid hSE
  clear hSE hEF hbr
  show Calls _ _ #[netV na nl.length nc sa sws.length sc ba brs.length bc ga gens.length gc la loads.length lc ta stores.length tc, _] _ _
  obtain ⟨nn, hN⟩ : ∃ n, nl.length = n := ⟨_, rfl⟩
  obtain ⟨bn, hS⟩ : ∃ n, brs.length = n := ⟨_, rfl⟩
  have HS := Lib.hid hS
  generalize sws.length = sn at *
  generalize gens.length = gn at *
  generalize loads.length = ln at *
  generalize stores.length = tn at *
  rw [hN] at r0 hbl HIN hnl
  rw [hS] at r1 h1
  rw [hN, hS, hbl]
  replace hv : Reads w (.slice va nn vc) nn (ints bus) := by have h : Reads w (.slice va bus.length vc) bus.length (ints bus) := hv; rw [hbl] at h; exact h
  have HBL := Lib.hid hbl
  have B1 := belowA (Below.refl w.heap.size w) (.cells #[.slice na nn nc, .slice sa sn sc, .slice ba bn bc, .slice ga gn gc, .slice la ln lc, .slice ta tn tc] 29)
  have K1 := Blk.new w #[.slice na nn nc, .slice sa sn sc, .slice ba bn bc, .slice ga gn gc, .slice la ln lc, .slice ta tn tc] 29
  generalize hW1 : w.alloc (.cells #[.slice na nn nc, .slice sa sn sc, .slice ba bn bc, .slice ga gn gc, .slice la ln lc, .slice ta tn tc] 29) = W1 at *
  have R0 := Lib.hid (r0.below B1)
  have R1 := Lib.hid (r1.below B1)
  have RV := Lib.hid (hv.below B1)
  have HIX : Hid (∀ s W, Below W1.heap.size W1 W → Calls Try.prog 62 #[.slice na nn nc, .string s] W fun e w' => e = .returned (.int .i64 (IX s)) ∧ w' = W) := fun s W hW => by
    rw [← HIXE]
    exact (index_c (.slice na nn nc) nl s W (by show Reads _ _ _ _; rw [hN]; exact R0.out.below hW)).mono fun e w' h => ⟨h.1, h.2.symm⟩
  have BW := Lib.hid B1
  have hxb : w.heap.size < W1.heap.size := K1.lt
  have K1' := Lib.hid K1
  have x1 := K1.cell 2 rfl
  obtain ⟨i0, hi0, hz0, hz1, hz2⟩ := info_parts infoPr
  clear r0 r1 B1 K1 hS hN hv hbl HIXE hIX
  go_enter Try.func43, Try.ntmps43
  go_wp2_with fail
  go_loopw [11, 5] (fun i l wr => ∃ k : Nat, k ≤ bn ∧ i = .int .i64 k ∧ Hid (wr.ownsRow W1.heap.size 117 2 l k (flat prC ((brs.take k).map EF))) ∧ Hid (Below W1.heap.size W1 wr)) (fun i _ _ => bn - (intOf i).toNat)
  case atStart => exact ⟨0, Nat.zero_le _, rfl, World.ownsRow_nil _ _ _ _, Below.refl _ _⟩
  case round =>
    clear x1
    obtain ⟨k, hk, rfl, how, hbl⟩ := hrel
    obtain ⟨lva, lvc, rfl⟩ := row_slice how.out
    by_cases hlt : k < bn
    ·
      obtain ⟨x, hx⟩ : ∃ x, brs[k]? = some x := ⟨_, List.getElem?_eq_getElem (by rw [HS.out]; exact hlt)⟩
      obtain ⟨g, off, cap', hvv, _, _, _, hc⟩ := (R1.out.below hbl.out).addr (by omega)
      simp only [Value.slice.injEq] at hvv
      obtain ⟨rfl, _, rfl⟩ := hvv
      obtain ⟨c0, c1, c2, c3, c4, c5, c6, c7, c8⟩ := br_cells hc hx
      have hmt := map_take_succ EF hx
      obtain ⟨⟨i1, hi1, hi1l⟩, i2, hi2, hi2l⟩ := HIN.out x (List.mem_of_getElem? hx)
      obtain ⟨nm, fr, tt, a3, a4, a5, a6, a7, a8⟩ := x
      simp only at c0 c1 c2 c3 c4 c5 c6 c7 c8 hi1 hi2
      rw [HEF.out, hi1, hi2] at hmt
      simp only [Int.toNat_natCast] at hmt
      obtain ⟨vg, voff, vcap', vvv, _, _, hvg, hvc⟩ := (RV.out.below hbl.out).addr (by omega)
      simp only [Value.slice.injEq] at vvv
      obtain ⟨rfl, _, rfl⟩ := vvv
      have y1 := hvc i1 _ (ints_get (by rw [HBL.out]; exact hi1l))
      have y2 := hvc i2 _ (ints_get (by rw [HBL.out]; exact hi2l))
      generalize bus.getD i1 0 = X1 at *
      generalize bus.getD i2 0 = X2 at *
      have HMT := Lib.hid hmt
      have HI1 : Hid (∀ W, Below W1.heap.size W1 W → Calls Try.prog 62 #[.slice na nn nc, .string fr] W fun e w' => e = .returned (.int .i64 i1) ∧ w' = W) := fun W hW => by rw [← hi1]; exact HIX.out fr W hW
      have HI2 : Hid (∀ W, Below W1.heap.size W1 W → Calls Try.prog 62 #[.slice na nn nc, .string tt] W fun e w' => e = .returned (.int .i64 i2) ∧ w' = W) := fun W hW => by rw [← hi2]; exact HIX.out tt W hW
      clear hmt hx hc hvc hi1 hi2
      have e2 := Blk.new wr #[.string nm, .string fr, .string tt, .int .i64 a3, .int .i64 a4, .int .i64 a5, .int .i64 a6, .int .i64 a7, .int .i64 a8] 53
      have hb2 := hbl.out.alloc hbl.out.size (.cells #[.string nm, .string fr, .string tt, .int .i64 a3, .int .i64 a4, .int .i64 a5, .int .i64 a6, .int .i64 a7, .int .i64 a8] 53)
      have ho2 := row_alloc how.out (.cells #[.string nm, .string fr, .string tt, .int .i64 a3, .int .i64 a4, .int .i64 a5, .int .i64 a6, .int .i64 a7, .int .i64 a8] 53)
      have k2 := (below_blk hbl.out K1'.out hxb).alloc (.cells #[.string nm, .string fr, .string tt, .int .i64 a3, .int .i64 a4, .int .i64 a5, .int .i64 a6, .int .i64 a7, .int .i64 a8] 53)
      have y1' := ((belowA (Below.refl _ wr) (.cells #[.string nm, .string fr, .string tt, .int .i64 a3, .int .i64 a4, .int .i64 a5, .int .i64 a6, .int .i64 a7, .int .i64 a8] 53)).cell (p := ⟨vg, voff + i1, none⟩) hvg).trans y1
      have y2' := ((belowA (Below.refl _ wr) (.cells #[.string nm, .string fr, .string tt, .int .i64 a3, .int .i64 a4, .int .i64 a5, .int .i64 a6, .int .i64 a7, .int .i64 a8] 53)).cell (p := ⟨vg, voff + i2, none⟩) hvg).trans y2
      have HVG : Hid (vg < wr.heap.size) := hvg
      have HVO : Hid (vg < W1.heap.size) := by
        obtain ⟨_, _, _, hh, _, _, h5, _⟩ := RV.out.addr (by omega)
        simp only [Value.slice.injEq, Option.some.injEq, Addr.mk.injEq] at hh
        obtain ⟨⟨rfl, _⟩, _⟩ := hh
        exact h5
      have HY1 := Lib.hid y1'
      have HY2 := Lib.hid y2'
      have HE2 := Lib.hid e2
      have HK2 := Lib.hid k2
      have HB2 : Hid (Below W1.heap.size W1 (wr.alloc (.cells #[.string nm, .string fr, .string tt, .int .i64 a3, .int .i64 a4, .int .i64 a5, .int .i64 a6, .int .i64 a7, .int .i64 a8] 53)).drew) := ⟨hb2.os, hb2.tape, hb2.output, hb2.size, hb2.block⟩
      have HO2 : Hid ((wr.alloc (.cells #[.string nm, .string fr, .string tt, .int .i64 a3, .int .i64 a4, .int .i64 a5, .int .i64 a6, .int .i64 a7, .int .i64 a8] 53)).drew.ownsRow W1.heap.size 117 2 (.slice lva k lvc) k (flat prC ((brs.take k).map EF))) := ho2
      have HRL := Lib.hid (row_lt how.out)
      have HSZ : Hid (wr.heap.size < (wr.alloc (.cells #[.string nm, .string fr, .string tt, .int .i64 a3, .int .i64 a4, .int .i64 a5, .int .i64 a6, .int .i64 a7, .int .i64 a8] 53)).heap.size) := by show _ < _; rw [World.size_alloc]; omega
      clear e2 hb2 ho2 k2 y1 y2 y1' y2' hvg
      go_wp2_with fail
      generalize wr.alloc (.cells #[.string nm, .string fr, .string tt, .int .i64 a3, .int .i64 a4, .int .i64 a5, .int .i64 a6, .int .i64 a7, .int .i64 a8] 53) = W2 at *
      have HL : Hid ((W2.drew.alloc (.cells #[.int .i64 X1, .int .i64 X2] 117)).ownsRow W1.heap.size 117 2 (.slice lva k lvc) k (flat prC ((brs.take k).map EF))) := row_alloc HO2.out _
      have HBA : Hid (Below W1.heap.size W1 (W2.drew.alloc (.cells #[.int .i64 X1, .int .i64 X2] 117))) := HB2.out.alloc HB2.out.size _
      have N1 : Hid (∀ j u, [Value.int .i64 X1, .int .i64 X2][j]? = some u → (W2.drew.alloc (.cells #[.int .i64 X1, .int .i64 X2] 117)).cell? ((⟨W2.heap.size, 0, none⟩ : Addr).add j) = some u) := (Blk.new W2.drew #[.int .i64 X1, .int .i64 X2] 117).row
      have S1 := Lib.hid (HE2.out.drew.alloc (.cells #[.int .i64 X1, .int .i64 X2] 117))
      have T1 := Lib.hid (HK2.out.drew.alloc (.cells #[.int .i64 X1, .int .i64 X2] 117))
      have hyd : ∀ o u, W2.cell? ⟨vg, o, none⟩ = some u → (W2.drew.alloc (.cells #[.int .i64 X1, .int .i64 X2] 117)).cell? ⟨vg, o, none⟩ = some u := fun o u h =>
        ((belowA (Below.refl _ W2.drew) (.cells #[.int .i64 X1, .int .i64 X2] 117)).cell (p := ⟨vg, o, none⟩) (by show vg < W2.heap.size; have := HVG.out; have := HSZ.out; omega)).trans h
      have HZ1 := Lib.hid (hyd _ _ HY1.out)
      have HZ2 := Lib.hid (hyd _ _ HY2.out)
      have HKP : Hid (∀ u1, (W2.drew.alloc (.cells #[.int .i64 X1, .int .i64 X2] 117)).grownBy u1 (Value.slice lva k lvc).ownBlock → Blk u1 wr.heap.size #[.string nm, .string fr, .string tt, .int .i64 a3, .int .i64 a4, .int .i64 a5, .int .i64 a6, .int .i64 a7, .int .i64 a8] 53 ∧ Blk u1 w.heap.size #[.slice na nn nc, .slice sa sn sc, .slice (some ⟨g, off, none⟩) bn bc, .slice ga gn gc, .slice la ln lc, .slice ta tn tc] 29 ∧ (∀ o u, (W2.drew.alloc (.cells #[.int .i64 X1, .int .i64 X2] 117)).cell? ⟨vg, o, none⟩ = some u → u1.cell? ⟨vg, o, none⟩ = some u)) := fun u1 hg =>
        ⟨blk_grown S1.out hg (fun e => Nat.lt_irrefl _ (HRL.out _ e.symm)), blk_grown T1.out hg (fun e => by have := row_own HL.out _ e.symm; omega), fun o u h => by
          rw [World.cell?_of_block (w := W2.drew.alloc (.cells #[.int .i64 X1, .int .i64 X2] 117)) (hg.block vg (by have := HVG.out; have := HSZ.out; simp; omega) (fun e => by have := row_own HL.out _ e.symm; have := HVO.out; omega))]; exact h⟩
      have HL1 : Hid (k + 1 ≤ maxLen) := by show _ ≤ _; unfold maxLen; omega
      have HL2 : Hid ((k + 1) * 16 ≤ 140737488355328) := by show _ ≤ _; omega
      have T0 := HK2.out.drew
      have S0 := HE2.out.drew
      have HAA : Hid (W2.drew.cell? ⟨w.heap.size, 0, none⟩ = some (.slice na nn nc) ∧ W2.drew.cell? ⟨wr.heap.size, 1, none⟩ = some (.string fr) ∧ W2.drew.cell? ⟨wr.heap.size, 2, none⟩ = some (.string tt) ∧ W2.drew.cell? ⟨vg, voff + i1, none⟩ = some (.int .i64 X1) ∧ W2.drew.cell? ⟨vg, voff + i2, none⟩ = some (.int .i64 X2)) := ⟨T0.cell 0 rfl, S0.cell 1 rfl, S0.cell 2 rfl, HY1.out, HY2.out⟩
      have HAB : Hid ((W2.drew.alloc (.cells #[.int .i64 X1, .int .i64 X2] 117)).cell? ⟨w.heap.size, 0, none⟩ = some (.slice na nn nc) ∧ (W2.drew.alloc (.cells #[.int .i64 X1, .int .i64 X2] 117)).cell? ⟨wr.heap.size, 1, none⟩ = some (.string fr) ∧ (W2.drew.alloc (.cells #[.int .i64 X1, .int .i64 X2] 117)).cell? ⟨wr.heap.size, 2, none⟩ = some (.string tt) ∧ (W2.drew.alloc (.cells #[.int .i64 X1, .int .i64 X2] 117)).cell? ⟨vg, voff + i1, none⟩ = some (.int .i64 X1) ∧ (W2.drew.alloc (.cells #[.int .i64 X1, .int .i64 X2] 117)).cell? ⟨vg, voff + i2, none⟩ = some (.int .i64 X2)) := ⟨T1.out.cell 0 rfl, S1.out.cell 1 rfl, S1.out.cell 2 rfl, HZ1.out, HZ2.out⟩
      have HJ1 := Lib.hid (HI1.out W2.drew HB2.out)
      have HJ2 := Lib.hid (HI2.out W2.drew HB2.out)
      clear T0 S0 hyd
      go_region_held3 (fun W => W.cell? ⟨w.heap.size, 0, none⟩ = some (.slice na nn nc) ∧ W.cell? ⟨wr.heap.size, 1, none⟩ = some (.string fr) ∧ W.cell? ⟨wr.heap.size, 2, none⟩ = some (.string tt) ∧ W.cell? ⟨vg, voff + i1, none⟩ = some (.int .i64 X1) ∧ W.cell? ⟨vg, voff + i2, none⟩ = some (.int .i64 X2))
        (first
          | with_reducible exact HAA.out
          | with_reducible exact HAB.out
          | with_reducible exact SU.out
          | exact HAB.out)
        (first
          | (go_at_call 62; ((with_reducible refine HJ1.out.mono ?_); rintro e w' ⟨rfl, rfl⟩))
          | (go_at_call 62; ((with_reducible refine HJ2.out.mono ?_); rintro e w' ⟨rfl, rfl⟩))
          | (refine step_append_lies _ rfl (.tmp 15) (.tmp 33) 92 rfl W1.heap.size 117 i0 (.agg #[.int .i64 0, .int .i64 0]) 2 16 Try.underlying92 hi0 hz0 hz1 hz2 rfl (by decide) (.slice lva k lvc) k (flat prC ((brs.take k).map EF)) rfl HL.out ⟨W2.heap.size, 0, none⟩ 1 1 [.int .i64 X1, .int .i64 X2] rfl rfl N1.out (ints_one [X1, X2]) (by decide) HL1.out HL2.out HBA.out.size _ rfl ?_; intro g1 cap1 u1 hown1 hgrow1 hat1 hlt1; have HOW := Lib.hid hown1; have HGR := Lib.hid hgrow1; have SU : Hid (u1.cell? ⟨w.heap.size, 0, none⟩ = some (.slice na nn nc) ∧ u1.cell? ⟨wr.heap.size, 1, none⟩ = some (.string fr) ∧ u1.cell? ⟨wr.heap.size, 2, none⟩ = some (.string tt) ∧ u1.cell? ⟨vg, voff + i1, none⟩ = some (.int .i64 X1) ∧ u1.cell? ⟨vg, voff + i2, none⟩ = some (.int .i64 X2)) := ⟨(HKP.out u1 hgrow1).2.1.cell 0 rfl, (HKP.out u1 hgrow1).1.cell 1 rfl, (HKP.out u1 hgrow1).1.cell 2 rfl, (HKP.out u1 hgrow1).2.2 _ _ HZ1.out, (HKP.out u1 hgrow1).2.2 _ _ HZ2.out⟩; clear hown1 hgrow1 hat1 hlt1))
      all_goals
        go_simp
        go_wp2_with fail
        go_roundw
        case rel => exact ⟨k + 1, hlt, by go_num, by show World.ownsRow _ _ _ _ _ _ _; rw [HMT.out, flat_snoc]; exact HOW.out, Below.grown HBA.out HGR.out HBA.out.size (row_own HL.out)⟩
        case measure => simp [intOf]; omega
    ·
      have hkn : bn = k := by omega
      have HTK : Hid (SE = (brs.take k).map EF) := by show _ = _; rw [HSE.out, List.take_of_length_le (by rw [HS.out]; omega)]
      have HLL : Hid ((brs.take k).map EF = SE) := HTK.out.symm
      have hSL : SE.length = k := by rw [HSE.out, List.length_map, HS.out, hkn]
      have HSL := Lib.hid hSL
      clear hSL
      go_wp2_with fail
      go_ret
      refine ⟨_, rfl, ?_, belowT BW.out hbl.out⟩
      rw [HSL.out, ← HLL.out]
      exact Reads.of_owns how.out (by omega)
end Go.Proofs.Ythcddboeejbncaa
namespace Go.Proofs.Ythcddboeejbncaa
open Go.RowKit

def islandsE (n : Net) : List Int := partsE (cntE (busesE n)).toNat (wiresE n (busesE n)) (fun _ => true)
theorem cnt_buses {n : Net} (h : Net.Ok n) : ∃ m : Nat, cntE (busesE n) = m ∧ m ≤ 24 ∧ ∀ x ∈ busesE n, 0 ≤ x ∧ x < m := by
  have h1 := cntE_nonneg (busesE n)
  have h2 := (busesE_ok n).2
  have h3 : cntE (busesE n) ≤ 24 := cntE_le (by omega) (fun x hx => by have := h2 x hx; have := h.nn; omega)
  refine ⟨(cntE (busesE n)).toNat, by omega, by omega, fun x hx => ?_⟩
  have := cntE_ge hx
  have := h2 x hx
  omega
set_option maxHeartbeats 400000 in
theorem fresh1_c (i : Int) (w : World) : Calls Try.prog 44 #[.int .i64 i] w fun e w' => e = .returned (.bool true) ∧ w = w' := by
  go_enter Try.func44, Try.ntmps44
  go_wp2_with fail
  go_ret
  exact ⟨rfl, rfl⟩

set_option maxHeartbeats 4000000 in
set_option maxRecDepth 100000 in
theorem fresh_c (x0 : NAddr) (n : Net) (w : World) (hr : NetR w x0 n) (hok : Net.Ok n) :
    Calls Try.prog 28 #[x0.val n] w fun e w' => ∃ b c m : Nat, e = .returned (.agg #[.slice (some ⟨b, 0, none⟩) n.nodes.length n.nodes.length, .slice (some ⟨c, 0, none⟩) m m]) ∧ cntE (busesE n) = m ∧ w.heap.size ≤ b ∧ w.heap.size ≤ c ∧ Blk w' b (ints (busesE n)).toArray 3 ∧ Blk w' c (ints (islandsE n)).toArray 3 ∧ Below w.heap.size w w' := by
  obtain ⟨m, hm, hm24, hmb⟩ := cnt_buses hok
  have hbl := (busesE_ok n).1
  have hbx := (busesE_ok n).2
  have hnn := hok.nn
  have hil : islandsE n = partsE m (wiresE n (busesE n)) (fun _ => true) := by unfold islandsE; rw [hm]; rfl
  have B1 := belowA (Below.refl w.heap.size w) (.cells #[.slice x0.na n.nodes.length x0.nc, .slice x0.sa n.sws.length x0.sc, .slice x0.ba n.brs.length x0.bc, .slice x0.ga n.gens.length x0.gc, .slice x0.la n.loads.length x0.lc, .slice x0.ta n.stores.length x0.tc] 29)
  have K1 := Blk.new w #[.slice x0.na n.nodes.length x0.nc, .slice x0.sa n.sws.length x0.sc, .slice x0.ba n.brs.length x0.bc, .slice x0.ga n.gens.length x0.gc, .slice x0.la n.loads.length x0.lc, .slice x0.ta n.stores.length x0.tc] 29
  obtain ⟨nb, hnb0⟩ : ∃ b, w.heap.size = b := ⟨_, rfl⟩
  obtain ⟨W1, hW1⟩ : ∃ W, w.alloc (.cells #[.slice x0.na n.nodes.length x0.nc, .slice x0.sa n.sws.length x0.sc, .slice x0.ba n.brs.length x0.bc, .slice x0.ga n.gens.length x0.gc, .slice x0.la n.loads.length x0.lc, .slice x0.ta n.stores.length x0.tc] 29) = W := ⟨_, rfl⟩
  rw [hW1] at B1 K1
  rw [hnb0] at K1
  have B2 := belowA B1 (.cells #[.slice none 0 0, .slice none 0 0] 47)
  have K2 := K1.alloc (.cells #[.slice none 0 0, .slice none 0 0] 47)
  have T2 := Blk.new W1 #[.slice none 0 0, .slice none 0 0] 47
  obtain ⟨tb, htb0⟩ : ∃ b, W1.heap.size = b := ⟨_, rfl⟩
  have htn : ¬ nb = tb := by have := K1.lt; omega
  rw [htb0] at T2
  obtain ⟨W2, hW2⟩ : ∃ W, W1.alloc (.cells #[.slice none 0 0, .slice none 0 0] 47) = W := ⟨_, rfl⟩
  rw [hW2] at B2 K2 T2
  have HBU : Hid (Calls Try.prog 40 #[x0.val n] W2 fun e w' => ∃ b, e = .returned (.slice (some ⟨b, 0, none⟩) n.nodes.length n.nodes.length) ∧ W2.heap.size ≤ b ∧ Blk w' b (ints (busesE n)).toArray 3 ∧ Below W2.heap.size W2 w') := buses_c x0 n W2 (hr.below B2) hok
  have HCO : Hid (∀ b W, Blk W b (ints (busesE n)).toArray 3 → Calls Try.prog 42 #[.slice (some ⟨b, 0, none⟩) n.nodes.length n.nodes.length] W fun e w' => e = .returned (.int .i64 m) ∧ w' = W) := by
    intro b W hb
    rw [← hm]
    exact (count_c _ (busesE n) W (Or.inr ⟨b, 0, n.nodes.length, by rw [hbl], by omega, by omega, hb.lt, fun j u hj => by rw [Nat.zero_add]; exact hb.cell j (by simpa using hj)⟩) (fun x hx => by have := hbx x hx; omega)).mono fun e w' h => ⟨h.1, h.2.symm⟩
  have HWI : Hid (∀ b W, Below W2.heap.size W2 W → Blk W b (ints (busesE n)).toArray 3 → Calls Try.prog 43 #[x0.val n, .slice (some ⟨b, 0, none⟩) n.nodes.length n.nodes.length] W fun e w' => ∃ lv, e = .returned lv ∧ Reads w' lv (wiresE n (busesE n)).length (flat prC (wiresE n (busesE n))) ∧ Below W.heap.size W w') := by
    intro b W hW hb
    exact wires_c x0 n (busesE n) _ W (hr.below (belowT B2 hW)) (Or.inr ⟨b, 0, n.nodes.length, by rw [hbl], by omega, by omega, hb.lt, fun j u hj => by rw [Nat.zero_add]; exact hb.cell j (by simpa using hj)⟩) hok hbl
  have HPC : Hid (∀ lv W, Reads W lv (wiresE n (busesE n)).length (flat prC (wiresE n (busesE n))) → Calls Try.prog 41 #[.int .i64 m, lv, .func (.func 44) #[] #[]] W fun e w' => ∃ b, e = .returned (.slice (some ⟨b, 0, none⟩) m m) ∧ W.heap.size ≤ b ∧ Blk w' b (ints (islandsE n)).toArray 3 ∧ Below W.heap.size W w') := by
    intro lv W hlv
    rw [hil]
    refine parts_c m (wiresE n (busesE n)) (fun _ => true) _ _ lv W (by omega) (wiresE_ok hmb hbl hok) hlv (fun a w' => enters_of Try.func44 (by kernel_rfl) rfl a w') ?_
    intro i W' _ _
    refine (fresh1_c i W').mono fun e w' h => ⟨h.1, ?_⟩
    rw [h.2]; exact Below.refl _ _
  have HB2 := Lib.hid B2
  have HK2 := Lib.hid K2
  have HT2 := Lib.hid T2
  have HSZ : Hid (w.heap.size ≤ W2.heap.size) := B2.size
  have HTL : Hid (tb < W2.heap.size) := T2.lt
  have HWT : Hid (w.heap.size ≤ tb) := by show _ ≤ _; rw [← htb0]; exact B1.size
  have HM := Lib.hid hm
  have x0' := K2.cell 0 rfl
  have x1' := K2.cell 1 rfl
  have x2' := K2.cell 2 rfl
  have x3' := K2.cell 3 rfl
  have x4' := K2.cell 4 rfl
  have x5' := K2.cell 5 rfl
  generalize busesE n = BE at *
  generalize islandsE n = IE at *
  generalize hSE : flat prC (wiresE n BE) = SE at *
  generalize (wiresE n BE).length = en at *
  clear hok hr hm hmb hbl hbx hil hSE hnn B1 B2 K1 K2 T2
  obtain ⟨na, nc, sa, sc, ba, bc, ga, gc, la, lc, ta, tc⟩ := x0
  obtain ⟨nl, sws, brs, gens, loads, stores⟩ := n
  simp only [NAddr.val] at HBU HCO HWI HPC hW1 HK2 x0' x1' x2' x3' x4' x5' ⊢
  generalize nl.length = nn at *
  generalize sws.length = sn at *
  generalize brs.length = bn at *
  generalize gens.length = gn at *
  generalize loads.length = ln at *
  generalize stores.length = tn at *
  have HW1 := Lib.hid hW1
  have HW2 := Lib.hid hW2
  have HNB := Lib.hid hnb0
  have HT1 : Hid (w.heap.size + 1 = tb) := by show _ = _; rw [← htb0, ← hW1, World.size_alloc]
  clear hW1 hW2 hnb0 htb0
  go_enter Try.func28, Try.ntmps28
  go_wp2_with fail
  rw [HW1.out, HW2.out, HT1.out, HNB.out]
  refine HBU.out.mono ?_; rintro e w3 ⟨b, rfl, hle, hkb, hb3⟩
  have B3 := Lib.hid hb3
  have KB3 := Lib.hid hkb
  have K3 := Lib.hid (below_blk hb3 HK2.out HK2.out.lt)
  have T3 := Lib.hid (below_blk hb3 HT2.out HT2.out.lt)
  have HLE := Lib.hid hle
  clear hle hkb hb3 HK2 HT2 HBU x0' x1' x2' x3' x4' x5'
  have HSB : Hid (∀ W, Blk W nb #[.slice na nn nc, .slice sa sn sc, .slice ba bn bc, .slice ga gn gc, .slice la ln lc, .slice ta tn tc] 29 → (W.cell? ⟨nb, 0, none⟩ = some (.slice na nn nc) ∧ W.cell? ⟨nb, 1, none⟩ = some (.slice sa sn sc) ∧ W.cell? ⟨nb, 2, none⟩ = some (.slice ba bn bc) ∧ W.cell? ⟨nb, 3, none⟩ = some (.slice ga gn gc) ∧ W.cell? ⟨nb, 4, none⟩ = some (.slice la ln lc) ∧ W.cell? ⟨nb, 5, none⟩ = some (.slice ta tn tc))) := fun W k =>
    ⟨k.cell 0 rfl, k.cell 1 rfl, k.cell 2 rfl, k.cell 3 rfl, k.cell 4 rfl, k.cell 5 rfl⟩
  have y0' := K3.out.cell 0 rfl
  go_wp2_with fail
  have D0 : Hid (Below w3.heap.size w3 w3.drew) := ⟨rfl, rfl, rfl, Nat.le_refl _, fun _ _ => rfl⟩
  go_region_held3 (fun W => (W.cell? ⟨nb, 0, none⟩ = some (.slice na nn nc) ∧ W.cell? ⟨nb, 1, none⟩ = some (.slice sa sn sc) ∧ W.cell? ⟨nb, 2, none⟩ = some (.slice ba bn bc) ∧ W.cell? ⟨nb, 3, none⟩ = some (.slice ga gn gc) ∧ W.cell? ⟨nb, 4, none⟩ = some (.slice la ln lc) ∧ W.cell? ⟨nb, 5, none⟩ = some (.slice ta tn tc)))
    (first
      | with_reducible exact HSB.out _ K3.out.drew
      | with_reducible exact HSB.out _ K4.out
      | with_reducible exact HSB.out _ K5.out
      | exact HSB.out _ ((K5.out.setOther ⟨tb, 0, none⟩ htn _).setOther ⟨tb, 1, none⟩ htn _))
    (first
      | (go_at_call 42; refine (HCO.out b w3.drew KB3.out.drew).mono ?_; rintro e w' ⟨rfl, rfl⟩)
      | (go_at_call 43; refine (HWI.out b w3.drew (belowT B3.out D0.out) KB3.out.drew).mono ?_; rintro e w4 ⟨lv, rfl, hrd, hb4⟩; have K4 := Lib.hid (below_blk hb4 K3.out.drew K3.out.drew.lt); have T4 := Lib.hid (below_blk hb4 T3.out.drew T3.out.drew.lt); have KB4 := Lib.hid (below_blk hb4 KB3.out.drew KB3.out.drew.lt); have R4 := Lib.hid hrd; have B4 := Lib.hid (belowT (belowT B3.out D0.out) hb4); clear hb4 hrd)
      | (go_at_call 41; refine (HPC.out lv w4 R4.out).mono ?_; rintro e w5 ⟨c, rfl, hlc, hkc, hb5⟩; have K5 := Lib.hid (below_blk hb5 K4.out K4.out.lt); have KB5 := Lib.hid (below_blk hb5 KB4.out KB4.out.lt); have T5 := Lib.hid (below_blk hb5 T4.out T4.out.lt); have KC5 := Lib.hid hkc; have HLC := Lib.hid (Nat.le_trans B4.out.size hlc); have B5 := Lib.hid (belowT B4.out hb5); have tf0 := T5.out.free 0; have tf1 := T5.out.free 1; have tc0 := T5.out.cell 0 rfl; have tc1 := T5.out.cell 1 rfl; clear hb5 hlc hkc))
  all_goals
    have TF := (T5.out.set 0 (.slice (some ⟨b, 0, none⟩) nn nn)).set 1 (.slice (some ⟨c, 0, none⟩) m m)
    have u0 := TF.cell 0 rfl
    have u1 := TF.cell 1 rfl
    clear TF tf0 tf1 tc0 tc1
    go_simp
    go_wp2_with fail
    refine bodyPost_ret (v := .agg #[.slice (some ⟨b, 0, none⟩) nn nn, .slice (some ⟨c, 0, none⟩) m m]) (by simp [results, Try.results28, go_sem, u0, u1]) rfl ⟨b, c, m, rfl, HM.out, ?_, ?_, ?_, ?_, ?_⟩
    · exact Nat.le_trans HSZ.out HLE.out
    · exact Nat.le_trans HSZ.out HLC.out
    · have hb : b ≠ tb := by have := HLE.out; have := HTL.out; omega
      exact (KB5.out.setOther ⟨tb, 0, none⟩ hb _).setOther ⟨tb, 1, none⟩ hb _
    · have hb : c ≠ tb := by have := HLC.out; have := HTL.out; omega
      exact (KC5.out.setOther ⟨tb, 0, none⟩ hb _).setOther ⟨tb, 1, none⟩ hb _
    · exact ((belowT HB2.out B5.out).setCell HWT.out _).setCell HWT.out _
end Go.Proofs.Ythcddboeejbncaa
