/- journal: the fixed example. -/
import Derived.Test.YtjakhgilkogcnaaDoorJr9
import Derived.Test.YtjakhgilkogcnaaDoorJr13
namespace Go.Proofs.YtjakhgilkogcnaaDoor
open Go.RowKit Go.Sort

theorem evEq_run (p0 : Int) (p1 p2 : ByteArray) (p3 q0 : Int) (q1 q2 : ByteArray) (q3 : Int) (W : World) : (binOp .eql 31 (.agg #[.int .i64 p0, .string p1, .string p2, .int .i64 p3]) (.agg #[.int .i64 q0, .string q1, .string q2, .int .i64 q3])).run Tryd.prog W = .ok (.bool (decide ((⟨p0, p1, p2, p3⟩ : Ev) = ⟨q0, q1, q2, q3⟩))) W := by
  have hf : Tryd.prog.underlying 31 = some (.struct (Tryd.prog.fieldsOf 31)) := by kernel_rfl
  have hs : Tryd.prog.stoodInHeld 31 = false := by kernel_rfl
  rw [run_eql_struct, run_equalIn_agg W _ _ _ _ hf hs]
  have hl : (Tryd.prog.fieldsOf 31).toList.map (fun f => (f.name, f.type, f.offset)) = [("Time", 3, 0), ("Kind", 9, 1), ("Name", 9, 2), ("Value", 3, 3)] := by kernel_rfl
  generalize (Tryd.prog.fieldsOf 31).toList = L at hl
  have hi : Tryd.prog.plainKey 3 = true := by kernel_rfl
  have hst : Tryd.prog.plainKey 9 = true := by kernel_rfl
  have hiu : Tryd.prog.underlying 3 = some (.int .i64) := by kernel_rfl
  have hsu : Tryd.prog.underlying 9 = some .string := by kernel_rfl
  rcases L with _ | ⟨f0, _ | ⟨f1, _ | ⟨f2, _ | ⟨f3, _ | ⟨_, _⟩⟩⟩⟩⟩ <;> simp only [List.map_cons, List.map_nil, List.cons.injEq, Prod.mk.injEq, reduceCtorEq, and_false, and_true] at hl
  obtain ⟨⟨n0, t0, o0⟩, ⟨n1, t1, o1⟩, ⟨n2, t2, o2⟩, n3, t3, o3⟩ := hl
  simp only [Op.eqFields, n0, n1, n2, n3, t0, t1, t2, t3, o0, o1, o2, o3]
  have e1 : (p1.toList == q1.toList) = decide (p1 = q1) := by
    rw [Bool.eq_iff_iff, Lib.bytes_beq_iff]; simp
  have e2 : (p2.toList == q2.toList) = decide (p2 = q2) := by
    rw [Bool.eq_iff_iff, Lib.bytes_beq_iff]; simp
  rw [if_pos (show "Time" ≠ "_" by decide), if_pos (show "Kind" ≠ "_" by decide), if_pos (show "Name" ≠ "_" by decide), if_pos (show "Value" ≠ "_" by decide)]
  have rp0 : ∀ W, (part 3 #[Value.int .i64 p0, .string p1, .string p2, .int .i64 p3] 0).run Tryd.prog W = .ok (.int .i64 p0) W := fun W => run_part_plain W hi rfl
  have rp1 : ∀ W, (part 9 #[Value.int .i64 p0, .string p1, .string p2, .int .i64 p3] 1).run Tryd.prog W = .ok (.string p1) W := fun W => run_part_plain W hst rfl
  have rp2 : ∀ W, (part 9 #[Value.int .i64 p0, .string p1, .string p2, .int .i64 p3] 2).run Tryd.prog W = .ok (.string p2) W := fun W => run_part_plain W hst rfl
  have rp3 : ∀ W, (part 3 #[Value.int .i64 p0, .string p1, .string p2, .int .i64 p3] 3).run Tryd.prog W = .ok (.int .i64 p3) W := fun W => run_part_plain W hi rfl
  have rq0 : ∀ W, (part 3 #[Value.int .i64 q0, .string q1, .string q2, .int .i64 q3] 0).run Tryd.prog W = .ok (.int .i64 q0) W := fun W => run_part_plain W hi rfl
  have rq1 : ∀ W, (part 9 #[Value.int .i64 q0, .string q1, .string q2, .int .i64 q3] 1).run Tryd.prog W = .ok (.string q1) W := fun W => run_part_plain W hst rfl
  have rq2 : ∀ W, (part 9 #[Value.int .i64 q0, .string q1, .string q2, .int .i64 q3] 2).run Tryd.prog W = .ok (.string q2) W := fun W => run_part_plain W hst rfl
  have rq3 : ∀ W, (part 3 #[Value.int .i64 q0, .string q1, .string q2, .int .i64 q3] 3).run Tryd.prog W = .ok (.int .i64 q3) W := fun W => run_part_plain W hi rfl
  simp only [Sem.run_bind, rp0, rp1, rp2, rp3, rq0, rq1, rq2, rq3, Result.andThen_ok, run_equalIn_int _ 9998 3 .i64 .i64 _ _ hiu, run_equalIn_string _ 9998 9 _ _ hsu, Sem.run_ite, Sem.run_pure]
  rw [e1, e2]
  by_cases h0 : p0 = q0 <;> by_cases h1 : p1 = q1 <;> by_cases h2 : p2 = q2 <;> by_cases h3 : p3 = q3 <;> simp [h0, h1, h2, h3, Result.andThen]
def exA : Ev := ⟨30, ⟨#[84, 82, 73, 80]⟩, ⟨#[66]⟩, 0⟩
def exB : Ev := ⟨5, ⟨#[84, 82, 73, 80]⟩, ⟨#[65]⟩, -1⟩
theorem ex_le : leE exA exB = false := by decide +kernel
theorem ex_sort : sortE [exA, exB] = [exB, exA] := by
  unfold sortE
  simp [List.mergeSort, List.MergeSort.Internal.splitInTwo, ex_le]
theorem ex_check : checkE [exA, exB] = 0 := by decide +kernel
theorem ex_sorted : sortedE [exA, exB] = ([exB, exA], 0) := by
  unfold sortedE
  rw [ex_check, ex_sort]; rfl
theorem ex_grp : grpG 10 [exB, exA] none [] = [[exB], [exA]] := by decide +kernel
theorem ex_groups : groupsE [exA, exB] 10 = ([[exB], [exA]], 0) := by
  unfold groupsE
  rw [ex_sorted]
  simp only [ex_grp]
  rfl
theorem ex_print : printE [exA, exB] = (⟨#[51, 48, 32, 84, 82, 73, 80, 32, 66, 32, 48, 10, 53, 32, 84, 82, 73, 80, 32, 65, 32, 45, 49, 10]⟩, 0) := by decide +kernel
theorem ex_wf : Hid (∀ x ∈ [exA, exB], x.Wf) := by
  intro x hx
  simp only [List.mem_cons, List.not_mem_nil, or_false] at hx
  rcases hx with rfl | rfl <;> exact ⟨by decide, by decide⟩
set_option maxHeartbeats 2000000 in
theorem works_c (w : World) (ht : Pow w) : Calls Tryd.prog 8 #[] w fun e w' => e = .returned (.bool true) ∧ Below w.heap.size w w' := by
  have K := Blk.new w #[.int .i64 30, .string ⟨#[84, 82, 73, 80]⟩, .string ⟨#[66]⟩, .int .i64 0, .int .i64 5, .string ⟨#[84, 82, 73, 80]⟩, .string ⟨#[65]⟩, .int .i64 (-1)] 31
  have B := Lib.hid (belowA (Below.refl w.heap.size w) (.cells #[.int .i64 30, .string ⟨#[84, 82, 73, 80]⟩, .string ⟨#[66]⟩, .int .i64 0, .int .i64 5, .string ⟨#[84, 82, 73, 80]⟩, .string ⟨#[65]⟩, .int .i64 (-1)] 31))
  have HEV : Hid (∀ W, Blk W w.heap.size #[.int .i64 30, .string ⟨#[84, 82, 73, 80]⟩, .string ⟨#[66]⟩, .int .i64 0, .int .i64 5, .string ⟨#[84, 82, 73, 80]⟩, .string ⟨#[65]⟩, .int .i64 (-1)] 31 → EVal W (.slice (some ⟨w.heap.size, 0, none⟩) 2 2) [exA, exB]) := fun W k =>
    Or.inr ⟨w.heap.size, 0, 2, rfl, Nat.le_refl _, by decide, k.lt, fun j u hj => by rw [Nat.zero_add]; exact k.cell j (by rw [← Array.getElem?_toList]; exact hj)⟩
  have HT : Hid (Pow (w.alloc (.cells #[.int .i64 30, .string ⟨#[84, 82, 73, 80]⟩, .string ⟨#[66]⟩, .int .i64 0, .int .i64 5, .string ⟨#[84, 82, 73, 80]⟩, .string ⟨#[65]⟩, .int .i64 (-1)] 31))) := ht.below B.out
  have HPR : Hid (∀ W, Blk W w.heap.size #[.int .i64 30, .string ⟨#[84, 82, 73, 80]⟩, .string ⟨#[66]⟩, .int .i64 0, .int .i64 5, .string ⟨#[84, 82, 73, 80]⟩, .string ⟨#[65]⟩, .int .i64 (-1)] 31 → Pow W → Calls Tryd.prog 14 #[.slice (some ⟨w.heap.size, 0, none⟩) 2 2] W fun e w' => e = .returned (.tuple #[.string ⟨#[51, 48, 32, 84, 82, 73, 80, 32, 66, 32, 48, 10, 53, 32, 84, 82, 73, 80, 32, 65, 32, 45, 49, 10]⟩, .int .i64 0]) ∧ Below W.heap.size W w') := fun W k hp => by
    have := print_c _ _ W (HEV.out W k) ex_wf hp
    rw [ex_print] at this
    exact this
  have HSO : Hid (∀ W, Blk W w.heap.size #[.int .i64 30, .string ⟨#[84, 82, 73, 80]⟩, .string ⟨#[66]⟩, .int .i64 0, .int .i64 5, .string ⟨#[84, 82, 73, 80]⟩, .string ⟨#[65]⟩, .int .i64 (-1)] 31 → Calls Tryd.prog 10 #[.slice (some ⟨w.heap.size, 0, none⟩) 2 2] W (EvsP [exB, exA] 0 W)) := fun W k => by
    have := sorted_c _ _ W (HEV.out W k) ex_wf
    rw [ex_sorted] at this
    exact this
  have HGR : Hid (∀ W, Blk W w.heap.size #[.int .i64 30, .string ⟨#[84, 82, 73, 80]⟩, .string ⟨#[66]⟩, .int .i64 0, .int .i64 5, .string ⟨#[84, 82, 73, 80]⟩, .string ⟨#[65]⟩, .int .i64 (-1)] 31 → Calls Tryd.prog 9 #[.slice (some ⟨w.heap.size, 0, none⟩) 2 2, .int .i64 10] W (GrpP [[exB], [exA]] 0 W)) := fun W k => by
    have := groups_c _ _ 10 W (HEV.out W k) ex_wf
    rw [ex_groups] at this
    exact this
  have hwl : w.heap.size < (w.alloc (.cells #[.int .i64 30, .string ⟨#[84, 82, 73, 80]⟩, .string ⟨#[66]⟩, .int .i64 0, .int .i64 5, .string ⟨#[84, 82, 73, 80]⟩, .string ⟨#[65]⟩, .int .i64 (-1)] 31)).heap.size := K.lt
  generalize hW1 : w.alloc (.cells #[.int .i64 30, .string ⟨#[84, 82, 73, 80]⟩, .string ⟨#[66]⟩, .int .i64 0, .int .i64 5, .string ⟨#[84, 82, 73, 80]⟩, .string ⟨#[65]⟩, .int .i64 (-1)] 31) = W1 at *
  have HW1 := Lib.hid hW1
  have HK := Lib.hid K
  have HP := Lib.hid (HPR.out W1 K HT.out)
  clear K hW1 ht HPR HEV HT
  go_enter Tryd.func8, Tryd.ntmps8
  go_upto_region 2 with fail
  rw [HW1.out]
  go_wp2_with fail
  refine HP.out.mono ?_; rintro e w3 ⟨rfl, hb3⟩
  have HK3 := Lib.hid (below_blk hb3 HK.out hwl)
  have B3 := Lib.hid (belowT B.out hb3)
  have HS3 := Lib.hid (HSO.out w3 HK3.out)
  clear hb3 HP HSO HK B
  go_wp2_with fail
  refine HS3.out.mono ?_; rintro e w4 ⟨a4, c4, rfl, hv4, hb4⟩
  have HK4 := Lib.hid (below_blk hb4 HK3.out HK3.out.lt)
  have B4 := Lib.hid (belowT B3.out hb4)
  have HV4 : Hid (Reads w4 (.slice a4 2 c4) 2 (flat Ev.cells [exB, exA])) := hv4
  have HG4 := Lib.hid (HGR.out w4 HK4.out)
  clear hb4 hv4 HS3 HGR HK3 B3
  go_wp2_with fail
  refine HG4.out.mono ?_; rintro e w5 ⟨gv, rfl, hg5, hb5⟩
  have HK5 := below_blk hb5 HK4.out HK4.out.lt
  have B5 := Lib.hid (belowT B4.out hb5)
  obtain ⟨hs, _, hgr, _⟩ := hg5
  obtain ⟨ga, gc, rfl⟩ := (show Reads w5 gv 2 hs from hgr).slice
  obtain ⟨g4, off, cap', hvv, _, _, _, hcc⟩ := (HV4.out.below hb5).addr (by decide)
  simp only [Value.slice.injEq] at hvv
  obtain ⟨rfl, _, rfl⟩ := hvv
  have y0 : w5.cell? ⟨g4, off, none⟩ = some (.int .i64 5) := hcc 0 _ rfl
  have y1 : w5.cell? ⟨g4, off + 1, none⟩ = some (.string ⟨#[84, 82, 73, 80]⟩) := hcc 1 _ rfl
  have y2 : w5.cell? ⟨g4, off + 2, none⟩ = some (.string ⟨#[65]⟩) := hcc 2 _ rfl
  have y3 : w5.cell? ⟨g4, off + 3, none⟩ = some (.int .i64 (-1)) := hcc 3 _ rfl
  have x0 := HK5.cell 4 rfl
  have x1 := HK5.cell 5 rfl
  have x2 := HK5.cell 6 rfl
  have x3 := HK5.cell 7 rfl
  have qb : ∀ W : World, (binOp .eql 31 (.agg #[.int .i64 5, .string ⟨#[84, 82, 73, 80]⟩, .string ⟨#[65]⟩, .int .i64 (-1)]) (.agg #[.int .i64 5, .string ⟨#[84, 82, 73, 80]⟩, .string ⟨#[65]⟩, .int .i64 (-1)])).run Tryd.prog W = .ok (.bool true) W := fun W => by
    rw [evEq_run]; rfl
  clear hcc hgr hb5 HV4 HG4 HK4 HK5 B4
  go_upto_region 5 with fail
  go_quiet (rw [qb])
  go_wp2_with fail
  go_ret
  exact ⟨rfl, below_drewN B5.out _⟩
end Go.Proofs.YtjakhgilkogcnaaDoor
