/- The law JournalFirst walked. -/
import Derived.Test.YtjakhgilkogcnaaDoorJr15
namespace Go.Proofs.YtjakhgilkogcnaaDoor
open Go.RowKit Go.Sort

set_option maxHeartbeats 4000000 in
theorem lawJrFirst_c (v : Value) (l : List Ev) (kd : ByteArray) (w : World) (hv : EVal w v l) (hw : Hid (∀ x ∈ l, x.Wf)) (ht : Pow w) :
    Calls Tryd.prog 4 #[v, .string kd] w fun e w' => e = .returned (.bool true) ∧ Below w.heap.size w w' := by
  obtain ⟨va, vc, rfl⟩ := (show Reads w v l.length (flat Ev.cells l) from hv).slice
  have HW := Lib.hid (works_c w ht)
  have HF := Lib.hid (fun W (hW : Below w.heap.size w W) => first_c (.slice va l.length vc) l kd W (hv.below hW) hw)
  have HL := Lib.hid (first_law l kd)
  obtain ⟨⟨X, ER⟩, hX⟩ : ∃ p, firstE l kd = p := ⟨_, rfl⟩
  rw [hX] at HF HL
  clear hX
  have hn : l.length ≤ 9223372036854775807 := by
    rcases (show Reads w (.slice va l.length vc) l.length (flat Ev.cells l) from hv) with ⟨h, _⟩ | ⟨_, _, _, _, _, h, _⟩ <;> omega
  obtain ⟨n, hN⟩ : ∃ n, l.length = n := ⟨_, rfl⟩
  have HN := Lib.hid hN
  have HV : Hid (Reads w (.slice va n vc) n (flat Ev.cells l)) := by show Reads _ _ _ _; rw [← hN]; exact hv
  rw [hN] at HF hn ⊢
  clear hN hv ht
  obtain ⟨X0, X1, X2, X3⟩ := X
  have HF2 : Hid (∀ W, Below w.heap.size w W → Calls Tryd.prog 12 #[.slice va n vc, .string kd] W fun e w' => e = .returned (.tuple #[.agg #[.int .i64 X0, .string X1, .string X2, .int .i64 X3], .int .i64 ER]) ∧ Below W.heap.size W w') := HF.out
  clear HF
  go_enter Tryd.func4, Tryd.ntmps4
  go_wp2_with fail
  refine HW.out.mono ?_; rintro e w2 ⟨rfl, hb2⟩
  have HB2 := Lib.hid hb2
  have HF3 := Lib.hid (HF2.out w2 hb2)
  clear hb2 HF2 HW
  go_wp2_with fail
  refine HF3.out.mono ?_; rintro e w3 ⟨rfl, hb3⟩
  have HB3 := Lib.hid (belowT HB2.out hb3)
  have hs3 : w.heap.size ≤ w3.heap.size := HB3.out.size
  clear hb3 HF3 HB2
  have KX := Blk.new w3 #[.int .i64 X0, .string X1, .string X2, .int .i64 X3] 31
  have BX := Lib.hid (HB3.out.alloc hs3 (.cells #[.int .i64 X0, .string X1, .string X2, .int .i64 X3] 31))
  rcases HL.out with ⟨er, he, h0, h8⟩ | ⟨he, hall⟩ | ⟨x, he, hxk, hall⟩
  · have he1 : (⟨X0, X1, X2, X3⟩ : Ev) = ev0 := congrArg Prod.fst he
    have he2 : ER = er := congrArg Prod.snd he
    subst he2
    injection he1 with e0 e1 e2 e3
    subst e0; subst e1; subst e2; subst e3
    have g1 : (ER != 0) = true := by simpa using h0
    have g2 : (ER != 8) = true := by simpa using h8
    have qb : ∀ W : World, (binOp .eql 31 (.agg #[.int .i64 0, .string ⟨#[]⟩, .string ⟨#[]⟩, .int .i64 0]) (.agg #[.int .i64 0, .string ⟨#[]⟩, .string ⟨#[]⟩, .int .i64 0])).run Tryd.prog W = .ok (.bool true) W := fun W => by
      rw [evEq_run]; rfl
    clear HL he h0 h8
    go_wp2_with (rw [qb])
    go_ret
    exact ⟨rfl, BX.out⟩
  · have he1 : (⟨X0, X1, X2, X3⟩ : Ev) = ev0 := congrArg Prod.fst he
    have he2 : ER = 8 := congrArg Prod.snd he
    subst he2
    injection he1 with e0 e1 e2 e3
    subst e0; subst e1; subst e2; subst e3
    have qb : ∀ W : World, (binOp .eql 31 (.agg #[.int .i64 0, .string ⟨#[]⟩, .string ⟨#[]⟩, .int .i64 0]) (.agg #[.int .i64 0, .string ⟨#[]⟩, .string ⟨#[]⟩, .int .i64 0])).run Tryd.prog W = .ok (.bool true) W := fun W => by
      rw [evEq_run]; rfl
    have HA := Lib.hid hall
    clear HL he hall
    have HKX := Lib.hid KX
    have hs4 : w.heap.size ≤ (w3.alloc (.cells #[.int .i64 0, .string ByteArray.empty, .string ByteArray.empty, .int .i64 0] 31)).heap.size := BX.out.size
    have hs34 : w3.heap.size < (w3.alloc (.cells #[.int .i64 0, .string ByteArray.empty, .string ByteArray.empty, .int .i64 0] 31)).heap.size := KX.lt
    clear KX
    go_upto_region 6 with fail
    generalize hW4 : w3.alloc (.cells #[.int .i64 0, .string ByteArray.empty, .string ByteArray.empty, .int .i64 0] 31) = w4 at *
    clear hW4
    go_wp2_with fail
    go_loopw [28] (fun i wr => ∃ k : Nat, k ≤ n ∧ i = .int .i64 k ∧ Hid (Below w4.heap.size w4 wr)) (fun i _ => n - (intOf i).toNat)
    case atStart => exact ⟨0, Nat.zero_le _, rfl, Below.refl _ _⟩
    case round =>
      obtain ⟨k, hk, rfl, hb⟩ := hrel
      have KR := below_blk hb.out HKX.out hs34
      by_cases hlt : k < n
      · obtain ⟨y, hy⟩ : ∃ y, l[k]? = some y := ⟨_, List.getElem?_eq_getElem (by rw [HN.out]; exact hlt)⟩
        have hyk := HA.out y (List.mem_of_getElem? hy)
        obtain ⟨g', off, cap', hvv, _, _, _, hcc⟩ := (HV.out.below (BX.out.trans (hb.out.mono hs4))).addr (by omega)
        simp only [Value.slice.injEq] at hvv
        obtain ⟨rfl, _, rfl⟩ := hvv
        obtain ⟨c0, c1, c2, c3⟩ := ev_cells hcc hy
        obtain ⟨b0, b1, b2, b3⟩ := y
        simp only at c0 c1 c2 c3
        have hzr := KR.lt
        have HB5 := Lib.hid (hb.out.alloc hb.out.size (.cells #[.int .i64 b0, .string b1, .string b2, .int .i64 b3] 31))
        simp only at hyk
        have g1 : (b1.toList == kd.toList) = false := by
          cases hq : (b1.toList == kd.toList)
          · rfl
          · exact absurd ((Lib.bytes_beq_iff b1 kd).1 hq) hyk
        clear hcc hy hyk
        go_wp2_with fail
        go_roundw
        case rel => exact ⟨k + 1, hlt, by go_num, HB5⟩
        case measure => simp [intOf]; omega
      · have x0 : wr.cell? ⟨w3.heap.size, 0, none⟩ = some (.int .i64 0) := KR.cell 0 rfl
        have x1 : wr.cell? ⟨w3.heap.size, 1, none⟩ = some (.string ⟨#[]⟩) := KR.cell 1 rfl
        have x2 : wr.cell? ⟨w3.heap.size, 2, none⟩ = some (.string ⟨#[]⟩) := KR.cell 2 rfl
        have x3 : wr.cell? ⟨w3.heap.size, 3, none⟩ = some (.int .i64 0) := KR.cell 3 rfl
        go_wp2_with (rw [qb])
        go_ret
        exact ⟨rfl, BX.out.trans (hb.out.mono hs4)⟩
  · have he1 : (⟨X0, X1, X2, X3⟩ : Ev) = x := congrArg Prod.fst he
    have he2 : ER = 0 := congrArg Prod.snd he
    subst he1
    subst he2
    have HA := Lib.hid hall
    have hx1 : (X1.toList == kd.toList) = true := (Lib.bytes_beq_iff X1 kd).2 hxk
    clear HL he hall hxk
    have HKX := Lib.hid KX
    have hs4 : w.heap.size ≤ (w3.alloc (.cells #[.int .i64 X0, .string X1, .string X2, .int .i64 X3] 31)).heap.size := BX.out.size
    have hs34 : w3.heap.size < (w3.alloc (.cells #[.int .i64 X0, .string X1, .string X2, .int .i64 X3] 31)).heap.size := KX.lt
    clear KX
    go_upto_region 6 with fail
    generalize hW4 : w3.alloc (.cells #[.int .i64 X0, .string X1, .string X2, .int .i64 X3] 31) = w4 at *
    clear hW4
    go_wp2_with fail
    go_loopw [28] (fun i wr => ∃ k : Nat, k ≤ n ∧ i = .int .i64 k ∧ Hid (Below w4.heap.size w4 wr)) (fun i _ => n - (intOf i).toNat)
    case atStart => exact ⟨0, Nat.zero_le _, rfl, Below.refl _ _⟩
    case round =>
      obtain ⟨k, hk, rfl, hb⟩ := hrel
      have KR := below_blk hb.out HKX.out hs34
      by_cases hlt : k < n
      · obtain ⟨y, hy⟩ : ∃ y, l[k]? = some y := ⟨_, List.getElem?_eq_getElem (by rw [HN.out]; exact hlt)⟩
        have hyk := HA.out y (List.mem_of_getElem? hy)
        obtain ⟨g', off, cap', hvv, _, _, _, hcc⟩ := (HV.out.below (BX.out.trans (hb.out.mono hs4))).addr (by omega)
        simp only [Value.slice.injEq] at hvv
        obtain ⟨rfl, _, rfl⟩ := hvv
        obtain ⟨c0, c1, c2, c3⟩ := ev_cells hcc hy
        obtain ⟨b0, b1, b2, b3⟩ := y
        simp only at c0 c1 c2 c3
        have hzr := KR.lt
        have HB5 := Lib.hid (hb.out.alloc hb.out.size (.cells #[.int .i64 b0, .string b1, .string b2, .int .i64 b3] 31))
        simp only at hyk
        have x0 : wr.cell? ⟨w3.heap.size, 0, none⟩ = some (.int .i64 X0) := KR.cell 0 rfl
        by_cases hyd : b1 = kd
        · have g1 : (b1.toList == kd.toList) = true := (Lib.bytes_beq_iff b1 kd).2 hyd
          have g2 : decide (b0 < X0) = false := decide_eq_false (by have := hyk hyd; omega)
          clear hcc hy hyk hyd
          go_wp2_with fail
          go_roundw
          case rel => exact ⟨k + 1, hlt, by go_num, HB5⟩
          case measure => simp [intOf]; omega
        · have g1 : (b1.toList == kd.toList) = false := by
            cases hq : (b1.toList == kd.toList)
            · rfl
            · exact absurd ((Lib.bytes_beq_iff b1 kd).1 hq) hyd
          clear hcc hy hyk hyd
          go_wp2_with fail
          go_roundw
          case rel => exact ⟨k + 1, hlt, by go_num, HB5⟩
          case measure => simp [intOf]; omega
      · have x1 : wr.cell? ⟨w3.heap.size, 1, none⟩ = some (.string X1) := KR.cell 1 rfl
        go_wp2_with fail
        go_ret
        exact ⟨rfl, BX.out.trans (hb.out.mono hs4)⟩
end Go.Proofs.YtjakhgilkogcnaaDoor
