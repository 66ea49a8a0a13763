/- journal: First. -/
import Derived.Test.YtjakhgilkogcnaaDoorJr7
import Derived.Test.YtjakhgilkogcnaaDoorJr8
import Derived.Laws.ResultCell
namespace Go.Proofs.YtjakhgilkogcnaaDoor
open Go.RowKit Go.Sort

def findK (kd : ByteArray) : List Ev → Ev × Int
  | [] => (ev0, 8)
  | x :: xs => if x.k = kd then (x, 0) else findK kd xs
def firstE (l : List Ev) (kd : ByteArray) : Ev × Int := if (sortedE l).2 ≠ 0 then (ev0, (sortedE l).2) else findK kd (sortedE l).1
theorem findK_drop {kd : ByteArray} {l : List Ev} {k : Nat} {x : Ev} (h : l[k]? = some x) : findK kd (l.drop k) = if x.k = kd then (x, 0) else findK kd (l.drop (k + 1)) := by
  obtain ⟨hk, hx⟩ := List.getElem?_eq_some_iff.1 h
  rw [List.drop_eq_getElem_cons hk, hx]; rfl
/-- An event and an error, as a function returns them. -/
def EvP (x : Ev) (er : Int) (w : World) (e : Ending) (w' : World) : Prop :=
  e = .returned (.tuple #[.agg x.cells.toArray, .int .i64 er]) ∧ Below w.heap.size w w'
set_option maxHeartbeats 1000000 in
theorem first_c (v : Value) (l : List Ev) (kd : ByteArray) (w : World) (hv : EVal w v l) (hw : Hid (∀ x ∈ l, x.Wf)) :
    Calls Tryd.prog 12 #[v, .string kd] w (EvP (firstE l kd).1 (firstE l kd).2 w) := by
  have K := Blk.new w #[.int .i64 0, .string ⟨#[]⟩, .string ⟨#[]⟩, .int .i64 0] 31
  have B := Lib.hid (belowA (Below.refl w.heap.size w) (.cells #[.int .i64 0, .string ⟨#[]⟩, .string ⟨#[]⟩, .int .i64 0] 31))
  have HS := Lib.hid (sorted_c v l _ (hv.below (belowA (Below.refl _ w) (.cells #[.int .i64 0, .string ⟨#[]⟩, .string ⟨#[]⟩, .int .i64 0] 31))) hw)
  have HE : Hid (firstE l kd = if (sortedE l).2 ≠ 0 then (ev0, (sortedE l).2) else findK kd (sortedE l).1) := rfl
  generalize firstE l kd = E at *
  obtain ⟨⟨S, T⟩, hST⟩ : ∃ s, sortedE l = s := ⟨_, rfl⟩
  rw [hST] at HS HE
  clear hST hv
  generalize hW2 : w.alloc (.cells #[.int .i64 0, .string ⟨#[]⟩, .string ⟨#[]⟩, .int .i64 0] 31) = W2 at *
  have HW2 := Lib.hid hW2
  have HK := Lib.hid K
  clear K hW2
  have hwz : w.heap.size < W2.heap.size := HK.out.lt
  go_enter Tryd.func12, Tryd.ntmps12
  go_upto_region 1 with fail
  rw [HW2.out]
  go_wp2_with fail
  refine HS.out.mono ?_; rintro e w3 ⟨a, c, rfl, hv3, hb3⟩
  have HV3 : Hid (Reads w3 (.slice a S.length c) S.length (flat Ev.cells S)) := hv3
  have HK3 := Lib.hid (below_blk hb3 HK.out HK.out.lt)
  have B3 := Lib.hid (belowT B.out hb3)
  have hz3 : w.heap.size < w3.heap.size := HK3.out.lt
  clear hb3 hv3 HS B HK
  by_cases hz : T = 0
  · have HR0 : Hid (findK kd (S.drop 0) = E) := (HE.out.trans (if_neg (fun h => h hz))).symm
    subst hz
    clear HE
    have hn : S.length ≤ 9223372036854775807 := by
      rcases HV3.out with ⟨h, _⟩ | ⟨_, _, _, _, _, h, _⟩ <;> omega
    obtain ⟨n, hN⟩ : ∃ n, S.length = n := ⟨_, rfl⟩
    have HN := Lib.hid hN
    rw [hN] at HV3 hn ⊢
    clear hN
    go_wp2_with fail
    go_loopw [21] (fun i wr => ∃ k : Nat, k ≤ n ∧ i = .int .i64 k ∧ Hid (findK kd (S.drop k) = E) ∧ Hid (Below w3.heap.size w3 wr)) (fun i _ => n - (intOf i).toNat)
    case atStart => exact ⟨0, Nat.zero_le _, rfl, HR0, Below.refl _ _⟩
    case round =>
      clear HR0
      obtain ⟨k, hk, rfl, he, hb⟩ := hrel
      by_cases hlt : k < n
      · obtain ⟨x, hx⟩ : ∃ x, S[k]? = some x := ⟨_, List.getElem?_eq_getElem (by rw [HN.out]; exact hlt)⟩
        have hd := findK_drop (kd := kd) hx
        rw [hd] at he
        obtain ⟨g', off, cap', hvv, _, _, _, hcc⟩ := (HV3.out.below hb.out).addr (by omega)
        simp only [Value.slice.injEq] at hvv
        obtain ⟨rfl, _, rfl⟩ := hvv
        obtain ⟨c0, c1, c2, c3⟩ := ev_cells hcc hx
        obtain ⟨a0, a1, a2, a3⟩ := x
        simp only at c0 c1 c2 c3 he
        have HK4 := Lib.hid (below_blk hb.out HK3.out hz3)
        have B2 := Lib.hid ((B3.out.trans (hb.out.mono B3.out.size)).alloc (by have := hb.out.size; omega) (.cells #[.int .i64 a0, .string a1, .string a2, .int .i64 a3] 31))
        clear hcc hx hd
        by_cases hz : a1 = kd
        · have HR1 : Hid (E = (⟨a0, a1, a2, a3⟩, 0)) := by show _ = _; rw [← he.out, if_pos hz]
          have g1 : (a1.toList == kd.toList) = true := (Lib.bytes_beq_iff a1 kd).2 hz
          have HZ := Lib.hid hz
          have y0 := HK4.out.cell 0 rfl
          have y1 := HK4.out.cell 1 rfl
          have y2 := HK4.out.cell 2 rfl
          have y3 := HK4.out.cell 3 rfl
          have f0 := HK4.out.free 0
          have f1 := HK4.out.free 1
          have f2 := HK4.out.free 2
          have f3 := HK4.out.free 3
          have hzr := HK4.out.lt
          clear he hz
          go_wp2_with fail
          (try simp only [Exit.inBlock, Exit.then])
          refine bodyPost_ret (v := .tuple #[.agg #[.int .i64 a0, .string a1, .string a2, .int .i64 a3], .int .i64 0]) ?_ rfl ⟨?_, ?_⟩
          · rw [results_cell_tmp rfl]
            go_simp
          · rw [HR1.out]; rfl
          · exact ((((B3.out.trans (hb.out.mono B3.out.size)).setCell (Nat.le_refl _) _).setCell (Nat.le_refl _) _).setCell (Nat.le_refl _) _).setCell (Nat.le_refl _) _ |>.alloc (by simp [World.setCell]; omega) _
        · have HR1 : Hid (findK kd (S.drop (k + 1)) = E) := by show _ = _; rw [← he.out, if_neg hz]
          have g1 : (a1.toList == kd.toList) = false := by
            cases hq : (a1.toList == kd.toList)
            · rfl
            · exact absurd ((Lib.bytes_beq_iff a1 kd).1 hq) hz
          have HB5 := Lib.hid (hb.out.alloc hb.out.size (.cells #[.int .i64 a0, .string a1, .string a2, .int .i64 a3] 31))
          clear he hz
          go_wp2_with fail
          go_roundw
          case rel => exact ⟨k + 1, hlt, by go_num, HR1, HB5⟩
          case measure => simp [intOf]; omega
      · have hn0 : S.drop k = [] := List.drop_eq_nil_of_le (by rw [HN.out]; omega)
        have HR1 : Hid (E = (ev0, 8)) := by show _ = _; rw [← he.out, hn0]; rfl
        have HK4 := Lib.hid (below_blk hb.out HK3.out hz3)
        have B2 := Lib.hid (B3.out.trans (hb.out.mono B3.out.size))
        have y0 := HK4.out.cell 0 rfl
        have y1 := HK4.out.cell 1 rfl
        have y2 := HK4.out.cell 2 rfl
        have y3 := HK4.out.cell 3 rfl
        have f0 := HK4.out.free 0
        have f1 := HK4.out.free 1
        have f2 := HK4.out.free 2
        have f3 := HK4.out.free 3
        have hzr := HK4.out.lt
        clear he hn0
        go_wp2_with fail
        (try simp only [Exit.inBlock, Exit.then])
        refine bodyPost_ret (v := .tuple #[.agg #[.int .i64 0, .string ⟨#[]⟩, .string ⟨#[]⟩, .int .i64 0], .int .i64 8]) ?_ rfl ⟨?_, ?_⟩
        · rw [results_cell_tmp rfl]
          go_simp
        · rw [HR1.out]; rfl
        · exact (((B2.out.setCell (Nat.le_refl _) _).setCell (Nat.le_refl _) _).setCell (Nat.le_refl _) _).setCell (Nat.le_refl _) _
  · have HR := Lib.hid (HE.out.trans (if_pos hz))
    have g1 : (T != 0) = true := by simpa using hz
    have y0 := HK3.out.cell 0 rfl
    have y1 := HK3.out.cell 1 rfl
    have y2 := HK3.out.cell 2 rfl
    have y3 := HK3.out.cell 3 rfl
    have f0 := HK3.out.free 0
    have f1 := HK3.out.free 1
    have f2 := HK3.out.free 2
    have f3 := HK3.out.free 3
    have hzr := HK3.out.lt
    clear HE hz
    go_wp2_with fail
    (try simp only [Exit.inBlock, Exit.then])
    refine bodyPost_ret (v := .tuple #[.agg #[.int .i64 0, .string ⟨#[]⟩, .string ⟨#[]⟩, .int .i64 0], .int .i64 T]) ?_ rfl ⟨?_, ?_⟩
    · rw [results_cell_tmp rfl]
      go_simp
    · rw [HR.out]; rfl
    · exact (((B3.out.setCell (Nat.le_refl _) _).setCell (Nat.le_refl _) _).setCell (Nat.le_refl _) _).setCell (Nat.le_refl _) _
end Go.Proofs.YtjakhgilkogcnaaDoor
