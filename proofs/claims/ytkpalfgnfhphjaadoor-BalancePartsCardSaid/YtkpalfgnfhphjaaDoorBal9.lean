/- The feeder as a network; SameVec, HasText, Small. -/
import Derived.Test.YtkpalfgnfhphjaaDoorBal8
namespace Go.Proofs.YtkpalfgnfhphjaaDoor
open Go.RowKit

def sA : ByteArray := ⟨#[65]⟩
def sB : ByteArray := ⟨#[66]⟩
def sC : ByteArray := ⟨#[67]⟩
def sD : ByteArray := ⟨#[68]⟩
def sE : ByteArray := ⟨#[69]⟩
def sS : ByteArray := ⟨#[83]⟩
def sT : ByteArray := ⟨#[84]⟩
def sL : ByteArray := ⟨#[76]⟩
def sM : ByteArray := ⟨#[77]⟩
def sG : ByteArray := ⟨#[71]⟩
def feedN : Net := ⟨[sA, sB, sC, sD, sE], [⟨sS, sA, sB, true, false⟩, ⟨sT, sC, sD, true, false⟩], [⟨sL, sB, sC, 1000, 1000, 0, 0, 0, 0⟩, ⟨sM, sD, sE, 1000, 1000, 0, 0, 0, 0⟩], [⟨sG, sA, 0, 9, 0⟩], [], []⟩
theorem feedN_wf : feedN.Wf := by
  refine ⟨?_, ?_, ?_, ?_, ?_, ?_⟩ <;> decide +kernel
theorem reads_blk {w : World} {b n : Nat} {cs : List Value} {t : TypeId} (h : Blk w b cs.toArray t) (hn : n ≤ 9223372036854775807) : Reads w (.slice (some ⟨b, 0, none⟩) n n) n cs :=
  Or.inr ⟨b, 0, n, rfl, Nat.le_refl _, hn, h.lt, fun j u hj => by rw [Nat.zero_add]; exact h.cell j (by simpa using hj)⟩
abbrev feedA (b : Nat) : NAddr := ⟨some ⟨b + 1, 0, none⟩, 5, some ⟨b + 1 + 1, 0, none⟩, 2, some ⟨b + 1 + 1 + 1, 0, none⟩, 2, some ⟨b + 1 + 1 + 1 + 1, 0, none⟩, 1, none, 0, none, 0⟩
abbrev feedW (w : World) (c0 : Array Value) : World :=
  ((((w.alloc (.cells c0 33)).alloc (.cells (strs feedN.nodes).toArray 9)).alloc (.cells (flat NSw.cells feedN.sws).toArray 87)).alloc (.cells (flat NBr.cells feedN.brs).toArray 78)).alloc (.cells (flat NGen.cells feedN.gens).toArray 89)
theorem feed_netR (w : World) (c0 : Array Value) : NetR (feedW w c0) (feedA w.heap.size) feedN ∧ Below w.heap.size w (feedW w c0) ∧ Blk (feedW w c0) w.heap.size c0 33 := by
  have e1 : ∀ o : Obj, (w.alloc o).heap.size = w.heap.size + 1 := fun o => World.size_alloc _ _
  have e2 : ∀ o o' : Obj, ((w.alloc o).alloc o').heap.size = w.heap.size + 1 + 1 := fun o o' => by rw [World.size_alloc, e1]
  have e3 : ∀ o o' o'' : Obj, (((w.alloc o).alloc o').alloc o'').heap.size = w.heap.size + 1 + 1 + 1 := fun o o' o'' => by rw [World.size_alloc, e2]
  have e4 : ∀ o o' o'' o3 : Obj, ((((w.alloc o).alloc o').alloc o'').alloc o3).heap.size = w.heap.size + 1 + 1 + 1 + 1 := fun o o' o'' o3 => by rw [World.size_alloc, e3]
  have k0 : Blk (feedW w c0) w.heap.size c0 33 := ((((Blk.new w c0 33).alloc _).alloc _).alloc _).alloc _
  have k1 : Blk (feedW w c0) (w.heap.size + 1) (strs feedN.nodes).toArray 9 := by
    have h := Blk.new (w.alloc (.cells c0 33)) (strs feedN.nodes).toArray 9
    rw [e1] at h
    exact ((h.alloc _).alloc _).alloc _
  have k2 : Blk (feedW w c0) (w.heap.size + 1 + 1) (flat NSw.cells feedN.sws).toArray 87 := by
    have h := Blk.new ((w.alloc (.cells c0 33)).alloc (.cells (strs feedN.nodes).toArray 9)) (flat NSw.cells feedN.sws).toArray 87
    rw [e2] at h
    exact (h.alloc _).alloc _
  have k3 : Blk (feedW w c0) (w.heap.size + 1 + 1 + 1) (flat NBr.cells feedN.brs).toArray 78 := by
    have h := Blk.new (((w.alloc (.cells c0 33)).alloc (.cells (strs feedN.nodes).toArray 9)).alloc (.cells (flat NSw.cells feedN.sws).toArray 87)) (flat NBr.cells feedN.brs).toArray 78
    rw [e3] at h
    exact h.alloc _
  have k4 : Blk (feedW w c0) (w.heap.size + 1 + 1 + 1 + 1) (flat NGen.cells feedN.gens).toArray 89 := by
    have h := Blk.new ((((w.alloc (.cells c0 33)).alloc (.cells (strs feedN.nodes).toArray 9)).alloc (.cells (flat NSw.cells feedN.sws).toArray 87)).alloc (.cells (flat NBr.cells feedN.brs).toArray 78)) (flat NGen.cells feedN.gens).toArray 89
    rw [e4] at h
    exact h
  exact ⟨⟨reads_blk k1 (by decide), reads_blk k2 (by decide), reads_blk k3 (by decide), reads_blk k4 (by decide), Or.inl ⟨rfl, rfl, none, 0, rfl⟩, Or.inl ⟨rfl, rfl, none, 0, rfl⟩⟩, belowA (belowA (belowA (belowA (belowA (Below.refl _ w) _) _) _) _) _, k0⟩
set_option maxHeartbeats 2000000 in
theorem feeder_c (w : World) : Calls Tryd.prog 18 #[] w fun e w' => ∃ x0 : NAddr, e = .returned (x0.val feedN) ∧ NetR w' x0 feedN ∧ Below w.heap.size w w' := by
  have H := Lib.hid (feed_netR w #[.slice (some ⟨w.heap.size + 1, 0, none⟩) 5 5, .slice (some ⟨w.heap.size + 1 + 1, 0, none⟩) 2 2, .slice (some ⟨w.heap.size + 1 + 1 + 1, 0, none⟩) 2 2, .slice (some ⟨w.heap.size + 1 + 1 + 1 + 1, 0, none⟩) 1 1, .slice none 0 0, .slice none 0 0])
  go_enter Tryd.func18, Tryd.ntmps18
  go_wp2_with fail
  change bodyPost _ _ _ _ _ (feedW w #[.slice (some ⟨w.heap.size + 1, 0, none⟩) 5 5, .slice (some ⟨w.heap.size + 1 + 1, 0, none⟩) 2 2, .slice (some ⟨w.heap.size + 1 + 1 + 1, 0, none⟩) 2 2, .slice (some ⟨w.heap.size + 1 + 1 + 1 + 1, 0, none⟩) 1 1, .slice none 0 0, .slice none 0 0])
  generalize feedW w #[.slice (some ⟨w.heap.size + 1, 0, none⟩) 5 5, .slice (some ⟨w.heap.size + 1 + 1, 0, none⟩) 2 2, .slice (some ⟨w.heap.size + 1 + 1 + 1, 0, none⟩) 2 2, .slice (some ⟨w.heap.size + 1 + 1 + 1 + 1, 0, none⟩) 1 1, .slice none 0 0, .slice none 0 0] = Wf at *
  have x0 := H.out.2.2.cell 0 rfl
  have x1 := H.out.2.2.cell 1 rfl
  have x2 := H.out.2.2.cell 2 rfl
  have x3 := H.out.2.2.cell 3 rfl
  have x4 := H.out.2.2.cell 4 rfl
  have x5 := H.out.2.2.cell 5 rfl
  exact bodyPost_ret (v := .agg #[.slice (some ⟨w.heap.size + 1, 0, none⟩) 5 5, .slice (some ⟨w.heap.size + 1 + 1, 0, none⟩) 2 2, .slice (some ⟨w.heap.size + 1 + 1 + 1, 0, none⟩) 2 2, .slice (some ⟨w.heap.size + 1 + 1 + 1 + 1, 0, none⟩) 1 1, .slice none 0 0, .slice none 0 0]) (by simp [results, Tryd.results18, go_sem, x0, x1, x2, x3, x4, x5]) rfl ⟨feedA w.heap.size, rfl, H.out.1, H.out.2.1⟩

set_option maxHeartbeats 2000000 in
theorem sameVec_c (va vb : Value) (la lb : List ByteArray) (w : World) (ha : SVal w va la) (hb : SVal w vb lb) :
    Calls Tryd.prog 20 #[va, vb] w fun e w' => e = .returned (.bool (decide (la = lb))) ∧ Below w.heap.size w w' := by
  have bound : ∀ {v : Value} {l : List ByteArray}, SVal w v l → l.length ≤ 9223372036854775807 := by
    intro v l h
    rcases (show Reads w v l.length (l.map Value.string) from h) with ⟨h, _⟩ | ⟨_, _, _, _, _, h, _⟩
    · omega
    · exact h
  have hna := bound ha
  have hnb := bound hb
  obtain ⟨aa, ca, rfl⟩ := (show Reads w va la.length (la.map Value.string) from ha).slice
  obtain ⟨ab, cb, rfl⟩ := (show Reads w vb lb.length (lb.map Value.string) from hb).slice
  have HV1 : Hid (Reads w (.slice aa la.length ca) la.length (la.map Value.string)) := ha
  have HV2 : Hid (Reads w (.slice ab lb.length cb) lb.length (lb.map Value.string)) := hb
  obtain ⟨n, hN⟩ : ∃ n, la.length = n := ⟨_, rfl⟩
  obtain ⟨m, hM⟩ : ∃ n, lb.length = n := ⟨_, rfl⟩
  have HN := Lib.hid hN
  have HM := Lib.hid hM
  rw [hN] at HV1 hna ⊢
  rw [hM] at HV2 hnb ⊢
  by_cases hnm : n = m
  · subst hnm
    have HE : Hid (decide (la.drop 0 = lb.drop 0) = decide (la = lb)) := rfl
    generalize decide (la = lb) = E at *
    clear ha hb hN hM bound
    go_enter Tryd.func20, Tryd.ntmps20
    go_wp2_with fail
    go_loopw [13] (fun i wr => ∃ k nd : Nat, k ≤ n ∧ i = .int .i64 k ∧ Hid (decide (la.drop k = lb.drop k) = E) ∧ wr = w.drewN nd) (fun i _ => n - (intOf i).toNat)
    case atStart => exact ⟨0, 0, Nat.zero_le _, rfl, HE.out, rfl⟩
    case round =>
      clear HE
      obtain ⟨k, nd, hk, rfl, he, rfl⟩ := hrel
      by_cases hlt : k < n
      · obtain ⟨b1, off1, cap1, hvv, _, _, _, h1⟩ := HV1.out.addr (by omega)
        simp only [Value.slice.injEq] at hvv
        obtain ⟨rfl, _, rfl⟩ := hvv
        obtain ⟨b2, off2, cap2, hvv, _, _, _, h2⟩ := HV2.out.addr (by omega)
        simp only [Value.slice.injEq] at hvv
        obtain ⟨rfl, _, rfl⟩ := hvv
        have hl1 : k < la.length := by rw [HN.out]; exact hlt
        have hl2 : k < lb.length := by rw [HM.out]; exact hlt
        obtain ⟨x, hx⟩ : ∃ x, la[k]? = some x := ⟨_, List.getElem?_eq_getElem hl1⟩
        obtain ⟨y, hy⟩ : ∃ x, lb[k]? = some x := ⟨_, List.getElem?_eq_getElem hl2⟩
        have x0 : w.cell? ⟨b1, off1 + k, none⟩ = some (.string x) := h1 k _ (by simp [hx])
        have y0 : w.cell? ⟨b2, off2 + k, none⟩ = some (.string y) := h2 k _ (by simp [hy])
        obtain ⟨_, hxe⟩ := List.getElem?_eq_some_iff.1 hx
        obtain ⟨_, hye⟩ := List.getElem?_eq_some_iff.1 hy
        rw [List.drop_eq_getElem_cons hl1, List.drop_eq_getElem_cons hl2, hxe, hye] at he
        have heq := Lib.bytes_beq_iff x y
        clear h1 h2 hx hy hxe hye hl1 hl2
        by_cases hxy : x = y
        · have g1 : (x.toList == y.toList) = true := heq.2 hxy
          have HE2 : Hid (decide (la.drop (k + 1) = lb.drop (k + 1)) = E) := by show _ = _; rw [← he.out, hxy]; simp
          clear heq hxy he
          go_wp2_with fail
          refine wp_region_quiet_lit (by kernel_rfl) (by kernel_rfl) ?_
          repeat (first | go_big_quiet_step (fail) | (go_big_quiet_want; go_simp; go_big_quiet_on))
          refine wpQuiet_nil ?_
          intro _ hw'
          obtain ⟨nq, hw''⟩ := hw'
          subst hw''
          go_wp2_with fail
          go_roundw
          case rel => exact ⟨k + 1, _, hlt, by go_num, HE2, rfl⟩
          case measure => simp [intOf]; omega
        · have g1 : (x.toList == y.toList) = false := by
            cases hq : (x.toList == y.toList)
            · rfl
            · exact absurd (heq.1 hq) hxy
          have HE2 : Hid (E = false) := by show _ = _; rw [← he.out]; simp [hxy]
          clear heq hxy he
          go_wp2_with fail
          refine wp_region_quiet_lit (by kernel_rfl) (by kernel_rfl) ?_
          repeat (first | go_big_quiet_step (fail) | (go_big_quiet_want; go_simp; go_big_quiet_on))
          refine wpQuiet_nil ?_
          intro _ hw'
          obtain ⟨nq, hw''⟩ := hw'
          subst hw''
          go_wp2_with fail
          go_ret
          exact ⟨by rw [HE2.out]; rfl, below_drewN (below_drewN (Below.refl _ _) _) _⟩
      · have HE2 : Hid (E = true) := by
          show _ = _
          rw [← he.out, List.drop_eq_nil_of_le (by rw [HN.out]; omega), List.drop_eq_nil_of_le (by rw [HM.out]; omega)]; rfl
        clear he
        go_wp2_with fail
        go_ret
        exact ⟨by rw [HE2.out]; rfl, below_drewN (Below.refl _ _) _⟩
  · have HE : Hid (decide (la = lb) = false) := decide_eq_false (fun h => hnm (by rw [← hN, ← hM, h]))
    have g1 : ((n : Int) != (m : Int)) = true := by simp; omega
    generalize decide (la = lb) = E at *
    clear ha hb hN hM bound hnm
    go_enter Tryd.func20, Tryd.ntmps20
    go_wp2_with fail
    go_ret
    exact ⟨by rw [HE.out]; rfl, Below.refl _ _⟩
theorem hasS_drop {s : ByteArray} {l : List ByteArray} {k : Nat} {x : ByteArray} (h : l[k]? = some x) : hasS s (l.drop k) = ((s.toList == x.toList) || hasS s (l.drop (k + 1))) := by
  obtain ⟨hk, hx⟩ := List.getElem?_eq_some_iff.1 h
  rw [List.drop_eq_getElem_cons hk, hx]; rfl
set_option maxHeartbeats 2000000 in
theorem hasText_c (v : Value) (l : List ByteArray) (s : ByteArray) (w : World) (hv : SVal w v l) :
    Calls Tryd.prog 11 #[v, .string s] w fun e w' => e = .returned (.bool (hasS s l)) ∧ Below w.heap.size w w' := by
  have hn : l.length ≤ 9223372036854775807 := by
    rcases (show Reads w v l.length (l.map Value.string) from hv) with ⟨h, _⟩ | ⟨_, _, _, _, _, h, _⟩
    · omega
    · exact h
  obtain ⟨a, c, rfl⟩ := (show Reads w v l.length (l.map Value.string) from hv).slice
  have HV : Hid (Reads w (.slice a l.length c) l.length (l.map Value.string)) := hv
  obtain ⟨n, hN⟩ : ∃ n, l.length = n := ⟨_, rfl⟩
  have HN := Lib.hid hN
  rw [hN] at HV hn ⊢
  have HE : Hid (hasS s (l.drop 0) = hasS s l) := rfl
  generalize hasS s l = E at *
  clear hv hN
  go_enter Tryd.func11, Tryd.ntmps11
  go_wp2_with fail
  go_loopw [9] (fun i wr => ∃ k : Nat, k ≤ n ∧ i = .int .i64 k ∧ Hid (hasS s (l.drop k) = E) ∧ w = wr) (fun i _ => n - (intOf i).toNat)
  case atStart => exact ⟨0, Nat.zero_le _, rfl, HE.out, rfl⟩
  case round =>
    clear HE
    obtain ⟨k, hk, rfl, he, rfl⟩ := hrel
    by_cases hlt : k < n
    · obtain ⟨b1, off1, cap1, hvv, _, _, _, h1⟩ := HV.out.addr (by omega)
      simp only [Value.slice.injEq] at hvv
      obtain ⟨rfl, _, rfl⟩ := hvv
      obtain ⟨x, hx⟩ : ∃ x, l[k]? = some x := ⟨_, List.getElem?_eq_getElem (by rw [HN.out]; exact hlt)⟩
      have x0 : w.cell? ⟨b1, off1 + k, none⟩ = some (.string x) := h1 k _ (by simp [hx])
      rw [hasS_drop hx] at he
      have hsw : (s.toList == x.toList) = (x.toList == s.toList) := by rw [Bool.eq_iff_iff, Lib.bytes_beq_iff, Lib.bytes_beq_iff]; exact eq_comm
      rw [hsw] at he
      clear h1 hx hsw
      cases hq : (x.toList == s.toList) with
      | true =>
        have HE2 : Hid (E = true) := by show _ = _; rw [← he.out, hq]; rfl
        clear he
        go_wp2_with fail
        go_ret
        exact ⟨by rw [HE2.out]; rfl, Below.refl _ _⟩
      | false =>
        have HE2 : Hid (hasS s (l.drop (k + 1)) = E) := by show _ = _; rw [← he.out, hq]; rfl
        clear he
        go_wp2_with fail
        go_roundw
        case rel => exact ⟨k + 1, hlt, by go_num, HE2, trivial⟩
        case measure => simp [intOf]; omega
    · have HE2 : Hid (E = false) := by show _ = _; rw [← he.out, List.drop_eq_nil_of_le (by rw [HN.out]; omega)]; rfl
      clear he
      go_wp2_with fail
      go_ret
      exact ⟨by rw [HE2.out]; rfl, Below.refl _ _⟩
/-- Whether no text is longer than 24 bytes. -/
def smallB (l : List ByteArray) : Bool := l.all fun s => decide (s.size ≤ 24)
theorem smallB_drop {l : List ByteArray} {k : Nat} {x : ByteArray} (h : l[k]? = some x) : smallB (l.drop k) = (decide (x.size ≤ 24) && smallB (l.drop (k + 1))) := by
  obtain ⟨hk, hx⟩ := List.getElem?_eq_some_iff.1 h
  rw [List.drop_eq_getElem_cons hk, hx]; rfl
set_option maxRecDepth 100000 in
set_option maxHeartbeats 2000000 in
theorem small_c (v : Value) (l : List ByteArray) (b c1 : Nat) (w : World) (hv : SVal w v l) (hb : Blk w b #[v] 23) :
    Calls Tryd.prog 7 #[.agg #[.slice none 0 0, .slice none 0 0, .slice none 0 0, .slice none 0 0, .slice none 0 0, .slice none 0 0], .slice none 0 0, .slice (some ⟨b, 0, none⟩) 1 c1] w fun e w' => e = .returned (.bool (smallB l)) ∧ Below w.heap.size w w' := by
  have hn : l.length ≤ 9223372036854775807 := by
    rcases (show Reads w v l.length (l.map Value.string) from hv) with ⟨h, _⟩ | ⟨_, _, _, _, _, h, _⟩
    · omega
    · exact h
  obtain ⟨a, c, rfl⟩ := (show Reads w v l.length (l.map Value.string) from hv).slice
  obtain ⟨n, hN⟩ : ∃ n, l.length = n := ⟨_, rfl⟩
  have HN := Lib.hid hN
  have HV : Hid (Reads w (.slice a n c) n (l.map Value.string)) := by
    show Reads _ _ _ _
    have h : Reads w (.slice a l.length c) l.length (l.map Value.string) := hv
    rw [hN] at h; exact h
  rw [hN] at hn hb
  have HE : Hid (smallB (l.drop 0) = smallB l) := rfl
  generalize smallB l = E at *
  have HB := Lib.hid (belowA (Below.refl w.heap.size w) (.cells #[.slice none 0 0, .slice none 0 0, .slice none 0 0, .slice none 0 0, .slice none 0 0, .slice none 0 0] 33))
  have KB := Lib.hid (below_blk HB.out hb hb.lt)
  clear hv hN hb
  go_enter Tryd.func7, Tryd.ntmps7
  go_wp2_with fail
  generalize w.alloc (.cells #[.slice none 0 0, .slice none 0 0, .slice none 0 0, .slice none 0 0, .slice none 0 0, .slice none 0 0] 33) = w1 at *
  go_loopw [25] (fun i wr => i = .int .i64 ((0 : Nat) : Int) ∧ w1 = wr) (fun _ _ => 0)
  case atStart => exact ⟨rfl, rfl⟩
  case round =>
    obtain ⟨rfl, rfl⟩ := hrel
    go_wp2_with fail
    go_loopw [36] (fun i wr => ∃ k : Nat, k ≤ 1 ∧ i = .int .i64 k ∧ Hid (k = 1 → E = true) ∧ w1 = wr) (fun i _ => 1 - (intOf i).toNat)
    case atStart => exact ⟨0, Nat.zero_le _, rfl, fun h => absurd h (by decide), rfl⟩
    case round =>
      obtain ⟨k, hk, rfl, hd, rfl⟩ := hrel
      by_cases hlt : k < 1
      · obtain rfl : k = 0 := by omega
        have x0 : w1.cell? ⟨b, 0, none⟩ = some (.slice a n c) := KB.out.cell 0 rfl
        go_wp2_with fail
        go_loopw [42] (fun i wr => ∃ j : Nat, j ≤ n ∧ i = .int .i64 j ∧ Hid (smallB (l.drop j) = E) ∧ w1 = wr) (fun i _ => n - (intOf i).toNat)
        case atStart => exact ⟨0, Nat.zero_le _, rfl, HE.out, rfl⟩
        case round =>
          clear HE
          obtain ⟨j, hj, rfl, he, rfl⟩ := hrel
          by_cases hjl : j < n
          · obtain ⟨b1, off1, cap1, hvv, _, _, _, h1⟩ := (HV.out.below HB.out).addr (by omega)
            simp only [Value.slice.injEq] at hvv
            obtain ⟨rfl, _, rfl⟩ := hvv
            obtain ⟨x, hx⟩ : ∃ x, l[j]? = some x := ⟨_, List.getElem?_eq_getElem (by rw [HN.out]; exact hjl)⟩
            have y0 : w1.cell? ⟨b1, off1 + j, none⟩ = some (.string x) := h1 j _ (by simp [hx])
            rw [smallB_drop hx] at he
            obtain ⟨z, hz⟩ : ∃ z, x.size = z := ⟨_, rfl⟩
            rw [hz] at he
            clear h1 hx
            by_cases h24 : z ≤ 24
            · have g1 : decide (24 < (z : Int)) = false := decide_eq_false (by omega)
              have HE2 : Hid (smallB (l.drop (j + 1)) = E) := by show _ = _; rw [← he.out, decide_eq_true h24]; rfl
              clear he h24
              go_wp2_with fail
              go_roundw
              case rel => exact ⟨j + 1, hjl, by go_num, HE2, trivial⟩
              case measure => simp [intOf]; omega
            · have g1 : decide (24 < (z : Int)) = true := decide_eq_true (by omega)
              have HE2 : Hid (E = false) := by show _ = _; rw [← he.out, decide_eq_false h24]; rfl
              clear he h24
              go_wp2_with fail
              go_ret
              exact ⟨by rw [HE2.out]; rfl, HB.out⟩
          · have HE2 : Hid (E = true) := by show _ = _; rw [← he.out, List.drop_eq_nil_of_le (by rw [HN.out]; omega)]; rfl
            clear he
            go_wp2_with fail
            go_roundw
            case rel => exact ⟨1, Nat.le_refl _, by go_num, fun _ => HE2.out, trivial⟩
            case measure => simp [intOf]
      · obtain rfl : k = 1 := by omega
        have HE2 : Hid (E = true) := hd.out rfl
        clear hd
        go_wp2_with fail
        go_ret
        exact ⟨by rw [HE2.out]; rfl, HB.out⟩
end Go.Proofs.YtkpalfgnfhphjaaDoor
