/- The reference's Small, Branch, Node; the fixed network of the meters' examples. -/
import Derived.Test.YthcddboeejbncaaPzMet6
import Derived.Test.YthcddboeejbncaaPkObs9Smi
namespace Go.Proofs.Ythcddboeejbncaa
open Go.RowKit

def tA : ByteArray := ⟨#[65]⟩
def tB : ByteArray := ⟨#[66]⟩
def tC : ByteArray := ⟨#[67]⟩
def tL : ByteArray := ⟨#[76]⟩
def tM : ByteArray := ⟨#[77]⟩
def pairN : Net := ⟨[tA, tB, tC], [], [⟨tL, tA, tB, 1000, 1000, 0, 0, 0, 0⟩, ⟨tM, tB, tC, 500, 1000, 0, 0, 0, 0⟩], [], [], []⟩
theorem pairN_wf : pairN.Wf := by
  refine ⟨?_, ?_, ?_, ?_, ?_, ?_⟩ <;> decide +kernel
theorem reads_blk2 {w : World} {b n : Nat} {cs : List Value} {t : TypeId} (h : Blk w b cs.toArray t) (hn : n ≤ 9223372036854775807) : Reads w (.slice (some ⟨b, 0, none⟩) n n) n cs :=
  Or.inr ⟨b, 0, n, rfl, Nat.le_refl _, hn, h.lt, fun j u hj => by rw [Nat.zero_add]; exact h.cell j (by simpa using hj)⟩
abbrev pairA (b : Nat) : NAddr := ⟨some ⟨b + 1, 0, none⟩, 3, none, 0, some ⟨b + 1 + 1, 0, none⟩, 2, none, 0, none, 0, none, 0⟩
abbrev pairW (w : World) (c0 : Array Value) : World :=
  ((w.alloc (.cells c0 29)).alloc (.cells (strs pairN.nodes).toArray 9)).alloc (.cells (flat NBr.cells pairN.brs).toArray 53)
theorem pair_netR (w : World) (c0 : Array Value) : NetR (pairW w c0) (pairA w.heap.size) pairN ∧ Below w.heap.size w (pairW w c0) ∧ Blk (pairW w c0) w.heap.size c0 29 := by
  have e1 : ∀ o : Obj, (w.alloc o).heap.size = w.heap.size + 1 := fun o => World.size_alloc _ _
  have e2 : ∀ o o' : Obj, ((w.alloc o).alloc o').heap.size = w.heap.size + 1 + 1 := fun o o' => by rw [World.size_alloc, e1]
  have k0 : Blk (pairW w c0) w.heap.size c0 29 := ((Blk.new w c0 29).alloc _).alloc _
  have k1 : Blk (pairW w c0) (w.heap.size + 1) (strs pairN.nodes).toArray 9 := by
    have h := Blk.new (w.alloc (.cells c0 29)) (strs pairN.nodes).toArray 9
    rw [e1] at h
    exact h.alloc _
  have k3 : Blk (pairW w c0) (w.heap.size + 1 + 1) (flat NBr.cells pairN.brs).toArray 53 := by
    have h := Blk.new ((w.alloc (.cells c0 29)).alloc (.cells (strs pairN.nodes).toArray 9)) (flat NBr.cells pairN.brs).toArray 53
    rw [e2] at h
    exact h
  exact ⟨⟨reads_blk2 k1 (by decide), Or.inl ⟨rfl, rfl, none, 0, rfl⟩, reads_blk2 k3 (by decide), Or.inl ⟨rfl, rfl, none, 0, rfl⟩, Or.inl ⟨rfl, rfl, none, 0, rfl⟩, Or.inl ⟨rfl, rfl, none, 0, rfl⟩⟩, belowA (belowA (belowA (Below.refl _ w) _) _) _, k0⟩
set_option maxHeartbeats 2000000 in
theorem pairNet_c (w : World) : Calls Try.prog 25 #[] w fun e w' => ∃ x0 : NAddr, e = .returned (x0.val pairN) ∧ NetR w' x0 pairN ∧ Below w.heap.size w w' := by
  have H := Lib.hid (pair_netR w #[.slice (some ⟨w.heap.size + 1, 0, none⟩) 3 3, .slice none 0 0, .slice (some ⟨w.heap.size + 1 + 1, 0, none⟩) 2 2, .slice none 0 0, .slice none 0 0, .slice none 0 0])
  go_enter Try.func25, Try.ntmps25
  go_wp2_with fail
  change bodyPost _ _ _ _ _ (pairW w #[.slice (some ⟨w.heap.size + 1, 0, none⟩) 3 3, .slice none 0 0, .slice (some ⟨w.heap.size + 1 + 1, 0, none⟩) 2 2, .slice none 0 0, .slice none 0 0, .slice none 0 0])
  generalize pairW w #[.slice (some ⟨w.heap.size + 1, 0, none⟩) 3 3, .slice none 0 0, .slice (some ⟨w.heap.size + 1 + 1, 0, none⟩) 2 2, .slice none 0 0, .slice none 0 0, .slice none 0 0] = Wf at *
  have x0 := H.out.2.2.cell 0 rfl
  have x1 := H.out.2.2.cell 1 rfl
  have x2 := H.out.2.2.cell 2 rfl
  have x3 := H.out.2.2.cell 3 rfl
  have x4 := H.out.2.2.cell 4 rfl
  have x5 := H.out.2.2.cell 5 rfl
  exact bodyPost_ret (v := .agg #[.slice (some ⟨w.heap.size + 1, 0, none⟩) 3 3, .slice none 0 0, .slice (some ⟨w.heap.size + 1 + 1, 0, none⟩) 2 2, .slice none 0 0, .slice none 0 0, .slice none 0 0]) (by simp [results, Try.results25, go_sem, x0, x1, x2, x3, x4, x5]) rfl ⟨pairA w.heap.size, rfl, H.out.1, H.out.2.1⟩
set_option maxHeartbeats 2000000 in
theorem flowMeter_c (nm vl : ByteArray) (w : World) : Calls Try.prog 24 #[.string nm, .string vl] w fun e w' => e = .returned (.agg #[.int .i64 0, .string nm, .string vl, .int .i64 1]) ∧ Below w.heap.size w w' := by
  have HB := Lib.hid (belowA (Below.refl w.heap.size w) (.cells #[.int .i64 0, .string nm, .string vl, .int .i64 1] 33))
  go_enter Try.func24, Try.ntmps24
  go_wp2_with fail
  exact bodyPost_ret (v := .agg #[.int .i64 0, .string nm, .string vl, .int .i64 1]) (by simp [results, Try.results24, go_sem]) rfl ⟨rfl, HB.out⟩
/-- Lists of texts that may be read. -/
def VVal (W : World) (v : Value) (vs : List (List ByteArray)) : Prop := ∃ hs : List Value, hs.length = vs.length ∧ Reads W v vs.length hs ∧ ∀ (i : Nat) (h : Value) (l : List ByteArray), hs[i]? = some h → vs[i]? = some l → SVal W h l
theorem VVal.below {W W' : World} {v : Value} {vs : List (List ByteArray)} (h : VVal W v vs) (k : Below W.heap.size W W') : VVal W' v vs := by
  obtain ⟨hs, h1, h2, h3⟩ := h
  exact ⟨hs, h1, h2.below k, fun i u l hu hl => (h3 i u l hu hl).below k⟩
theorem VVal.nil (W : World) : VVal W (.slice none 0 0) [] := ⟨[], rfl, Or.inl ⟨rfl, rfl, none, 0, rfl⟩, fun i h l hh => by simp at hh⟩
def small24 (s : ByteArray) : Bool := decide (s.size ≤ 24)
def smallV (l : List ByteArray) : Bool := l.all small24
def smallI (l : List MIt) : Bool := l.all fun m => small24 m.value
def smallR (n : Net) (l : List MIt) (vs : List (List ByteArray)) : Bool := decide (n.nodes.length ≤ 8 ∧ n.brs.length ≤ 10) && (smallI l && vs.all smallV)
theorem all_drop2 {α : Type} {p : α → Bool} {l : List α} {k : Nat} {x : α} (h : l[k]? = some x) : (l.drop k).all p = (p x && (l.drop (k + 1)).all p) := by
  obtain ⟨hk, hx⟩ := List.getElem?_eq_some_iff.1 h
  rw [List.drop_eq_getElem_cons hk, hx]; rfl
theorem sval_len {W : World} {v : Value} {l : List ByteArray} (h : SVal W v l) : l.length ≤ 9223372036854775807 := by
  rcases (show Reads W v l.length (l.map Value.string) from h) with ⟨h, _⟩ | ⟨_, _, _, _, _, h, _⟩
  · omega
  · exact h
set_option maxRecDepth 100000 in
set_option maxHeartbeats 4000000 in
theorem smallG_c (x0 : NAddr) (n : Net) (lv vv : Value) (l : List MIt) (vs : List (List ByteArray)) (w : World) (hl : Reads w lv l.length (flat MIt.cells l)) (hv : VVal w vv vs) :
    Calls Try.prog 10 #[x0.val n, lv, vv] w fun e w' => e = .returned (.bool (smallR n l vs)) ∧ Below w.heap.size w w' := by
  have hln : l.length ≤ 9223372036854775807 := by
    rcases hl with ⟨h, _⟩ | ⟨_, _, _, _, _, h, _⟩
    · omega
    · exact h
  obtain ⟨la2, lcap, rfl⟩ := hl.slice
  obtain ⟨hs, hv1, hv2, hv3⟩ := hv
  have hvn : vs.length ≤ 9223372036854775807 := by
    rcases hv2 with ⟨h, _⟩ | ⟨_, _, _, _, _, h, _⟩
    · omega
    · exact h
  obtain ⟨va, vc, rfl⟩ := hv2.slice
  have HL := Lib.hid hl
  have HV2 := Lib.hid hv2
  have HV3 := Lib.hid hv3
  have HHL := Lib.hid hv1
  have HE : Hid (smallR n l vs = (decide (n.nodes.length ≤ 8 ∧ n.brs.length ≤ 10) && (smallI l && vs.all smallV))) := rfl
  generalize smallR n l vs = E at *
  obtain ⟨na, nc, sa, sc, ba, bc, ga, gc, la, lc, ta, tc⟩ := x0
  simp only [NAddr.val]
  have B1 := Lib.hid (belowA (Below.refl w.heap.size w) (.cells #[.slice na n.nodes.length nc, .slice sa n.sws.length sc, .slice ba n.brs.length bc, .slice ga n.gens.length gc, .slice la n.loads.length lc, .slice ta n.stores.length tc] 29))
  have K1 := Blk.new w #[.slice na n.nodes.length nc, .slice sa n.sws.length sc, .slice ba n.brs.length bc, .slice ga n.gens.length gc, .slice la n.loads.length lc, .slice ta n.stores.length tc] 29
  generalize n.nodes.length = nn at *
  generalize n.sws.length = sn at *
  generalize n.brs.length = bn at *
  generalize n.gens.length = gn at *
  generalize n.loads.length = lon at *
  generalize n.stores.length = tn at *
  obtain ⟨N, hN⟩ : ∃ N, l.length = N := ⟨_, rfl⟩
  obtain ⟨M, hM⟩ : ∃ M, vs.length = M := ⟨_, rfl⟩
  have HN := Lib.hid hN
  have HM := Lib.hid hM
  rw [hN] at HL hln ⊢
  rw [hM] at HV2 hvn HHL ⊢
  clear hl hv1 hv2 hv3 hN hM
  by_cases h8 : nn ≤ 8
  · have q1 : decide ((8 : Int) < (nn : Int)) = false := decide_eq_false (by omega)
    by_cases h10 : bn ≤ 10
    · have q2 : decide ((10 : Int) < (bn : Int)) = false := decide_eq_false (by omega)
      have HE1 : Hid (E = (smallI (l.drop 0) && vs.all smallV)) := by show _ = _; rw [HE.out, decide_eq_true ⟨h8, h10⟩]; rfl
      clear HE
      go_enter Try.func10, Try.ntmps10
      go_wp2_with fail
      go_loopw [25] (fun i wr => ∃ k : Nat, k ≤ N ∧ i = .int .i64 k ∧ Hid (E = (smallI (l.drop k) && vs.all smallV)) ∧ Hid (Below w.heap.size w wr)) (fun i _ => N - (intOf i).toNat)
      case atStart => exact ⟨0, Nat.zero_le _, rfl, HE1.out, B1.out⟩
      case round =>
        clear HE1 B1
        obtain ⟨k, hk, rfl, he, hb⟩ := hrel
        by_cases hlt : k < N
        · obtain ⟨b1, off1, cap1, hvv, _, _, hbl, hc⟩ := (HL.out.below hb.out).addr (by omega)
          simp only [Value.slice.injEq] at hvv
          obtain ⟨rfl, _, rfl⟩ := hvv
          obtain ⟨x, hx⟩ : ∃ x, l[k]? = some x := ⟨_, List.getElem?_eq_getElem (by rw [HN.out]; exact hlt)⟩
          obtain ⟨x0, x1, x2, x3⟩ := mit_cells hc hx
          have HD : Hid (E = ((small24 x.value && smallI (l.drop (k + 1))) && vs.all smallV)) := by show _ = _; rw [he.out]; unfold smallI; rw [all_drop2 hx]
          have B2 := Lib.hid (hb.out.alloc hb.out.size (.cells #[.int .i64 x.kind, .string x.name, .string x.value, .int .i64 x.weight] 33))
          clear hc hx he hb hbl
          by_cases h24 : x.value.size ≤ 24
          · have HD2 : Hid (E = (smallI (l.drop (k + 1)) && vs.all smallV)) := by show _ = _; rw [HD.out]; unfold small24; rw [decide_eq_true h24]; rfl
            obtain ⟨z, hz⟩ : ∃ z, x.value.size = z := ⟨_, rfl⟩
            rw [hz] at h24
            clear HD
            go_wp2_with fail
            go_roundw
            case rel => exact ⟨k + 1, hlt, by go_num, HD2.out, B2.out⟩
            case measure => simp [intOf]; omega
          · have HD2 : Hid (E = false) := by show _ = _; rw [HD.out]; unfold small24; rw [decide_eq_false h24]; rfl
            obtain ⟨z, hz⟩ : ∃ z, x.value.size = z := ⟨_, rfl⟩
            rw [hz] at h24
            clear HD
            go_wp2_with fail
            go_ret
            exact ⟨by rw [HD2.out]; rfl, B2.out⟩
        · have HE2 : Hid (E = (vs.drop 0).all smallV) := by show _ = _; rw [he.out, List.drop_eq_nil_of_le (by rw [HN.out]; omega)]; rfl
          obtain rfl : k = N := by omega
          obtain ⟨w2, rfl⟩ : ∃ W, W = wr := ⟨_, rfl⟩
          clear he
          go_wp2_with fail
          go_loopw [36] (fun i wr => ∃ j : Nat, j ≤ M ∧ i = .int .i64 j ∧ Hid (E = (vs.drop j).all smallV) ∧ w2 = wr) (fun i _ => M - (intOf i).toNat)
          case atStart => exact ⟨0, Nat.zero_le _, rfl, HE2.out, rfl⟩
          case round =>
            clear HE2
            obtain ⟨j, hj, rfl, he, rfl⟩ := hrel
            by_cases hjl : j < M
            · obtain ⟨b1, off1, cap1, hvv, _, _, hbl, hc⟩ := (HV2.out.below hb.out).addr (by omega)
              simp only [Value.slice.injEq] at hvv
              obtain ⟨rfl, _, rfl⟩ := hvv
              obtain ⟨x, hx⟩ : ∃ x, vs[j]? = some x := ⟨_, List.getElem?_eq_getElem (by rw [HM.out]; exact hjl)⟩
              obtain ⟨u, hu⟩ : ∃ u, hs[j]? = some u := ⟨_, List.getElem?_eq_getElem (by rw [HHL.out]; exact hjl)⟩
              have y0 := hc j u hu
              have hsv := HV3.out j u x hu hx
              have hn3 := sval_len hsv
              obtain ⟨ua, uc, rfl⟩ := (show Reads w u x.length (x.map Value.string) from hsv).slice
              have HD : Hid (E = (smallV (x.drop 0) && (vs.drop (j + 1)).all smallV)) := by show _ = _; rw [he.out, all_drop2 hx]; rfl
              obtain ⟨Q, hQ⟩ : ∃ Q, x.length = Q := ⟨_, rfl⟩
              have HQ := Lib.hid hQ
              have HS : Hid (Reads w2 (.slice ua Q uc) Q (x.map Value.string)) := by
                show Reads _ _ _ _
                have h : Reads w2 (.slice ua x.length uc) x.length (x.map Value.string) := (show Reads w _ x.length (x.map Value.string) from hsv).below hb.out
                rw [hQ] at h; exact h
              rw [hQ] at y0 hn3
              clear hc hx hu hsv he hbl hQ
              go_wp2_with fail
              go_loopw [42] (fun i wr => ∃ q : Nat, q ≤ Q ∧ i = .int .i64 q ∧ Hid (E = (smallV (x.drop q) && (vs.drop (j + 1)).all smallV)) ∧ w2 = wr) (fun i _ => Q - (intOf i).toNat)
              case atStart => exact ⟨0, Nat.zero_le _, rfl, HD.out, rfl⟩
              case round =>
                clear HD y0
                obtain ⟨q, hq, rfl, he, rfl⟩ := hrel
                by_cases hql : q < Q
                · obtain ⟨b2, off2, cap2, hvv, _, _, hbl, hc⟩ := HS.out.addr (by omega)
                  simp only [Value.slice.injEq] at hvv
                  obtain ⟨rfl, _, rfl⟩ := hvv
                  obtain ⟨s, hs'⟩ : ∃ s, x[q]? = some s := ⟨_, List.getElem?_eq_getElem (by rw [HQ.out]; exact hql)⟩
                  have y0 := hc q (.string s) (by rw [List.getElem?_map, hs']; rfl)
                  have HD : Hid (E = ((small24 s && smallV (x.drop (q + 1))) && (vs.drop (j + 1)).all smallV)) := by show _ = _; rw [he.out]; unfold smallV; rw [all_drop2 hs']
                  clear hc hs' he
                  by_cases h24 : s.size ≤ 24
                  · have HD2 : Hid (E = (smallV (x.drop (q + 1)) && (vs.drop (j + 1)).all smallV)) := by show _ = _; rw [HD.out]; unfold small24; rw [decide_eq_true h24]; rfl
                    obtain ⟨z, hz⟩ : ∃ z, s.size = z := ⟨_, rfl⟩
                    rw [hz] at h24
                    clear HD
                    go_wp2_with fail
                    go_roundw
                    case rel => exact ⟨q + 1, hql, by go_num, HD2.out, trivial⟩
                    case measure => simp [intOf]; omega
                  · have HD2 : Hid (E = false) := by show _ = _; rw [HD.out]; unfold small24; rw [decide_eq_false h24]; rfl
                    obtain ⟨z, hz⟩ : ∃ z, s.size = z := ⟨_, rfl⟩
                    rw [hz] at h24
                    clear HD
                    go_wp2_with fail
                    go_ret
                    exact ⟨by rw [HD2.out]; rfl, hb.out⟩
                · have HD2 : Hid (E = (vs.drop (j + 1)).all smallV) := by show _ = _; rw [he.out, List.drop_eq_nil_of_le (by rw [HQ.out]; omega)]; rfl
                  clear he
                  go_wp2_with fail
                  go_roundw
                  case rel => exact ⟨j + 1, hjl, by go_num, HD2.out, trivial⟩
                  case measure => simp [intOf]; omega
            · have HD2 : Hid (E = true) := by show _ = _; rw [he.out, List.drop_eq_nil_of_le (by rw [HM.out]; omega)]; rfl
              clear he
              go_wp2_with fail
              go_ret
              exact ⟨by rw [HD2.out]; rfl, hb.out⟩
    · have q2 : decide ((10 : Int) < (bn : Int)) = true := decide_eq_true (by omega)
      have HE1 : Hid (E = false) := by show _ = _; rw [HE.out, decide_eq_false (fun h => h10 h.2)]; rfl
      clear HE
      go_enter Try.func10, Try.ntmps10
      go_wp2_with fail
      go_ret
      exact ⟨by rw [HE1.out]; rfl, B1.out⟩
  · have q1 : decide ((8 : Int) < (nn : Int)) = true := decide_eq_true (by omega)
    have HE1 : Hid (E = false) := by show _ = _; rw [HE.out, decide_eq_false (fun h => h8 h.1)]; rfl
    clear HE
    go_enter Try.func10, Try.ntmps10
    go_wp2_with fail
    go_ret
    exact ⟨by rw [HE1.out]; rfl, B1.out⟩
end Go.Proofs.Ythcddboeejbncaa
