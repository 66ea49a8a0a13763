/- Over-current characteristics: the contract of Scale. -/
import Derived.Test.YtjkgkoedkphnjaaCrv4
namespace Go.Proofs.Ytjkgkoedkphnjaa
open Go.RowKit

def sc (dial : Int) (p : Int × Int) : Int × Int := (p.1, (p.2 * dial + 999) / 1000)
def Pts.scaled (l : Pts) (dial : Int) : Pts := l.map (sc dial)
/-- The code that Scale returns. -/
def Pts.scaleE (l : Pts) (dial : Int) : Int :=
  if l.err ≠ 0 then l.err
  else if dial < 1 ∨ 10000 < dial then 4
  else if (l.scaled dial).any (fun p => decide (3600000 < p.2)) = true then 2
  else 0
/-- What Scale returns. -/
def ScaleIs (l : Pts) (dial : Int) (w : World) (e : Ending) (w' : World) : Prop :=
  ∃ v, e = .returned (.tuple #[v, .int .i64 (l.scaleE dial)]) ∧ Below w.heap.size w w' ∧ (l.scaleE dial ≠ 0 → v = .slice none 0 0) ∧ (l.scaleE dial = 0 → PVal w' v (l.scaled dial))

/-- The points as cells. -/
def flatP (l : Pts) : List Value := l.flatMap fun p => [.int .i64 p.1, .int .i64 p.2]
theorem flatP_length (l : Pts) : (flatP l).length = l.length * 2 := by
  induction l with
  | nil => rfl
  | cons x xs ih => simp only [flatP, List.flatMap_cons, List.length_append, List.length_cons, List.length_nil] at ih ⊢; omega
theorem flatP_snoc (l : Pts) (p : Int × Int) : flatP (l ++ [p]) = flatP l ++ [.int .i64 p.1, .int .i64 p.2] := by simp [flatP]
theorem flatP_get {l : Pts} {i : Nat} (h : i < l.length) : (flatP l)[i * 2]? = some (.int .i64 (l.pt i).1) ∧ (flatP l)[i * 2 + 1]? = some (.int .i64 (l.pt i).2) := by
  induction l generalizing i with
  | nil => simp at h
  | cons x xs ih =>
    cases i with
    | zero => simp [flatP, Pts.pt]
    | succ i =>
      have := ih (i := i) (by simpa using h)
      have e : flatP (x :: xs) = .int .i64 x.1 :: .int .i64 x.2 :: flatP xs := rfl
      rw [e, show (i + 1) * 2 = i * 2 + 1 + 1 from by omega, List.getElem?_cons_succ, List.getElem?_cons_succ, List.getElem?_cons_succ, List.getElem?_cons_succ]
      simpa [Pts.pt] using this

/-- What the call owns as cells reads as points. -/
theorem PVal.of_owns {w : World} {base : Nat} {e : TypeId} {v : Value} {l : Pts} (h : w.ownsRow base e 2 v l.length (flatP l)) : PVal w v l := by
  rcases h.2 with ⟨hv, hn⟩ | ⟨g, cap, cur, hv, hg, hh, hn, hcap, hsz, htake⟩
  · exact Or.inl ⟨List.eq_nil_of_length_eq_zero hn, none, 0, by rw [hv]⟩
  · refine Or.inr ⟨g, 0, cap, hv, hn, Nat.le_trans hn hcap, (Array.getElem?_eq_some_iff.1 hh).1, fun i hi => ?_⟩
    obtain ⟨f0, f1⟩ := flatP_get hi
    have e : v.ownBlock = some g := by rw [hv]; rfl
    have a0 := h.cells e _ _ f0
    have a1 := h.cells e _ _ f1
    rw [show ∀ j, (⟨g, 0, none⟩ : Addr).add j = ⟨g, j, none⟩ from fun j => by unfold Addr.add; split <;> simp_all] at a0 a1
    simp only [Nat.zero_add]
    exact ⟨a0, a1⟩
theorem scaled_take (l : Pts) (dial : Int) {k : Nat} (h : k < l.length) : (l.scaled dial).take (k + 1) = (l.scaled dial).take k ++ [sc dial (l.pt k)] := by
  unfold Pts.scaled
  rw [List.take_succ_eq_append_getElem (by simpa using h)]
  simp [Pts.pt, h]

theorem infoPt : (Try.prog.info? 58).map (fun i => (i.zero, i.size, i.bytes)) = some (some (.agg #[.int .i64 0, .int .i64 0]), 2, 16) := by kernel_rfl

def ScRel (l : Pts) (dial : Int) (w : World) (k : Nat) (out : Value) (wr : World) : Prop :=
  wr.ownsRow w.heap.size 58 2 out k (flatP ((l.scaled dial).take k)) ∧ Below w.heap.size w wr ∧ ∀ i, i < k → ((l.scaled dial).pt i).2 ≤ 3600000

set_option maxHeartbeats 2000000 in
theorem scale_c (v : Value) (l : Pts) (dial : Int) (w : World) (hv : PVal w v l) :
    Calls Try.prog 36 #[v, .int .i64 dial] w fun e w' => ScaleIs l dial w e w' := by
  have hc := curveCheck_c v l w hv
  have HV := Lib.hid hv
  obtain ⟨sa, sl, sc0, rfl⟩ := hv.slice
  clear hv
  have HC := Lib.hid hc
  clear hc
  by_cases he : l.err = 0
  · have hl := (Pts.err_zero l).1 he
    by_cases hr : dial < 1 ∨ 10000 < dial
    · have HR : Hid (∀ w', Below w.heap.size w w' → ScaleIs l dial w (.returned (.tuple #[.slice none 0 0, .int .i64 4])) w') := by
        intro w' hb
        have e : l.scaleE dial = 4 := by unfold Pts.scaleE; rw [if_neg (fun h => h he), if_pos hr]
        exact ⟨_, by rw [e], hb, fun _ => rfl, fun h => by rw [e] at h; omega⟩
      rw [he] at HC
      clear he hl
      go_enter Try.func36, Try.ntmps36
      go_wp2_with fail
      refine HC.out.mono ?_; rintro e w1 ⟨rfl, hb⟩
      have HB := Lib.hid hb
      clear hb
      go_wp2_with fail
      all_goals
        go_ret2
        exact HR.out _ HB.out
    · have HR2 : Hid (∀ i w', i < l.length → 3600000 < ((l.scaled dial).pt i).2 → Below w.heap.size w w' → ScaleIs l dial w (.returned (.tuple #[.slice none 0 0, .int .i64 2])) w') := by
        intro i w' hi hbig hb
        have e : l.scaleE dial = 2 := by
          unfold Pts.scaleE; rw [if_neg (fun h => h he), if_neg hr, if_pos]
          have hi' : i < (l.scaled dial).length := by unfold Pts.scaled; simpa using hi
          refine List.any_eq_true.2 ⟨(l.scaled dial).pt i, ?_, by simpa using hbig⟩
          unfold Pts.pt; rw [List.getD_eq_getElem?_getD, List.getElem?_eq_getElem hi']; simp
        exact ⟨_, by rw [e], hb, fun _ => rfl, fun h => by rw [e] at h; omega⟩
      have HR0 : Hid (∀ v w', (∀ i, i < l.length → ((l.scaled dial).pt i).2 ≤ 3600000) → w'.ownsRow w.heap.size 58 2 v l.length (flatP ((l.scaled dial).take l.length)) → Below w.heap.size w w' → ScaleIs l dial w (.returned (.tuple #[v, .int .i64 0])) w') := by
        intro v w' hsm ho hb
        have hlen : (l.scaled dial).length = l.length := by unfold Pts.scaled; simp
        have e : l.scaleE dial = 0 := by
          unfold Pts.scaleE; rw [if_neg (fun h => h he), if_neg hr, if_neg]
          intro h
          obtain ⟨p, hp, hpb⟩ := List.any_eq_true.1 h
          obtain ⟨i, hi, hpi⟩ := List.getElem_of_mem hp
          have := hsm i (by omega)
          unfold Pts.pt at this
          rw [List.getD_eq_getElem?_getD, List.getElem?_eq_getElem hi, hpi] at this
          have := of_decide_eq_true hpb
          simp at *
          omega
        rw [← hlen, List.take_length] at ho
        exact ⟨v, by rw [e], hb, fun h => absurd e h, fun _ => PVal.of_owns ho⟩
      obtain ⟨b, off, cap, hvv, hp⟩ := HV.out.addr hl
      simp only [Value.slice.injEq] at hvv
      obtain ⟨rfl, rfl, rfl⟩ := hvv
      have r1 : 1 ≤ dial := by omega
      have r2 : dial ≤ 10000 := by omega
      have HL := Lib.hid hl
      have HP := Lib.hid hp
      have n2 := hl.len2
      rw [he] at HC
      clear he hl hp hr HV
      obtain ⟨N, hN⟩ : ∃ N, l.length = N := ⟨_, rfl⟩
      have HN := Lib.hid hN
      rw [hN] at n2 HC HR2 HR0 ⊢
      clear hN
      obtain ⟨i0, hi, hz0, hz1, hz2⟩ := info_parts infoPt
      go_enter Try.func36, Try.ntmps36
      go_wp2_with fail
      refine HC.out.mono ?_; rintro e w1 ⟨rfl, hb⟩
      have HB := Lib.hid hb
      clear hb HC
      go_wp2_with fail
      go_loopw [7, 23] (fun o i wr => ∃ (k : Nat) (o' : Value), o = o' ∧ k ≤ N ∧ i = .int .i64 k ∧ ScRel l dial w k o' wr) (fun _ i _ => N - (intOf i).toNat)
      case atStart => exact ⟨0, _, rfl, Nat.zero_le _, rfl, by simpa [flatP] using World.ownsRow_nil _ _ _ _, HB.out, fun i h => by omega⟩
      case round =>
        clear HB
        obtain ⟨k, o, rfl, hk, rfl, ho, hb, hsm⟩ := hrel
        by_cases hlt : k < N
        · have x0 := ((HP.out.below hb).2 k (by rw [HN.out]; exact hlt)).1
          have x1 := ((HP.out.below hb).2 k (by rw [HN.out]; exact hlt)).2
          have xt1 := HL.out.t1 k (by rw [HN.out]; exact hlt)
          have xt2 := HL.out.t2 k (by rw [HN.out]; exact hlt)
          have hs0 := scaled_take l dial (by rw [HN.out]; exact hlt)
          have hsp : (l.scaled dial).pt k = sc dial (l.pt k) := by unfold Pts.scaled Pts.pt; simp [HN.out, hlt]
          have hmul : 0 ≤ (l.pt k).2 * dial ∧ (l.pt k).2 * dial ≤ 36000000000 := by
            constructor
            · exact Int.mul_nonneg xt1 (by omega)
            · have : (l.pt k).2 * dial ≤ 3600000 * 10000 := Int.mul_le_mul xt2 r2 (by omega) (by omega)
              omega
          obtain ⟨xm, xt, hx⟩ : ∃ xm xt, l.pt k = (xm, xt) := ⟨_, _, rfl⟩
          rw [hx] at x0 x1 xt1 xt2 hs0 hsp hmul
          have HS0 := Lib.hid hs0
          have HSP := Lib.hid hsp
          have HO := Lib.hid ho
          have HB := Lib.hid hb
          have HSm := Lib.hid hsm
          clear hx hs0 hsp ho hb hsm
          simp only at x0 x1 xt1 xt2 hmul
          by_cases hbig : 3600000 < (xt * dial + 999) / 1000
          · have HR3 := Lib.hid (HR2.out k)
            have HBg : Hid (3600000 < ((l.scaled dial).pt k).2) := by show _ < _; rw [HSP.out]; exact hbig
            go_wp2_with fail
            go_ret2
            exact HR3.out _ hlt HBg.out (by repeat (first | exact HB.out | refine belowA ?_ _ | refine Below.setCell ?_ ?_ _))
          · have HBg : Hid (((l.scaled dial).pt k).2 ≤ 3600000) := by show _ ≤ _; rw [HSP.out]; show (xt * dial + 999) / 1000 ≤ _; omega
            go_wp2_with (at_builtin; refine wpList_append_own _ rfl _ _ 53 rfl w.heap.size 58 i0 (.agg #[.int .i64 0, .int .i64 0]) 2 16 Try.underlying53 hi hz0 hz1 hz2 rfl (by decide) _ _ _ rfl ((HO.out.alloc _).alloc _) ⟨wr.heap.size + 1, 0, none⟩ 1 1 [.int .i64 xm, .int .i64 ((xt * dial + 999) / 1000)] rfl rfl (Blk.new2 _ _ _ _).row (fun x hx => by simp at hx; rcases hx with rfl | rfl <;> rfl) (by unfold maxLen; omega) (by omega) (by simp; have := HB.out.size; omega) ?_; intro v' w3 hown' hgrow3 hnil3)
            go_roundw
            case rel =>
              refine ⟨k + 1, _, rfl, by omega, by go_num, ?_, ?_, ?_⟩
              · rw [HS0.out, flatP_snoc]; exact hown'
              · exact Below.grown (belowA (belowA HB.out _) _) hgrow3 (by simp; have := HB.out.size; omega) (fun j hj => (HO.out.lt _ hj).1)
              · intro i hi
                by_cases hik : i = k
                · rw [hik]; exact HBg.out
                · exact HSm.out i (by omega)
            case measure => simp [intOf]; omega
        · have hkN : k = N := by omega
          have HX := Lib.hid (HR0.out _ wr (fun i hi => hsm i (by omega)) (by rw [← hkN]; exact ho) hb)
          clear ho hb hsm hkN
          go_wp2_with fail
          go_ret2
          exact HX.out
  · have HR : Hid (∀ w', Below w.heap.size w w' → ScaleIs l dial w (.returned (.tuple #[.slice none 0 0, .int .i64 l.err])) w') := by
      intro w' hb
      have e : l.scaleE dial = l.err := by unfold Pts.scaleE; rw [if_pos he]
      exact ⟨_, by rw [e], hb, fun _ => rfl, fun h => by rw [e] at h; exact absurd h he⟩
    have g0 : (l.err != 0) = true := by simpa using he
    generalize l.err = E at *
    clear he
    go_enter Try.func36, Try.ntmps36
    go_wp2_with fail
    refine HC.out.mono ?_; rintro e w1 ⟨rfl, hb⟩
    have HB := Lib.hid hb
    clear hb
    go_wp2_with fail
    go_ret2
    exact HR.out _ HB.out
end Go.Proofs.Ytjkgkoedkphnjaa
