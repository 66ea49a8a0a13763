/- journal: number. -/
import Derived.Test.YtjakhgilkogcnaaDoorShe
import Derived.Test.YtjakhgilkogcnaaDoorJr13
import Derived.WideLaws
import Derived.Lib.AtoiAllCases
namespace Go.Proofs.YtjakhgilkogcnaaDoor
open Go.RowKit

/-- The number that a text is the text of, of at most ten digits. -/
def numE (s : ByteArray) : Option Int :=
  match Lib.atoiAll s.data.toList with
  | .ok n => if (⟨(Lib.itoa n).toArray⟩ : ByteArray) = s ∧ (Lib.trimPrefix s.data.toList [45]).length ≤ 10 then some n else none
  | _ => none
/-- The two variables that Atoi's errors hold. -/
def ErrV (w : World) : Prop :=
  (∃ ev, w.cell? ⟨4, 0, none⟩ = some ev ∧ (ev = .nilIface ∨ ∃ te pe, ev = .iface te pe)) ∧
  (∃ ev, w.cell? ⟨5, 0, none⟩ = some ev ∧ (ev = .nilIface ∨ ∃ te pe, ev = .iface te pe))
theorem ErrV.below {w w' : World} (h : ErrV w) (k : Below w.heap.size w w') : ErrV w' := by
  obtain ⟨⟨e1, c1, h1⟩, ⟨e2, c2, h2⟩⟩ := h
  refine ⟨⟨e1, ?_, h1⟩, ⟨e2, ?_, h2⟩⟩
  · rw [k.cell (World.block_lt_of_cell? w _ c1)]; exact c1
  · rw [k.cell (World.block_lt_of_cell? w _ c2)]; exact c2
def NumP (s : ByteArray) (w : World) (e : Ending) (w' : World) : Prop :=
  ∃ n, e = .returned (.tuple #[.int .i64 n, .bool (numE s).isSome]) ∧ (∀ v, numE s = some v → n = v) ∧ Below w.heap.size w w'
set_option maxHeartbeats 1000000 in
theorem number_c (s : ByteArray) (w : World) (hs : s.size ≤ 70000) (hp : Pow w) (hv : ErrV w) :
    Calls Tryd.prog 39 #[.string s] w (NumP s w) := by
  have HE : Hid (numE s = match Lib.atoiAll s.data.toList with
    | .ok n => if (⟨(Lib.itoa n).toArray⟩ : ByteArray) = s ∧ (Lib.trimPrefix s.data.toList [45]).length ≤ 10 then some n else none
    | _ => none) := rfl
  have hui : Tryd.prog.underlying 53 = some (.interface (Tryd.prog.methodsAt 53)) := by kernel_rfl
  have q0 : ∀ W, (binOp .eql 53 .nilIface .nilIface).run Tryd.prog W = .ok (.bool true) W := fun W => run_eql_nil_nil _ _ hui
  have q1 : ∀ W t x, (binOp .eql 53 (.iface t x) .nilIface).run Tryd.prog W = .ok (.bool false) W := fun W t x => run_eql_held_nil _ _ _ _ hui
  obtain ⟨r, hr⟩ : ∃ r, Lib.atoiAll s.data.toList = r := ⟨_, rfl⟩
  rw [hr] at HE
  rcases r with v | _ | _
  · skip
    have HE : Hid (numE s = if (⟨(Lib.itoa v).toArray⟩ : ByteArray) = s ∧ (Lib.trimPrefix s.data.toList [45]).length ≤ 10 then some v else none) := HE.out
    have HA : Hid (Calls Tryd.prog 58 #[.string s] w fun e w' => e = .returned (.tuple #[.int .i64 v, .nilIface]) ∧ Below w.heap.size w w') :=
      (Tryd.strconv_Atoi_ok s (by omega) v hr w).mono fun e w' ⟨he, h⟩ => ⟨he, by
        rcases h with rfl | ⟨t, rfl⟩
        · exact Below.refl _ _
        · exact below_bytes _ _ _⟩
    have hb := Lib.atoiAll_bounds hr
    have HI := Lib.hid (fun W (hW : Below w.heap.size w W) => itoa_c v W hb.1 hb.2 (hp.below hW))
    have HT := Lib.hid (fun W => Tryd.strings_TrimPrefix s ⟨#[45]⟩ W)
    have heq : ((⟨(Lib.itoa v).toArray⟩ : ByteArray).toList == s.toList) = decide ((⟨(Lib.itoa v).toArray⟩ : ByteArray) = s) := by
      rw [Bool.eq_iff_iff, Lib.bytes_beq_iff]; simp
    have HQ := Lib.hid heq
    obtain ⟨T, hT⟩ : ∃ T, Lib.trimPrefix s.data.toList [45] = T := ⟨_, rfl⟩
    have HT2 : Hid (∀ W, Calls Tryd.prog 59 #[.string s, .string ⟨#[45]⟩] W fun e w' => e = .returned (.string ⟨T.toArray⟩) ∧ w' = W) := fun W => by
      have h := HT.out W
      rw [show ((⟨#[45]⟩ : ByteArray).data.toList) = [45] from rfl, hT] at h
      exact h
    rw [hT] at HE
    generalize (⟨(Lib.itoa v).toArray⟩ : ByteArray) = I at *
    clear hr hb HT hT heq hv hp
    unfold NumP
    generalize numE s = E at *
    obtain ⟨tn, htn⟩ : ∃ k, T.length = k := ⟨_, rfl⟩
    have HTN : Hid ((⟨T.toArray⟩ : ByteArray).size = tn) := htn
    by_cases hI : I = s
    · have g1 : (I.toList == s.toList) = true := by rw [HQ.out]; exact decide_eq_true hI
      by_cases ht : T.length ≤ 10
      · have HE2 : Hid (E = some v) := HE.out.trans (if_pos ⟨hI, ht⟩)
        have g2 : decide ((tn : Int) ≤ 10) = true := decide_eq_true (by omega)
        have g3 : (⟨T.toArray⟩ : ByteArray).size = tn := htn
        clear HE hI ht HQ htn HTN
        generalize (⟨T.toArray⟩ : ByteArray) = TT at *
        go_enter Tryd.func39, Tryd.ntmps39
        go_wp2_with fail
        refine HA.out.mono ?_; rintro e w2 ⟨rfl, hb⟩
        have HB := Lib.hid hb
        have HI2 := Lib.hid (HI.out w2 hb)
        clear hb HI
        go_wp2_with (first | rw [q0])
        refine HI2.out.mono ?_; rintro e w3 ⟨rfl, hb3⟩
        have HB3 := Lib.hid (belowT HB.out hb3)
        clear hb3
        go_wp2_with fail
        refine (HT2.out w3).mono ?_; rintro e w' ⟨rfl, rfl⟩
        go_wp2_with fail
        go_ret2
        exact ⟨v, by rw [HE2.out]; rfl, (fun u hu => by rw [HE2.out] at hu; exact Option.some.inj hu), HB3.out⟩
      · have HE2 : Hid (E = none) := HE.out.trans (if_neg (fun h => ht h.2))
        have g2 : decide ((tn : Int) ≤ 10) = false := decide_eq_false (by omega)
        have g3 : (⟨T.toArray⟩ : ByteArray).size = tn := htn
        clear HE hI ht HQ htn HTN
        generalize (⟨T.toArray⟩ : ByteArray) = TT at *
        go_enter Tryd.func39, Tryd.ntmps39
        go_wp2_with fail
        refine HA.out.mono ?_; rintro e w2 ⟨rfl, hb⟩
        have HB := Lib.hid hb
        have HI2 := Lib.hid (HI.out w2 hb)
        clear hb HI
        go_wp2_with (first | rw [q0])
        refine HI2.out.mono ?_; rintro e w3 ⟨rfl, hb3⟩
        have HB3 := Lib.hid (belowT HB.out hb3)
        clear hb3
        go_wp2_with fail
        refine (HT2.out w3).mono ?_; rintro e w' ⟨rfl, rfl⟩
        go_wp2_with fail
        go_ret2
        exact ⟨v, by rw [HE2.out]; rfl, (fun u hu => by rw [HE2.out] at hu; cases hu), HB3.out⟩
    · have HE2 : Hid (E = none) := HE.out.trans (if_neg (fun h => hI h.1))
      have g1 : (I.toList == s.toList) = false := by rw [HQ.out]; exact decide_eq_false hI
      clear HE hI HQ HTN htn HT2
      go_enter Tryd.func39, Tryd.ntmps39
      go_wp2_with fail
      refine HA.out.mono ?_; rintro e w2 ⟨rfl, hb⟩
      have HB := Lib.hid hb
      have HI2 := Lib.hid (HI.out w2 hb)
      clear hb HI
      go_wp2_with (first | rw [q0])
      refine HI2.out.mono ?_; rintro e w3 ⟨rfl, hb3⟩
      have HB3 := Lib.hid (belowT HB.out hb3)
      clear hb3
      go_wp2_with fail
      go_ret2
      exact ⟨v, by rw [HE2.out]; rfl, (fun u hu => by rw [HE2.out] at hu; cases hu), HB3.out⟩
  · skip
    obtain ⟨ev, c1, c2⟩ := hv.1
    have HA := Lib.hid (Tryd.strconv_Atoi_syntax s (by omega) hr ev w c1 c2)
    have HE2 : Hid (numE s = none) := HE.out
    clear hr c1 c2 HE hv hp
    unfold NumP
    generalize numE s = E at *
    go_enter Tryd.func39, Tryd.ntmps39
    go_wp2_with fail
    refine HA.out.mono ?_; rintro e w2 ⟨N, rfl, _, _, hb⟩
    have HB := Lib.hid hb
    clear hb
    go_wp2_with (first | rw [q1])
    go_ret2
    exact ⟨_, by rw [HE2.out]; rfl, (fun v hv => by rw [HE2.out] at hv; cases hv), HB.out⟩
  · skip
    obtain ⟨ev, c1, c2⟩ := hv.2
    have HA := Lib.hid (Tryd.strconv_Atoi_range s (by omega) hr ev w c1 c2)
    have HE2 : Hid (numE s = none) := HE.out
    clear hr c1 c2 HE hv hp
    unfold NumP
    generalize numE s = E at *
    generalize Lib.atoiSat s.data.toList = AS at *
    go_enter Tryd.func39, Tryd.ntmps39
    go_wp2_with fail
    refine HA.out.mono ?_; rintro e w2 ⟨N, rfl, _, _, hb⟩
    have HB := Lib.hid hb
    clear hb
    go_wp2_with (first | rw [q1])
    go_ret2
    exact ⟨_, by rw [HE2.out]; rfl, (fun v hv => by rw [HE2.out] at hv; cases hv), HB.out⟩
end Go.Proofs.YtjakhgilkogcnaaDoor
