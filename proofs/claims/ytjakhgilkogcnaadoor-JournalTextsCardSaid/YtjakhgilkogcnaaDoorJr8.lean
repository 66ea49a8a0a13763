/- journal: Sorted. -/
import Derived.Test.YtjakhgilkogcnaaDoorJr6
namespace Go.Proofs.YtjakhgilkogcnaaDoor
open Go.RowKit Go.Sort Go.Shelf

def sortedE (l : List Ev) : List Ev × Int := if checkE l ≠ 0 then ([], checkE l) else (sortE l, 0)
theorem sortE_len (l : List Ev) : (sortE l).length = l.length := by unfold sortE; simp
theorem sortE_mem (l : List Ev) (x : Ev) : x ∈ sortE l ↔ x ∈ l := by unfold sortE; simp
theorem checkE_len {l : List Ev} (h : checkE l = 0) : l.length ≤ 256 := by
  unfold checkE at h
  split at h
  · omega
  · omega
/-- A list of events and an error, as a function returns them. -/
def EvsP (l : List Ev) (er : Int) (w : World) (e : Ending) (w' : World) : Prop :=
  ∃ a c, e = .returned (.tuple #[.slice a l.length c, .int .i64 er]) ∧ EVal w' (.slice a l.length c) l ∧ Below w.heap.size w w'
set_option maxHeartbeats 1000000 in
theorem sorted_c (v : Value) (l : List Ev) (w : World) (hv : EVal w v l) (hw : Hid (∀ x ∈ l, x.Wf)) :
    Calls Tryd.prog 10 #[v] w (EvsP (sortedE l).1 (sortedE l).2 w) := by
  have HCK := Lib.hid (check_c v l w hv hw)
  have HCL := Lib.hid (fun W (hW : Below w.heap.size w W) (h : l.length ≤ 256) => cloneE_c v l W (hv.below hW) h)
  have HLE := Lib.hid (@checkE_len l)
  have HSL := Lib.hid (sortE_len l)
  have HE : Hid (sortedE l = if checkE l ≠ 0 then ([], checkE l) else (sortE l, 0)) := rfl
  generalize checkE l = E at *
  generalize sortedE l = S at *
  clear hv
  by_cases hz : E = 0
  · have HS := Lib.hid (HE.out.trans (if_neg (fun h => h hz)))
    have hn := HLE.out hz
    subst hz
    clear HE HLE
    go_enter Tryd.func10, Tryd.ntmps10
    go_wp2_with fail
    refine HCK.out.mono ?_; rintro e w2 ⟨rfl, hb2⟩
    have HB2 := Lib.hid hb2
    clear hb2 HCK
    go_wp2_with fail
    refine (HCL.out _ HB2.out hn).mono ?_; rintro e w3 ⟨u, rfl, hrow, ⟨a, c, rfl⟩, hb3⟩
    have HB3 := Lib.hid (belowT HB2.out hb3)
    have hs3 : w2.heap.size ≤ w3.heap.size := hb3.size
    clear hb3 HCL
    by_cases hp : 0 < l.length
    · have hr := hrow hp
      clear hrow
      obtain ⟨g, rfl⟩ : ∃ g, a = some ⟨g, 0, none⟩ := by
        obtain ⟨_, hv | ⟨g', cap', cur, hv, _⟩⟩ := hr
        · have := hv.2; omega
        · cases hv; exact ⟨_, rfl⟩
      have HF := Lib.hid (sortFunc_c _ g c l w3 hr hn)
      clear hr
      go_wp2_with fail
      refine HF.out.mono ?_; rintro e w4 ⟨rfl, hr4, hb4⟩
      have HR4 := Lib.hid hr4
      have HB4 := Lib.hid (HB3.out.trans (hb4.mono HB2.out.size))
      clear hr4 hb4 HF
      go_wp2_with fail
      go_ret2
      refine ⟨some ⟨g, 0, none⟩, c, by rw [HS.out]; show _ = Ending.returned (.tuple #[.slice _ (sortE l).length _, _]); rw [HSL.out]; rfl, ?_, HB4.out⟩
      rw [HS.out]
      show Reads _ (.slice _ (sortE l).length _) (sortE l).length (flat Ev.cells (sortE l))
      rw [HSL.out]
      exact Reads.of_owns HR4.out (by omega)
    · have hl : l.length = 0 := by omega
      have HF := Lib.hid (fun W => sortFunc_none a c W)
      rw [hl] at HSL ⊢
      clear hrow
      go_wp2_with fail
      refine (HF.out _).mono ?_; rintro e w4 ⟨rfl, rfl⟩
      go_wp2_with fail
      go_ret2
      have hq : sortE l = [] := List.eq_nil_of_length_eq_zero HSL.out
      refine ⟨a, c, by rw [HS.out, hq]; rfl, ?_, HB3.out⟩
      rw [HS.out, hq]
      exact Or.inl ⟨rfl, rfl, a, c, rfl⟩
  · have HS := Lib.hid (HE.out.trans (if_pos hz))
    have g1 : (E != 0) = true := by simpa using hz
    clear HE HLE hz
    go_enter Tryd.func10, Tryd.ntmps10
    go_wp2_with fail
    refine HCK.out.mono ?_; rintro e w2 ⟨rfl, hb2⟩
    have HB2 := Lib.hid hb2
    clear hb2 HCK
    go_wp2_with fail
    go_ret2
    refine ⟨none, 0, by rw [HS.out]; rfl, ?_, HB2.out⟩
    rw [HS.out]
    exact Or.inl ⟨rfl, rfl, none, 0, rfl⟩
end Go.Proofs.YtjakhgilkogcnaaDoor
