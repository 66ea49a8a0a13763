/- The law JournalParses walked. -/
import Derived.Test.YtjakhgilkogcnaaDoorJr15
import Derived.Test.YtjakhgilkogcnaaDoorJr23
import Derived.Test.YtjakhgilkogcnaaDoorJr24
namespace Go.Proofs.YtjakhgilkogcnaaDoor
open Go.RowKit

theorem ev_wf {x : Ev} (h : evE x = 0) : x.Wf := by
  obtain ⟨_, h2, h3, _⟩ := ev_ok h
  exact ⟨by omega, by omega⟩
set_option maxHeartbeats 4000000 in
theorem lawJrParses_c (s : ByteArray) (w : World) (hs : s.size ≤ 9223372036854775807) (ht : Pow w) (he : ErrV w) (hm : MaxV w) :
    Calls Tryd.prog 7 #[.string s] w fun e w' => e = .returned (.bool true) ∧ Below w.heap.size w w' := by
  have HW := Lib.hid (works_c w ht)
  have HA := Lib.hid (fun W (hW : Below w.heap.size w W) => parse_c s W (ht.below hW) (he.below hW) (hm.below hW) hs)
  have HP := Lib.hid (fun v l W (hW : Below w.heap.size w W) (hv : EVal W v l) (hw : Hid (∀ x ∈ l, x.Wf)) => print_c v l W hv hw (ht.below hW))
  by_cases hc : (parseE s).2.2 = 0
  · obtain ⟨l, hpe, hl, hck, htx⟩ := parses_law hc
    obtain ⟨_, hall⟩ := checkE_ok hck
    have hwf : Hid (∀ x ∈ l, x.Wf) := fun x hx => ev_wf (hall x hx)
    have hpr : printE l = (s, 0) := by unfold printE; rw [if_neg (fun h => h hck), htx]
    rw [hpe] at HA
    have HA2 : Hid (∀ W, Below w.heap.size w W → Calls Tryd.prog 16 #[.string s] W (ParP (l, 0, 0) W)) := HA.out
    have HP2 : Hid (∀ v W, Below w.heap.size w W → EVal W v l → Calls Tryd.prog 14 #[v] W fun e w' => e = .returned (.tuple #[.string s, .int .i64 0]) ∧ Below W.heap.size W w') := fun v W hW hv => by
      have := HP.out v l W hW hv hwf
      rwa [hpr] at this
    have g1 : (s.toList == s.toList) = true := (Lib.bytes_beq_iff s s).2 rfl
    clear HA HP hpe hl hck htx hall hwf hpr ht he hm hc
    go_enter Tryd.func7, Tryd.ntmps7
    go_wp2_with fail
    refine HW.out.mono ?_; rintro e w2 ⟨rfl, hb2⟩
    have B2 := Lib.hid hb2
    have HA3 := Lib.hid (HA2.out w2 hb2)
    clear hb2 HW HA2
    go_wp2_with fail
    refine HA3.out.mono ?_; rintro e w3 ⟨a, c, rfl, hev, hb3⟩
    have B3 := Lib.hid (belowT B2.out hb3)
    have HP3 := Lib.hid (HP2.out _ w3 B3.out hev)
    clear hb3 B2 HA3 HP2 hev
    go_wp2_with fail
    refine HP3.out.mono ?_; rintro e w4 ⟨rfl, hb4⟩
    have B4 := Lib.hid (belowT B3.out hb4)
    clear hb4 B3 HP3
    go_wp2_with fail
    go_ret
    exact ⟨by simp, B4.out⟩
  · obtain ⟨h1, h2⟩ := parse_err hc
    obtain ⟨⟨l, k, er⟩, hr⟩ : ∃ r, parseE s = r := ⟨_, rfl⟩
    rw [hr] at h1 h2 hc HA
    simp only at h1 h2 hc
    subst h1
    have HA2 : Hid (∀ W, Below w.heap.size w W → Calls Tryd.prog 16 #[.string s] W (ParP ([], k, er) W)) := HA.out
    have g1 : (er != 0) = true := by simpa using hc
    have g2 : decide (0 ≤ k) = true := decide_eq_true h2
    clear HA HP hr hc ht he hm h2
    go_enter Tryd.func7, Tryd.ntmps7
    go_wp2_with fail
    refine HW.out.mono ?_; rintro e w2 ⟨rfl, hb2⟩
    have B2 := Lib.hid hb2
    have HA3 := Lib.hid (HA2.out w2 hb2)
    clear hb2 HW HA2
    go_wp2_with fail
    refine HA3.out.mono ?_; rintro e w3 ⟨a, c, rfl, hev, hb3⟩
    have B3 := Lib.hid (belowT B2.out hb3)
    clear hb3 B2 HA3 hev
    go_wp2_with fail
    go_ret
    exact ⟨by simp, B3.out⟩
end Go.Proofs.YtjakhgilkogcnaaDoor
