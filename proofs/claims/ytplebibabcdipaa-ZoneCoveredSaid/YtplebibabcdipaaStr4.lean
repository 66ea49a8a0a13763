/- netmodel.ends, netmodel.device. -/
import Derived.Test.YtplebibabcdipaaStr3
namespace Go.Proofs.Ytplebibabcdipaa
open Go.RowKit

def endsE (nl ls : List ByteArray) : Int := if ls.all (fun s => hasS s nl) = true then 0 else 6
theorem all_drop {p : ByteArray → Bool} {l : List ByteArray} {k : Nat} (h : k < l.length) : (l.drop k).all p = (p (l.getD k ByteArray.empty) && (l.drop (k + 1)).all p) := by
  rw [List.drop_eq_getElem_cons h, List.all_cons]; simp [h]

/-- A network as a value: six slices. -/
abbrev netV (na : Option Addr) (nn nc : Nat) (sa : Option Addr) (sn sc : Nat) (ba : Option Addr) (bn bc : Nat) (ga : Option Addr) (gn gc : Nat) (la : Option Addr) (ln lc : Nat) (ta : Option Addr) (tn tc : Nat) : Value :=
  .agg #[.slice na nn nc, .slice sa sn sc, .slice ba bn bc, .slice ga gn gc, .slice la ln lc, .slice ta tn tc]

set_option maxHeartbeats 1000000 in
theorem ends_c (na : Option Addr) (nn nc : Nat) (sa : Option Addr) (sn sc : Nat) (ba : Option Addr) (bn bc : Nat) (ga : Option Addr) (gn gc : Nat) (la : Option Addr) (ln lc : Nat) (ta : Option Addr) (tn tc : Nat)
    (nl ls : List ByteArray) (v : Value) (w : World) (hn : nl.length = nn) (hnl : Reads w (.slice na nn nc) nn (strs nl)) (hls : SVal w v ls) :
    Calls Try.prog 111 #[netV na nn nc sa sn sc ba bn bc ga gn gc la ln lc ta tn tc, v] w fun e w' => e = .returned (.int .i64 (endsE nl ls)) ∧ Below w.heap.size w w' := by
  obtain ⟨a, cap, rfl⟩ := hls.slice
  have hm0 : ls.length ≤ 9223372036854775807 := by
    rcases hls with ⟨h, _⟩ | ⟨_, _, _, _, _, h, _⟩
    · omega
    · exact h
  have HE : Hid (endsE nl ls = if (ls.drop 0).all (fun s => hasS s nl) = true then 0 else 6) := rfl
  generalize endsE nl ls = E at *
  obtain ⟨m, hM⟩ : ∃ m, ls.length = m := ⟨_, rfl⟩
  have HM := Lib.hid hM
  have HL : Hid (Reads w (.slice a m cap) m (strs ls)) := by show Reads _ _ _ _; rw [← hM]; exact hls
  have HC : Hid (∀ s W, Below w.heap.size w W → Calls Try.prog 68 #[.slice na nn nc, .string s] W fun e w' => e = .returned (.bool (hasS s nl)) ∧ W = w') := fun s W hW =>
    contains_c (.slice na nn nc) nl s W (by show Reads _ _ _ _; rw [hn]; exact hnl.below hW)
  rw [hM] at hm0 ⊢
  clear hls hM hnl
  go_enter Try.func111, Try.ntmps111
  go_wp2_with fail
  have B0 := Lib.hid (belowA (Below.refl _ w) (.cells #[.slice na nn nc, .slice sa sn sc, .slice ba bn bc, .slice ga gn gc, .slice la ln lc, .slice ta tn tc] 29))
  have k1 := Blk.new w #[.slice na nn nc, .slice sa sn sc, .slice ba bn bc, .slice ga gn gc, .slice la ln lc, .slice ta tn tc] 29
  have x0 : (w.alloc (.cells #[.slice na nn nc, .slice sa sn sc, .slice ba bn bc, .slice ga gn gc, .slice la ln lc, .slice ta tn tc] 29)).cell? ⟨w.heap.size, 0, none⟩ = some (.slice na nn nc) := k1.cell 0 rfl
  have lw : w.heap.size < (w.alloc (.cells #[.slice na nn nc, .slice sa sn sc, .slice ba bn bc, .slice ga gn gc, .slice la ln lc, .slice ta tn tc] 29)).heap.size := k1.lt
  clear k1
  generalize w.alloc (.cells #[.slice na nn nc, .slice sa sn sc, .slice ba bn bc, .slice ga gn gc, .slice la ln lc, .slice ta tn tc] 29) = W1 at *
  go_loopw [9] (fun i wr => ∃ k : Nat, k ≤ m ∧ i = .int .i64 k ∧ Hid (E = if (ls.drop k).all (fun s => hasS s nl) = true then 0 else 6) ∧ W1 = wr) (fun i _ => m - (intOf i).toNat)
  case atStart => exact ⟨0, Nat.zero_le _, rfl, HE, rfl⟩
  case round =>
    obtain ⟨k, hk, rfl, he, rfl⟩ := hrel
    by_cases hlt : k < m
    · obtain ⟨b, off, cap', hvv, _, _, hbl, hc⟩ := HL.out.addr (by omega)
      simp only [Value.slice.injEq] at hvv
      obtain ⟨rfl, _, rfl⟩ := hvv
      have hlk : k < ls.length := by rw [HM.out]; exact hlt
      have y0 := hc k _ (strs_get hlk)
      rw [← B0.out.cell (by exact hbl)] at y0
      have hd := he.out
      rw [all_drop hlk] at hd
      have HCk := Lib.hid (HC.out (ls.getD k ByteArray.empty) W1 B0.out)
      generalize ls.getD k ByteArray.empty = s at *
      have HD := Lib.hid hd
      clear hd hc he
      cases hh : hasS s nl
      · have HR : Hid (E = 6) := by show _ = _; rw [HD.out, hh]; rfl
        rw [hh] at HCk
        clear hh HD
        go_wp2_with fail
        refine HCk.out.mono ?_; rintro e w2 ⟨rfl, rfl⟩
        go_wp2_with fail
        go_ret
        exact ⟨by rw [HR.out]; rfl, B0.out⟩
      · have HR : Hid (E = if (ls.drop (k + 1)).all (fun s => hasS s nl) = true then 0 else 6) := by show _ = _; rw [HD.out, hh, Bool.true_and]
        rw [hh] at HCk
        clear hh HD
        go_wp2_with fail
        refine HCk.out.mono ?_; rintro e w2 ⟨rfl, rfl⟩
        go_wp2_with fail
        go_roundw
        case rel => exact ⟨k + 1, by omega, by go_num, HR, by first | rfl | trivial⟩
        case measure => simp [intOf]; omega
    · have hkn : ls.drop k = [] := List.drop_eq_nil_of_le (by rw [HM.out]; omega)
      have HX : Hid (E = 0) := by show _ = _; rw [he.out, hkn]; rfl
      clear he hkn
      go_wp2_with fail
      go_ret
      exact ⟨by rw [HX.out]; rfl, B0.out⟩

/-- What device does. -/
def deviceE (nl met : List ByteArray) (s : ByteArray) (ls : List ByteArray) : Int := if (addR met s).1 ≠ 0 then (addR met s).1 else endsE nl ls

theorem Reads.low {b n c : Nat} {a : Option Addr} {w w' : World} {cs : List Value} (h : Reads w (.slice a n c) n cs) (ha : cs ≠ [] → ∀ x, a = some x → x.block < b) (k : Below b w w') : Reads w' (.slice a n c) n cs := by
  rcases h with h | ⟨g, off, cap, h1, h2, h3, h4, h5⟩
  · exact Or.inl h
  · cases h1
    exact Or.inr ⟨g, off, c, rfl, h2, h3, Nat.lt_of_lt_of_le h4 k.size, fun j u hj => by rw [k.cell (by have := ha (fun h => by rw [h] at hj; cases hj) ⟨g, off, none⟩ rfl; exact this)]; exact h5 j u hj⟩
theorem Reads.same {g n c : Nat} {w w' : World} {cs : List Value} (h : Reads w (.slice (some ⟨g, 0, none⟩) n c) n cs) (hg : w'.heap[g]? = w.heap[g]?) (hs : w.heap.size ≤ w'.heap.size) : Reads w' (.slice (some ⟨g, 0, none⟩) n c) n cs := by
  rcases h with h | ⟨g', off, cap, h1, h2, h3, h4, h5⟩
  · exact Or.inl h
  · cases h1
    exact Or.inr ⟨g, 0, c, rfl, h2, h3, Nat.lt_of_lt_of_le h4 hs, fun j u hj => by rw [World.cell?_of_block (w := w) hg]; exact h5 j u hj⟩
theorem Reads.at_lt {g n c : Nat} {w : World} {cs : List Value} (h : Reads w (.slice (some ⟨g, 0, none⟩) n c) n cs) (hn : 0 < n) : g < w.heap.size := by
  obtain ⟨g', off, cap, h1, _, _, h4, _⟩ := h.addr hn
  cases h1; exact h4
theorem NS.own_lt {b : Nat} {met : List ByteArray} {W : World} (h : NS b met W) : ∀ lv, Blk W b #[lv] 142 → ∀ j, lv.ownBlock = some j → j < W.heap.size := by
  obtain ⟨lv0, h1, h2, h3⟩ := h
  intro lv hl j hj
  have e : lv = lv0 := by
    unfold Blk at h1 hl
    rw [h1] at hl
    injection hl with hl; injection hl with hl; simpa using hl.symm
  subst e
  rcases h2.2 with ⟨rfl, _⟩ | ⟨g, cap, cur, rfl, _, hh, _⟩
  · cases hj
  · have : g = j := Option.some.inj hj
    rw [← this]; exact (Array.getElem?_eq_some_iff.1 hh).1

theorem Frame.before {b : Nat} {W w1 w2 : World} (k : Frame b W w1) (hs : W.heap.size ≤ w1.heap.size) (h : Below w1.heap.size w1 w2) : Frame b W w2 := fun j hj h1 h2 => by
  rw [h.block j (Nat.lt_of_lt_of_le hj hs), k j hj h1 h2]

set_option maxHeartbeats 1000000 in
theorem device_c (na : Option Addr) (nn nc : Nat) (sa : Option Addr) (sn sc : Nat) (ba : Option Addr) (bn bc : Nat) (ga : Option Addr) (gn gc : Nat) (la : Option Addr) (ln lc : Nat) (ta : Option Addr) (tn tc : Nat)
    (nl met ls : List ByteArray) (s : ByteArray) (b g mm cc : Nat) (w : World) (hn : nl.length = nn) (hnl : Reads w (.slice na nn nc) nn (strs nl)) (hnb : strs nl ≠ [] → ∀ x, na = some x → x.block < b)
    (hlm : ls.length = mm) (hm1 : 0 < mm) (hls : Reads w (.slice (some ⟨g, 0, none⟩) mm cc) mm (strs ls)) (hg1 : g ≠ b) (hg2 : ∀ lv, Blk w b #[lv] 142 → lv.ownBlock ≠ some g)
    (hs : s.size ≤ 9223372036854775807) (hm : met.length ≤ 1000) (h : NS b met w) :
    Calls Try.prog 81 #[netV na nn nc sa sn sc ba bn bc ga gn gc la ln lc ta tn tc, .pointer (some ⟨b, 0, none⟩), .string s, .slice (some ⟨g, 0, none⟩) mm cc] w fun e w' =>
      e = .returned (.int .i64 (deviceE nl met s ls)) ∧ NS b (addR met s).2 w' ∧ Below b w w' ∧ Frame b w w' := by
  have hb : b < w.heap.size := by obtain ⟨_, _, _, h⟩ := h; omega
  have H : Hid (deviceE nl met s ls = if (addR met s).1 ≠ 0 then (addR met s).1 else endsE nl ls) := rfl
  generalize deviceE nl met s ls = E at *
  generalize hW1 : w.alloc (.cells #[.slice na nn nc, .slice sa sn sc, .slice ba bn bc, .slice ga gn gc, .slice la ln lc, .slice ta tn tc] 29) = W1
  have k1 : Blk W1 w.heap.size #[.slice na nn nc, .slice sa sn sc, .slice ba bn bc, .slice ga gn gc, .slice la ln lc, .slice ta tn tc] 29 := by rw [← hW1]; exact Blk.new _ _ _
  have B1 : Below w.heap.size w W1 := by rw [← hW1]; exact belowA (Below.refl _ w) _
  have HA := Lib.hid (add_c b met s hs hm W1 (h.below B1))
  have hgl := hls.at_lt hm1
  have up : ∀ lv, Blk W1 b #[lv] 142 → Blk w b #[lv] 142 := fun lv hl => by unfold Blk at hl ⊢; rw [← B1.block b hb]; exact hl
  have F : Hid (∀ w2, Below b W1 w2 → Frame b W1 w2 → Blk w2 w.heap.size #[.slice na nn nc, .slice sa sn sc, .slice ba bn bc, .slice ga gn gc, .slice la ln lc, .slice ta tn tc] 29 ∧
      Reads w2 (.slice na nn nc) nn (strs nl) ∧ Reads w2 (.slice (some ⟨g, 0, none⟩) mm cc) mm (strs ls) ∧ Below b w w2 ∧ Frame b w w2) := fun w2 hb2 hf => by
    have e1 := hf w.heap.size k1.lt (by omega) (fun lv hl e => absurd (h.own_lt lv (up lv hl) _ e) (Nat.lt_irrefl _))
    have e2 := hf g (Nat.lt_of_lt_of_le hgl B1.size) hg1 (fun lv hl => hg2 lv (up lv hl))
    exact ⟨by unfold Blk at k1 ⊢; rw [e1]; exact k1, (hnl.below B1).low hnb hb2, (hls.below B1).same e2 hb2.size, (B1.mono (Nat.le_of_lt hb)).trans hb2, Frame.after B1 hb hf⟩
  clear hls hnl h up B1 k1 hg2
  generalize addR met s = P at *
  obtain ⟨pc, pm⟩ := P
  simp only at HA H ⊢
  go_enter Try.func81, Try.ntmps81
  go_wp2_with fail
  refine HA.out.mono ?_; rintro e w2 ⟨rfl, hns, hb2, hf⟩
  obtain ⟨k2, hr1, hr2, hbw, hfw⟩ := F.out w2 hb2 hf
  have HFW := Lib.hid hfw
  have HNS := Lib.hid hns
  have HBW := Lib.hid hbw
  clear hns hbw hf hfw HA F hW1
  by_cases hp : pc = 0
  · have g1 : (pc != 0) = false := by simp [hp]
    have HR := Lib.hid (H.out.trans (if_neg (fun h => h hp)))
    have HEn := Lib.hid (ends_c na nn nc sa sn sc ba bn bc ga gn gc la ln lc ta tn tc nl ls (.slice (some ⟨g, 0, none⟩) mm cc) w2 hn hr1 (by show Reads _ _ _ _; rw [hlm]; exact hr2))
    have x0 := k2.cell 0 rfl
    have x1 := k2.cell 1 rfl
    have x2 := k2.cell 2 rfl
    have x3 := k2.cell 3 rfl
    have x4 := k2.cell 4 rfl
    have x5 := k2.cell 5 rfl
    clear hp H k2 hr1 hr2
    go_wp2_with fail
    refine HEn.out.mono ?_; rintro e w3 ⟨rfl, b3⟩
    have B3 := Lib.hid b3
    clear b3 HEn
    go_wp2_with fail
    go_ret
    exact ⟨by rw [HR.out]; rfl, HNS.out.below B3.out, HBW.out.trans (B3.out.mono (Nat.le_trans (Nat.le_of_lt hb) HBW.out.size)), HFW.out.before HBW.out.size B3.out⟩
  · have g1 : (pc != 0) = true := by simp [hp]
    have HR := Lib.hid (H.out.trans (if_pos hp))
    clear hp H k2 hr1 hr2
    go_wp2_with fail
    go_ret
    exact ⟨by rw [HR.out]; rfl, HNS.out, HBW.out, HFW.out⟩
end Go.Proofs.Ytplebibabcdipaa
