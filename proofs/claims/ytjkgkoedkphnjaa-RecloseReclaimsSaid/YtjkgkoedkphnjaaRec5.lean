/- reclose.Shots. -/
import Derived.Test.YtjkgkoedkphnjaaRec4
namespace Go.Proofs.Ytjkgkoedkphnjaa
open Go.RowKit

theorem row_kept {W W' : World} {base b : Nat} {e : TypeId} {sz n : Nat} {v : Value} {xs : List Value} (h : W.ownsRow base e sz v n xs) (k : W.grownBy W' (some b)) (hb : b < base) : W'.ownsRow base e sz v n xs :=
  h.kept k (by
    rcases h.2 with ⟨rfl, _⟩ | ⟨g, cap, cur, rfl, hg, _⟩
    · exact .inl rfl
    · exact .inr (fun e => by have : g = b := Option.some.inj e; omega))
theorem row_own {W : World} {base : Nat} {e : TypeId} {sz n : Nat} {v : Value} {xs : List Value} (h : W.ownsRow base e sz v n xs) : ∀ j, v.ownBlock = some j → base ≤ j := by
  intro j hj
  rcases h.2 with ⟨rfl, _⟩ | ⟨g, cap, cur, rfl, hg, _⟩
  · cases hj
  · have : g = j := Option.some.inj hj
    omega

theorem row_succ {W : World} {base : Nat} {e : TypeId} {size : Nat} {v : Value} {k : Nat} {xs : List Value} (h : W.ownsRow base e size v (k + 1) xs) : ∃ g cap, v = .slice (some ⟨g, 0, none⟩) (k + 1) cap := by
  rcases h.2 with ⟨_, h0⟩ | ⟨g, cap, _, rfl, _⟩
  · omega
  · exact ⟨g, cap, rfl⟩

/-- What the closure of Shots does. -/
def stepP (s : RS) (out : List Int) (before : Int) : RS × List Int := if s.state = 1 ∧ s.til < before then ((s.tick s.til).2.2, out ++ [s.til]) else (s, out)

/-- The state of Shots. -/
structure SI (w0 : World) (N b : Nat) (l : List Int) (s : RS) (out : List Int) (outv : Value) (W : World) : Prop where
  dev : RDev N b l s W
  wt : s.Wait l
  x : W.cell? ⟨N, 0, none⟩ = some (.pointer (some ⟨b, 0, none⟩))
  o : Blk W (N + 1) #[outv] 39
  row : W.ownsRow (N + 2) 3 1 outv out.length (ints out)
  sz : N + 2 ≤ W.heap.size
  bel : Below w0.heap.size w0 W
  b0 : w0.heap.size ≤ b
theorem RDev.lt {N b : Nat} {l : List Int} {s : RS} {w : World} (h : RDev N b l s w) : b < N := by obtain ⟨_, _, _, _, _, h, _⟩ := h; exact h
theorem RDev.le {N b : Nat} {l : List Int} {s : RS} {w : World} (h : RDev N b l s w) : N ≤ w.heap.size := by obtain ⟨_, _, _, _, _, _, _, h, _⟩ := h; exact h
theorem RDev.ok {N b : Nat} {l : List Int} {s : RS} {w : World} (h : RDev N b l s w) : s.Ok l := by obtain ⟨_, _, _, _, _, _, _, _, _, _, h⟩ := h; exact h
theorem SI.but {w0 : World} {N b : Nat} {l : List Int} {s s' : RS} {out : List Int} {outv : Value} {W W' : World} (h : SI w0 N b l s out outv W) (k : RGo N b l s' W W') (hw : s'.Wait l) : SI w0 N b l s' out outv W' := by
  have hb := h.dev.lt
  have hs := h.sz
  refine ⟨k.1, hw, ?_, k.2.blk h.o (by omega), row_kept h.row k.2 (by omega), Nat.le_trans hs k.2.size, But.below h.bel k.2 h.b0 (Nat.le_refl _), h.b0⟩
  rw [World.cell?_of_block (w := W) (k.2.block N (by omega) (fun e => by have : N = b := Option.some.inj e; omega))]; exact h.x
theorem SI.laid {w0 : World} {N b : Nat} {l : List Int} {s : RS} {out : List Int} {outv : Value} {W : World} (h : SI w0 N b l s out outv W) (o : Obj) : (W.alloc o).ownsRow (N + 2) 3 1 outv out.length (ints out) :=
  h.row.kept (World.grownBy_alloc _ _ none) (by
    rcases h.row.2 with ⟨e, _⟩ | ⟨g, cap, cur, e, _⟩
    · exact .inl (by rw [e]; rfl)
    · exact .inr (fun k => by rw [e] at k; cases k))
theorem SI.box {w0 : World} {N b : Nat} {l : List Int} {s : RS} {out : List Int} {outv : Value} {W w3 : World} {o : Obj} (h : SI w0 N b l s out outv W) (hgrow : (W.alloc o).grownBy w3 outv.ownBlock) : Blk w3 (N + 1) #[outv] 39 :=
  below_blk (Below.grown ((Below.refl (N + 2) W).alloc h.sz _) hgrow (by have := h.sz; simp; omega) (row_own h.row)) h.o (by omega)
theorem SI.push {w0 : World} {N b : Nat} {l : List Int} {s : RS} {out : List Int} {outv : Value} {W w3 : World} {v' : Value} {at_ : Int} (h : SI w0 N b l s out outv W)
    (hown' : w3.ownsRow (N + 2) 3 1 v' (out.length + 1) (ints out ++ [.int .i64 at_])) (hgrow : (W.alloc (.cells #[.int .i64 at_] 3)).grownBy w3 outv.ownBlock) :
    SI w0 N b l s (out ++ [at_]) v' (w3.setCell ⟨N + 1, 0, none⟩ v') := by
  have hb := h.dev.lt
  have hs := h.sz
  have h0 := h.b0
  have hN := h.dev.le
  have k1 : Below (N + 2) W w3 := Below.grown ((Below.refl (N + 2) W).alloc hs _) hgrow (by simp; omega) (row_own h.row)
  have k2 : But (N + 1) w3 (w3.setCell ⟨N + 1, 0, none⟩ v') := (But.refl _ _).set 0 _
  have k3 : ∀ B, B ≤ N + 1 → Below B W (w3.setCell ⟨N + 1, 0, none⟩ v') := fun B hB => But.below (k1.mono (by omega)) k2 hB (by omega)
  refine ⟨h.dev.below (k3 N (by omega)), h.wt, ?_, ?_, ?_, Nat.le_trans hs (k3 0 (by omega)).size, ?_, h0⟩
  · rw [(k3 (N + 1) (Nat.le_refl _)).cell (by show N < N + 1; omega)]; exact h.x
  · exact ((below_blk k1 h.o (by omega)).set 0 _).congr (by simp)
  · have := row_kept hown' k2 (by omega)
    simpa [ints] using this
  · exact h.bel.trans (k3 _ (by omega))

set_option maxHeartbeats 2000000 in
theorem attempt_c (w0 : World) (N b : Nat) (l : List Int) (s : RS) (out : List Int) (outv : Value) (before : Int) (W : World) (hi : SI w0 N b l s out outv W) (hl : out.length ≤ 1000) :
    Calls Try.prog 47 #[.int .i64 before, .pointer (some ⟨N, 0, none⟩), .pointer (some ⟨N + 1, 0, none⟩)] W fun e w' => e = .returned (.tuple #[]) ∧ ∃ outv', SI w0 N b l (stepP s out before).1 (stepP s out before).2 outv' w' := by
  have HI := Lib.hid hi
  have x0 := hi.x
  have o0 := hi.o.cell 0 rfl
  have fo := hi.o.free 0
  have lN := hi.sz
  have hdev := hi.dev
  obtain ⟨g, off, cap, hb, _⟩ := hdev
  have HN := Lib.hid (rnext_c _ s b W hb)
  have HT := Lib.hid (rtick_c N b l s s.til W hi.dev hi.wt)
  have HK : Hid (∀ w', RGo N b l (s.tick s.til).2.2 W w' → SI w0 N b l (s.tick s.til).2.2 out outv w') := fun w' hk => hi.but hk (RS.tick_wait hi.wt _)
  have H : Hid (stepP s out before = if s.state = 1 ∧ s.til < before then ((s.tick s.til).2.2, out ++ [s.til]) else (s, out)) := rfl
  obtain ⟨i0, hi0, hz0, hz1, hz2⟩ := info_parts infoInt
  obtain ⟨av, ac, rfl⟩ : ∃ a c, outv = .slice a out.length c := by
    rcases hi.row.2 with ⟨rfl, h0⟩ | ⟨g, cap, cur, rfl, _⟩
    · exact ⟨none, 0, by rw [h0]⟩
    · exact ⟨_, cap, rfl⟩
  obtain ⟨m, hm⟩ : ∃ m, out.length = m := ⟨_, rfl⟩
  have HM := Lib.hid hm
  rw [hm] at o0 hl HI HK
  clear hi hb
  generalize stepP s out before = R at *
  by_cases h1 : s.state = 1
  · have g1 : (s.state == 1) = true := by simp [h1]
    rw [if_pos h1, g1] at HN
    by_cases h2 : s.til < before
    · have HR := Lib.hid (H.out.trans (if_pos ⟨h1, h2⟩))
      generalize s.tick s.til = T at *
      generalize hu : s.til = til at *
      clear H h1 g1 hu
      go_enter Try.func47, Try.ntmps47
      go_wp2_with fail
      refine HN.out.mono ?_; rintro e w1 ⟨rfl, rfl⟩
      go_wp2_with fail
      refine HT.out.mono ?_; rintro e w1 ⟨rfl, hk⟩
      have H1 := HK.out _ hk
      clear hk x0 o0 fo HN HT HK
      have x0 := H1.x
      have o0 := H1.o.cell 0 rfl
      have lN1 := H1.sz
      have HS1 := Lib.hid H1
      clear H1
      have HL : Hid ((w1.alloc (.cells #[.int .i64 til] 3)).ownsRow (N + 2) 3 1 (.slice av m ac) m (ints out)) := by
        have := HS1.out.laid (.cells #[.int .i64 til] 3); rw [HM.out] at this; exact this
      go_wp2_with (at_builtin; refine wpList_append_own _ rfl _ _ 39 rfl (N + 2) 3 i0 (.int .i64 0) 1 8 Try.underlying39 hi0 hz0 hz1 hz2 rfl (by decide) _ m (ints out) rfl HL.out ⟨w1.heap.size, 0, none⟩ 1 1 [.int .i64 til] rfl rfl (cell_one_new _ _ _) (ints_one [til]) (by unfold maxLen; omega) (by omega) (by simp; omega) ?_; intro v' w3 hown' hgrow3 hnil3; obtain ⟨g3, cap3, rfl⟩ := row_succ hown'; have z0 := (HS1.out.box hgrow3).cell 0 rfl; have zf := (HS1.out.box hgrow3).free 0; have HOW := Lib.hid hown'; have HGR := Lib.hid hgrow3; clear hown' hgrow3 hnil3 o0)
      go_end0
      rw [HR.out]
      exact ⟨rfl, _, SI.push HS1.out (by rw [HM.out]; exact HOW.out) HGR.out⟩
    · have HR := Lib.hid (H.out.trans (if_neg (fun h => h2 h.2)))
      generalize hu : s.til = til at *
      clear H h1 g1 hu
      go_enter Try.func47, Try.ntmps47
      go_wp2_with fail
      refine HN.out.mono ?_; rintro e w1 ⟨rfl, rfl⟩
      go_wp2_with fail
      go_end0
      rw [HR.out]
      exact ⟨rfl, _, HI.out⟩
  · have g1 : (s.state == 1) = false := by simp [h1]
    rw [if_neg h1, g1] at HN
    have HR := Lib.hid (H.out.trans (if_neg (fun h => h1 h.1)))
    clear H h1 g1
    go_enter Try.func47, Try.ntmps47
    go_wp2_with fail
    refine HN.out.mono ?_; rintro e w1 ⟨rfl, rfl⟩
    go_wp2_with fail
    go_end0
    rw [HR.out]
    exact ⟨rfl, _, HI.out⟩
end Go.Proofs.Ytjkgkoedkphnjaa
