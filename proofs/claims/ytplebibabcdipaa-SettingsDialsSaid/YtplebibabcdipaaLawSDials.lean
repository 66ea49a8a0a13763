/- SettingsDials: the walk of the law. -/
import Derived.Test.YtplebibabcdipaaSetP
import Derived.Test.YtplebibabcdipaaSetO
import Derived.Deep.CutRange
namespace Go.Proofs.Ytplebibabcdipaa
open Go.RowKit

/-- What the law's variables hold: both relays, the margin, the range. -/
structure SDEnv (a b : CRA) (m lo hi : Int) (p : Nat) (w W : World) : Prop where
  below : Below w.heap.size w W
  x0 : Blk W p a.cells.toArray 56
  x1 : Blk W (p + 1) b.cells.toArray 56
  x2 : Blk W (p + 1 + 1) #[.int .i64 m] 3
  x3 : Blk W (p + 1 + 1 + 1) #[.int .i64 lo] 3
  x4 : Blk W (p + 1 + 1 + 1 + 1) #[.int .i64 hi] 3
theorem SDEnv.go {a b : CRA} {m lo hi : Int} {p : Nat} {w W W' : World} (h : SDEnv a b m lo hi p w W) (k : Below W.heap.size W W') : SDEnv a b m lo hi p w W' :=
  ⟨belowT h.below k, below_blk k h.x0 h.x0.lt, below_blk k h.x1 h.x1.lt, below_blk k h.x2 h.x2.lt, below_blk k h.x3 h.x3.lt, below_blk k h.x4 h.x4.lt⟩

set_option maxHeartbeats 4000000 in
theorem confD_c (a b : CRA) (m lo hi d : Int) (p : Nat) (w W : World) (ha : PVal w (.slice a.ca a.cl a.cc) a.pts) (hb : PVal w (.slice b.ca b.cl b.cc) b.pts) (h : SDEnv a b m lo hi p w W) :
    Calls Try.prog 23 #[.int .i64 d, .pointer (some ⟨p + 1, 0, none⟩), .pointer (some ⟨p, 0, none⟩), .pointer (some ⟨p + 1 + 1, 0, none⟩), .pointer (some ⟨p + 1 + 1 + 1, 0, none⟩), .pointer (some ⟨p + 1 + 1 + 1 + 1, 0, none⟩)] W fun e w' => e = .returned (.int .i64 (confD a b m lo hi d)) ∧ Below W.heap.size W w' := by
  have HE : Hid (confD a b m lo hi d = if b.pts.scaleE d ≠ 0 then b.pts.scaleE d else (conflictR a.pts a.pk (b.pts.scaled d) b.pk m lo hi).2) := rfl
  have HS := Lib.hid (scale_c _ b.pts d W (hb.below h.below))
  have HCN : Hid (∀ vb W', Below W.heap.size W W' → PVal W' vb (b.pts.scaled d) → Calls Try.prog 25 #[.slice a.ca a.cl a.cc, .int .i64 a.pk, vb, .int .i64 b.pk, .int .i64 m, .int .i64 lo, .int .i64 hi] W' fun e w' => e = .returned (two (conflictR a.pts a.pk (b.pts.scaled d) b.pk m lo hi)) ∧ Below W'.heap.size W' w') := fun vb W' hW hv =>
    conflict_c _ vb a.pts (b.pts.scaled d) a.pk b.pk m lo hi W' (ha.below (belowT h.below hW)) hv
  generalize confD a b m lo hi d = E at *
  generalize conflictR a.pts a.pk (b.pts.scaled d) b.pk m lo hi = C at *
  obtain ⟨abk, abr, and', aca, acl, acc, apts, apk, aop⟩ := a
  obtain ⟨bbk, bbr, bnd, bca, bcl, bcc, bpts, bpk, bop⟩ := b
  simp only at HS HCN HE
  have HH := Lib.hid h
  have y3 := h.x1.cell 3 rfl
  clear h ha hb
  obtain ⟨SE, hSE⟩ : ∃ c, bpts.scaleE d = c := ⟨_, rfl⟩
  have HSE := Lib.hid hSE
  rw [hSE] at HE
  clear hSE
  go_enter Try.func23, Try.ntmps23
  go_wp2_with fail
  refine HS.out.mono ?_; rintro e w2 ⟨v, rfl, hb2, hv0, hv1⟩
  rw [HSE.out] at hv0 hv1 ⊢
  have B2 := Lib.hid hb2
  have H2 := Lib.hid (HH.out.go hb2)
  clear hb2 hv0 HS y3 HH
  by_cases hs : SE = 0
  ·
    have g1 : (SE != 0) = false := by simp [hs]
    have HR := Lib.hid (HE.out.trans (if_neg (fun h => h hs)))
    have HC := Lib.hid (HCN.out v w2 B2.out (hv1 hs))
    have HTW : Hid (two C = .tuple #[.int .i64 C.1, .int .i64 C.2]) := rfl
    rw [HTW.out] at HC
    have z3 := H2.out.x0.cell 3 rfl
    have z4 := H2.out.x0.cell 4 rfl
    have y4 := H2.out.x1.cell 4 rfl
    have m0 := H2.out.x2.cell 0 rfl
    have l0 := H2.out.x3.cell 0 rfl
    have h0 := H2.out.x4.cell 0 rfl
    clear hs hv1 HE HCN H2
    go_wp2_with fail
    refine HC.out.mono ?_; rintro e w3 ⟨rfl, hb3⟩
    have B3 := Lib.hid (belowT B2.out hb3)
    clear hb3
    go_wp2_with fail
    go_ret
    exact ⟨by rw [HR.out]; rfl, B3.out⟩
  ·
    have g1 : (SE != 0) = true := by simp [hs]
    have HR := Lib.hid (HE.out.trans (if_pos hs))
    clear hs hv1 HE
    go_wp2_with fail
    go_ret
    exact ⟨by rw [HR.out]; rfl, B2.out⟩

set_option maxHeartbeats 8000000 in
set_option maxRecDepth 100000 in
theorem settingsDials_c (a b : CRA) (m lo hi : Int) (w : World) (ha : PVal w (.slice a.ca a.cl a.cc) a.pts) (hb : PVal w (.slice b.ca b.cl b.cc) b.pts) :
    Calls Try.prog 7 #[.agg a.cells.toArray, .agg b.cells.toArray, .int .i64 m, .int .i64 lo, .int .i64 hi] w fun e w' => e = .returned (.bool true) ∧ Below w.heap.size w w' := by
  have HCF := Lib.hid (fun h d W (hW : SDEnv a b m lo h w.heap.size w W) => confD_c a b m lo h d w.heap.size w W ha hb hW)
  have HDI := Lib.hid (fun h W (hW : Below w.heap.size w W) => dial_c a b m lo h W (ha.below hW) (hb.below hW))
  have HOK := Lib.hid (fun h => @dial_ok a b m lo h)
  have HZR := Lib.hid (fun h => @dial_zero a b m lo h)
  have HEN : Hid (SDEnv a b m lo hi w.heap.size w (((((w.alloc (.cells a.cells.toArray 56)).alloc (.cells b.cells.toArray 56)).alloc (.cells #[.int .i64 m] 3)).alloc (.cells #[.int .i64 lo] 3)).alloc (.cells #[.int .i64 hi] 3))) := by
    refine ⟨belowA (belowA (belowA (belowA (belowA (Below.refl _ _) _) _) _) _) _, ?_, ?_, ?_, ?_, ?_⟩
    · exact ((((Blk.new w _ _).alloc _).alloc _).alloc _).alloc _
    · exact (((Blk.new2 w _ _ _).alloc _).alloc _).alloc _
    · have := Blk.new2 (w.alloc (.cells a.cells.toArray 56)) (.cells b.cells.toArray 56) #[.int .i64 m] 3
      rw [World.size_alloc] at this
      exact (this.alloc _).alloc _
    · have := Blk.new2 ((w.alloc (.cells a.cells.toArray 56)).alloc (.cells b.cells.toArray 56)) (.cells #[.int .i64 m] 3) #[.int .i64 lo] 3
      rw [World.size_alloc, World.size_alloc] at this
      exact this.alloc _
    · have := Blk.new2 (((w.alloc (.cells a.cells.toArray 56)).alloc (.cells b.cells.toArray 56)).alloc (.cells #[.int .i64 m] 3)) (.cells #[.int .i64 lo] 3) #[.int .i64 hi] 3
      rw [World.size_alloc, World.size_alloc, World.size_alloc] at this
      exact this
  obtain ⟨DE, hDE⟩ : ∃ f, dialE a b m lo = f := ⟨_, rfl⟩
  obtain ⟨CE, hCE⟩ : ∃ f, confD a b m lo = f := ⟨_, rfl⟩
  have HCC : Hid (∀ h d, b.pts.scaleE d = 0 → (conflictR a.pts a.pk (b.pts.scaled d) b.pk m lo h).2 = 8 → CE h d = 8) := fun h d h1 h2 => by
    rw [← hCE]; unfold confD; rw [if_neg (fun h => h h1)]; exact h2
  rw [hDE] at HDI HOK HZR
  rw [hCE] at HCF HOK
  clear hDE hCE ha hb
  obtain ⟨abk, abr, and', aca, acl, acc, apts, apk, aop⟩ := a
  obtain ⟨bbk, bbr, bnd, bca, bcl, bcc, bpts, bpk, bop⟩ := b
  obtain ⟨p, hp⟩ : ∃ x, w.heap.size = x := ⟨_, rfl⟩
  have HP := Lib.hid hp
  rw [hp] at HCF HEN
  clear hp
  have HAA : Hid ((CRA.cells ⟨abk, abr, and', aca, acl, acc, apts, apk, aop⟩).toArray = #[.string abk, .string abr, .string and', .slice aca acl acc, .int .i64 apk, .int .i64 aop]) := rfl
  have HBA : Hid ((CRA.cells ⟨bbk, bbr, bnd, bca, bcl, bcc, bpts, bpk, bop⟩).toArray = #[.string bbk, .string bbr, .string bnd, .slice bca bcl bcc, .int .i64 bpk, .int .i64 bop]) := rfl
  rw [HAA.out, HBA.out] at HEN HDI
  simp only at HEN HDI HOK HCC
  rw [HAA.out, HBA.out]
  go_enter Try.func7, Try.ntmps7
  go_upto_region 1 with fail
  rw [HP.out]
  generalize ((((w.alloc (.cells #[.string abk, .string abr, .string and', .slice aca acl acc, .int .i64 apk, .int .i64 aop] 56)).alloc (.cells #[.string bbk, .string bbr, .string bnd, .slice bca bcl bcc, .int .i64 bpk, .int .i64 bop] 56)).alloc (.cells #[.int .i64 m] 3)).alloc (.cells #[.int .i64 lo] 3)).alloc (.cells #[.int .i64 hi] 3) = W5 at *
  go_wp2_with fail
  refine (settingsWorks_c W5).mono ?_; rintro e w6 ⟨rfl, hb6⟩
  have HE6 := Lib.hid (HEN.out.go hb6)
  clear hb6 HEN
  have l0 := HE6.out.x3.cell 0 rfl
  have h0 := HE6.out.x4.cell 0 rfl
  have hf := HE6.out.x4.free 0
  go_upto_region 3 with fail
  go_cut [27] from 16 to 27 (fun s wx => ∃ c : Bool, s = .bool c ∧ w6 = wx)
  case first =>
    go_wp2_with fail
    all_goals
      go_meet
      exact ⟨_, rfl, rfl⟩
  case rest =>
    obtain ⟨c, rfl, rfl⟩ := hcut
    cases c
    ·
      go_upto_region 5 with fail
      have HQ := HE6
      clear HE6 l0 h0 hf
      have q0 := HQ.out.x0.cell 0 rfl
      have q1 := HQ.out.x0.cell 1 rfl
      have q2 := HQ.out.x0.cell 2 rfl
      have q3 := HQ.out.x0.cell 3 rfl
      have q4 := HQ.out.x0.cell 4 rfl
      have q5 := HQ.out.x0.cell 5 rfl
      have r0 := HQ.out.x1.cell 0 rfl
      have r1 := HQ.out.x1.cell 1 rfl
      have r2 := HQ.out.x1.cell 2 rfl
      have r3 := HQ.out.x1.cell 3 rfl
      have r4 := HQ.out.x1.cell 4 rfl
      have r5 := HQ.out.x1.cell 5 rfl
      have t2 := HQ.out.x2.cell 0 rfl
      have t3 := HQ.out.x3.cell 0 rfl
      have t4 := HQ.out.x4.cell 0 rfl
      have HD := Lib.hid (HDI.out hi w6 HQ.out.below)
      have HO := Lib.hid (HOK.out hi)
      have HZ := Lib.hid (HZR.out hi)
      have HC := Lib.hid (HCC.out hi)
      have HF := Lib.hid (HCF.out hi)
      generalize DE hi = D at *
      generalize CE hi = C at *
      obtain ⟨d, e⟩ := D
      simp only at HD HO HZ
      go_wp2_with fail
      refine HD.out.mono ?_; rintro ee w7 ⟨rfl, hb7⟩
      have H7 := Lib.hid (HQ.out.go hb7)
      clear hb7 HD HQ q0 q1 q2 q3 q4 q5 r0 r1 r2 r3 r4 r5 t2 t3 t4
      by_cases he : e = 0
      ·
        have g1 : (e != 0) = false := by simp [he]
        obtain ⟨d1, d2, d3, d4, d5⟩ := HO.out he
        have h8 := HC.out d d3 d4
        have D5 := Lib.hid d5
        have HF1 := Lib.hid (HF.out d w7 H7.out)
        rw [h8] at HF1
        have g2 : decide (1 ≤ d) = true := decide_eq_true d1
        have g3 : decide (d ≤ 10000) = true := decide_eq_true d2
        clear he d3 d4 d5 h8 HO HZ HC
        go_wp2_with fail
        refine HF1.out.mono ?_; rintro ee w8 ⟨rfl, hb8⟩
        have H8 := Lib.hid (H7.out.go hb8)
        clear hb8 HF1 H7
        by_cases h1 : d = 1
        ·
          have g4 : (d == 1) = true := by simp [h1]
          clear D5
          go_wp2_with fail
          go_ret
          exact ⟨rfl, H8.out.below⟩
        ·
          have g4 : (d == 1) = false := by simp [h1]
          have h0 : C (d - 1) = 0 := D5.out.resolve_left h1
          have HF2 := Lib.hid (HF.out (d - 1) w8 H8.out)
          rw [h0] at HF2
          clear D5 h0 h1
          go_wp2_with fail
          refine HF2.out.mono ?_; rintro ee w9 ⟨rfl, hb9⟩
          have H9 := Lib.hid (H8.out.go hb9)
          clear hb9 HF2
          go_wp2_with fail
          go_ret
          exact ⟨rfl, H9.out.below⟩
      ·
        have g1 : (e != 0) = true := by simp [he]
        have hd := HZ.out he
        subst hd
        clear he HO HZ HC
        go_wp2_with fail
        go_ret
        exact ⟨rfl, H7.out.below⟩
    ·
      go_upto_region 5 with fail
      have HQ : Hid (SDEnv ⟨abk, abr, and', aca, acl, acc, apts, apk, aop⟩ ⟨bbk, bbr, bnd, bca, bcl, bcc, bpts, bpk, bop⟩ m lo (wrap64 (lo + 500)) p w (w6.setCell ⟨p + 1 + 1 + 1 + 1, 0, none⟩ (.int .i64 (wrap64 (lo + 500))))) := by
        have h := HE6.out
        refine ⟨h.below.setCell (by have := HP.out; show w.heap.size ≤ p + 1 + 1 + 1 + 1; omega) _, h.x0.setOther _ (by show p ≠ p + 1 + 1 + 1 + 1; omega) _, h.x1.setOther _ (by show p + 1 ≠ p + 1 + 1 + 1 + 1; omega) _, h.x2.setOther _ (by show p + 1 + 1 ≠ p + 1 + 1 + 1 + 1; omega) _, h.x3.setOther _ (by show p + 1 + 1 + 1 ≠ p + 1 + 1 + 1 + 1; omega) _, h.x4.set 0 _⟩
      generalize w6.setCell ⟨p + 1 + 1 + 1 + 1, 0, none⟩ (.int .i64 (wrap64 (lo + 500))) = wq at *
      generalize wrap64 (lo + 500) = h9 at *
      clear HE6 l0 h0 hf
      have q0 := HQ.out.x0.cell 0 rfl
      have q1 := HQ.out.x0.cell 1 rfl
      have q2 := HQ.out.x0.cell 2 rfl
      have q3 := HQ.out.x0.cell 3 rfl
      have q4 := HQ.out.x0.cell 4 rfl
      have q5 := HQ.out.x0.cell 5 rfl
      have r0 := HQ.out.x1.cell 0 rfl
      have r1 := HQ.out.x1.cell 1 rfl
      have r2 := HQ.out.x1.cell 2 rfl
      have r3 := HQ.out.x1.cell 3 rfl
      have r4 := HQ.out.x1.cell 4 rfl
      have r5 := HQ.out.x1.cell 5 rfl
      have t2 := HQ.out.x2.cell 0 rfl
      have t3 := HQ.out.x3.cell 0 rfl
      have t4 := HQ.out.x4.cell 0 rfl
      have HD := Lib.hid (HDI.out h9 wq HQ.out.below)
      have HO := Lib.hid (HOK.out h9)
      have HZ := Lib.hid (HZR.out h9)
      have HC := Lib.hid (HCC.out h9)
      have HF := Lib.hid (HCF.out h9)
      generalize DE h9 = D at *
      generalize CE h9 = C at *
      obtain ⟨d, e⟩ := D
      simp only at HD HO HZ
      go_wp2_with fail
      refine HD.out.mono ?_; rintro ee w7 ⟨rfl, hb7⟩
      have H7 := Lib.hid (HQ.out.go hb7)
      clear hb7 HD HQ q0 q1 q2 q3 q4 q5 r0 r1 r2 r3 r4 r5 t2 t3 t4
      by_cases he : e = 0
      ·
        have g1 : (e != 0) = false := by simp [he]
        obtain ⟨d1, d2, d3, d4, d5⟩ := HO.out he
        have h8 := HC.out d d3 d4
        have D5 := Lib.hid d5
        have HF1 := Lib.hid (HF.out d w7 H7.out)
        rw [h8] at HF1
        have g2 : decide (1 ≤ d) = true := decide_eq_true d1
        have g3 : decide (d ≤ 10000) = true := decide_eq_true d2
        clear he d3 d4 d5 h8 HO HZ HC
        go_wp2_with fail
        refine HF1.out.mono ?_; rintro ee w8 ⟨rfl, hb8⟩
        have H8 := Lib.hid (H7.out.go hb8)
        clear hb8 HF1 H7
        by_cases h1 : d = 1
        ·
          have g4 : (d == 1) = true := by simp [h1]
          clear D5
          go_wp2_with fail
          go_ret
          exact ⟨rfl, H8.out.below⟩
        ·
          have g4 : (d == 1) = false := by simp [h1]
          have h0 : C (d - 1) = 0 := D5.out.resolve_left h1
          have HF2 := Lib.hid (HF.out (d - 1) w8 H8.out)
          rw [h0] at HF2
          clear D5 h0 h1
          go_wp2_with fail
          refine HF2.out.mono ?_; rintro ee w9 ⟨rfl, hb9⟩
          have H9 := Lib.hid (H8.out.go hb9)
          clear hb9 HF2
          go_wp2_with fail
          go_ret
          exact ⟨rfl, H9.out.below⟩
      ·
        have g1 : (e != 0) = true := by simp [he]
        have hd := HZ.out he
        subst hd
        clear he HO HZ HC
        go_wp2_with fail
        go_ret
        exact ⟨rfl, H7.out.below⟩
end Go.Proofs.Ytplebibabcdipaa
