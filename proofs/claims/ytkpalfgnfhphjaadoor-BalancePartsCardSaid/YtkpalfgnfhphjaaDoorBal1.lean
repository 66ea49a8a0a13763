/- balance: check, sums. -/
import Derived.Test.YtkpalfgnfhphjaaDoorRat9
namespace Go.Proofs.YtkpalfgnfhphjaaDoor
open Go.RowKit

theorem results_cell2 {fn : Func} {p u : Tmp} {ty ty2 : TypeId} (h : fn.results = #[.cell p ty, .cell u ty2]) (tmps : Array Value) (P : Program) (w : World) :
    (results fn tmps).run P w =
      ((asAddr (tmps.getD p undef)).run P w).andThen fun a w₁ => ((loadVar ty a).run P w₁).andThen fun v w₂ => ((asAddr (tmps.getD u undef)).run P w₂).andThen fun a2 w₃ => ((loadVar ty2 a2).run P w₃).andThen fun v2 w₄ => .ok (.tuple #[v, v2]) w₄ := by
  simp only [results, h]
  simp [Sem.run_bind, Result.andThen]
/-- A number as a walk wants it. -/
theorem QV.op {w : World} {v : Value} {q : Rat} (h : QV w v q) : ∃ ng na n nc da dl dc, v = .agg #[.bool ng, .slice na n nc, .slice da dl dc] ∧ QC w ng (.slice na n nc) (.slice da dl dc) q := by
  obtain ⟨ng, vn, vd, rfl, h⟩ := h
  obtain ⟨na, nc, da, dl, dc, rfl, rfl, _⟩ := h.parts
  exact ⟨ng, na, _, nc, da, dl, dc, rfl, h⟩
theorem sz_sum (l : List Rat) (h : ∀ q ∈ l, sz q ≤ 2000) : sz (sumQ l) ≤ 1 + 2001 * l.length := by
  induction l with
  | nil => show sz 0 ≤ _; rw [sz_zero]; omega
  | cons q l ih =>
    have h1 := ih (fun x hx => h x (List.mem_cons_of_mem _ hx))
    have h2 := h q (List.mem_cons_self ..)
    have h3 := sz_add q (sumQ l)
    show sz (q + sumQ l) ≤ _
    rw [List.length_cons]; omega
theorem sz_abs (q : Rat) : sz (absQ q) = sz q := by
  unfold absQ
  split
  · exact sz_neg q
  · rfl
/-- The sum of the magnitudes. -/
abbrev sumA (l : List Rat) : Rat := sumQ (l.map absQ)
theorem sumA_take {l : List Rat} {k : Nat} {q : Rat} (h : l[k]? = some q) : sumA (l.take (k + 1)) = sumA (l.take k) + absQ q := by
  unfold sumA
  rw [List.map_take, List.map_take]
  exact sumQ_take (by simp [h])
def checkB (l : List ByteArray) : Int := if 256 < l.length then 2 else allE l
set_option maxHeartbeats 1000000 in
theorem bcheck_c (v : Value) (l : List ByteArray) (w : World) (hv : SVal w v l) (hsz : Hid (∀ s ∈ l, s.size ≤ 9223372036854775807)) :
    Calls Tryd.prog 21 #[v] w fun e w' => e = .returned (.int .i64 (checkB l)) ∧ Below w.heap.size w w' := by
  have HC := Lib.hid (checkAll_c v l w hv hsz)
  obtain ⟨a, cap, rfl⟩ := (show Reads w v l.length (l.map Value.string) from hv).slice
  have hn : l.length ≤ 9223372036854775807 := by
    rcases (show Reads w (.slice a l.length cap) l.length (l.map Value.string) from hv) with ⟨h, _⟩ | ⟨_, _, _, _, _, h, _⟩ <;> omega
  have HE : Hid (checkB l = if 256 < l.length then 2 else allE l) := rfl
  generalize checkB l = E at *
  generalize allE l = A at *
  obtain ⟨n, hN⟩ : ∃ n, l.length = n := ⟨_, rfl⟩
  rw [hN] at HC HE hn ⊢
  clear hN hv hsz
  by_cases hb : 256 < n
  · have g1 : decide (256 < (n : Int)) = true := decide_eq_true (by omega)
    have HE2 : Hid (E = 2) := HE.out.trans (if_pos hb)
    clear HE hb
    go_enter Tryd.func21, Tryd.ntmps21
    go_wp2_with fail
    go_ret
    exact ⟨by rw [HE2.out]; rfl, Below.refl _ _⟩
  · have g1 : decide (256 < (n : Int)) = false := decide_eq_false (by omega)
    have HE2 : Hid (E = A) := HE.out.trans (if_neg hb)
    clear HE hb
    go_enter Tryd.func21, Tryd.ntmps21
    go_wp2_with fail
    refine HC.out.mono ?_; rintro e w2 ⟨rfl, hb⟩
    have B2 := Lib.hid hb
    clear hb
    go_wp2_with fail
    go_ret
    exact ⟨by rw [HE2.out]; rfl, B2.out⟩
set_option maxRecDepth 100000 in
set_option maxHeartbeats 1000000 in
theorem sums_c (v : Value) (qs : List Rat) (w : World) (hv : SVal w v (txts qs)) (hf : ∀ q ∈ qs, FitQ q) (hl : qs.length ≤ 256) :
    Calls Tryd.prog 22 #[v] w fun e w' => (∃ v1 v2, e = .returned (.tuple #[v1, v2]) ∧ QV w' v1 (sumQ qs) ∧ QV w' v2 (sumA qs / 2)) ∧ Below w.heap.size w w' := by
  have hlen : (txts qs).length = qs.length := by simp [txts]
  obtain ⟨a, cap, rfl⟩ := (show Reads w v (txts qs).length ((txts qs).map Value.string) from hv).slice
  rw [hlen] at hv ⊢
  obtain ⟨n, hN⟩ : ∃ n, qs.length = n := ⟨_, rfl⟩
  have HN := Lib.hid hN
  have HV : Hid (Reads w (.slice a n cap) n ((txts qs).map Value.string)) := by
    show Reads _ _ _ _
    have h : Reads w (.slice a qs.length cap) (txts qs).length ((txts qs).map Value.string) := hv
    rw [hlen, hN] at h; exact h
  have HFQ := Lib.hid hf
  have HSA : Hid (∀ k, k ≤ n → sz (sumQ (qs.take k)) ≤ 600000) := fun k hk => by
    have h1 := sz_sum (qs.take k) (fun q hq => (hf q (List.mem_of_mem_take hq)).sz)
    have h2 : (qs.take k).length ≤ k := by rw [List.length_take]; omega
    have : 2001 * (qs.take k).length ≤ 2001 * 256 := Nat.mul_le_mul_left _ (by omega)
    omega
  have HSB : Hid (∀ k, k ≤ n → sz (sumA (qs.take k)) ≤ 600000) := fun k hk => by
    have h1 := sz_sum ((qs.take k).map absQ) (fun q hq => by
      obtain ⟨r, hr, rfl⟩ := List.mem_map.1 hq
      rw [sz_abs]
      exact (hf r (List.mem_of_mem_take hr)).sz)
    have h2 : (qs.take k).length ≤ k := by rw [List.length_take]; omega
    rw [List.length_map] at h1
    have : 2001 * (qs.take k).length ≤ 2001 * 256 := Nat.mul_le_mul_left _ (by omega)
    unfold sumA
    omega
  have HIN := Lib.hid (fun (q : Rat) (h : FitQ q) W => rin_c q W h)
  have HABS := Lib.hid (fun g vn vd (q : Rat) W (h : QC W g vn vd q) => abs_c g vn vd q W h)
  have HADD := Lib.hid (fun np nq vp dp vq dq (p q : Rat) W (h1 : sz p ≤ 600000) (h2 : sz q ≤ 2000) (hc : QC W np vp dp p) (hd : QC W nq vq dq q) => radd_c np nq vp dp vq dq p q W hc hd (by omega) (by omega))
  have HINT := Lib.hid (fun (m : Int) W (h0 : -9223372036854775807 ≤ m) (h1 : m ≤ 9223372036854775807) => int_c m W h0 h1)
  have hn256 : n ≤ 256 := by omega
  have B0 := Lib.hid (belowA (belowA (Below.refl w.heap.size w) (.cells #[.bool false, .slice none 0 0, .slice none 0 0] 65)) (.cells #[.bool false, .slice none 0 0, .slice none 0 0] 65))
  have KR := Lib.hid ((Blk.new w #[.bool false, .slice none 0 0, .slice none 0 0] 65).alloc (.cells #[.bool false, .slice none 0 0, .slice none 0 0] 65))
  have KS := Lib.hid (Blk.new2 w (.cells #[.bool false, .slice none 0 0, .slice none 0 0] 65) #[.bool false, .slice none 0 0, .slice none 0 0] 65)
  rw [hN]
  clear hv hf hl hN hlen
  go_enter Tryd.func22, Tryd.ntmps22
  go_upto_region 1 with fail
  generalize (w.alloc (.cells #[.bool false, .slice none 0 0, .slice none 0 0] 65)).alloc (.cells #[.bool false, .slice none 0 0, .slice none 0 0] 65) = w1 at *
  go_wp2_with fail
  refine (HINT.out 0 w1 (by omega) (by omega)).mono ?_; rintro e w2 ⟨⟨v2, rfl, hq⟩, hb⟩
  obtain ⟨g2, a2, m2, c2, b2, l2, k2, rfl, h2⟩ := hq.op
  have C2 := Lib.hid hb
  have H2 := Lib.hid h2
  clear hb h2 hq
  go_wp2_with fail
  refine (HINT.out 0 w2 (by omega) (by omega)).mono ?_; rintro e w3 ⟨⟨v3, rfl, hq⟩, hb⟩
  obtain ⟨g3, a3, m3, c3, b3, l3, k3, rfl, h3⟩ := hq.op
  have C3 := Lib.hid (belowT C2.out hb)
  have Q4 := Lib.hid ((QM.new (H2.out.below hb)).below (belowA (Below.refl _ _) (.cells #[.bool g3, .slice a3 m3 c3, .slice b3 l3 k3] 65)))
  have Q5 := Lib.hid (QM.new (h3.below (belowA (Below.refl _ _) (.cells #[.bool g2, .slice a2 m2 c2, .slice b2 l2 k2] 65))))
  have C5 := Lib.hid (belowA (belowA C3.out (.cells #[.bool g2, .slice a2 m2 c2, .slice b2 l2 k2] 65)) (.cells #[.bool g3, .slice a3 m3 c3, .slice b3 l3 k3] 65))
  have hs3 : w1.heap.size ≤ w3.heap.size := C3.out.size
  rw [World.size_alloc] at Q5
  clear hb h3 H2 C2 C3 hq
  go_upto_region 2 with fail
  generalize (w3.alloc (.cells #[.bool g2, .slice a2 m2 c2, .slice b2 l2 k2] 65)).alloc (.cells #[.bool g3, .slice a3 m3 c3, .slice b3 l3 k3] 65) = w4 at *
  generalize w3.heap.size = p4 at *
  have hp4 : w1.heap.size ≤ p4 := hs3
  clear hs3
  go_wp2_with fail
  go_loopw [13] (fun i wr => ∃ k : Nat, k ≤ n ∧ i = .int .i64 k ∧ Hid (QM wr p4 (sumQ (qs.take k))) ∧ Hid (QM wr (p4 + 1) (sumA (qs.take k))) ∧ Hid (Below w1.heap.size w1 wr)) (fun i _ => n - (intOf i).toNat)
  case atStart => exact ⟨0, Nat.zero_le _, rfl, Q4.out, Q5.out, C5.out⟩
  case round =>
    clear Q4 Q5 C5
    obtain ⟨k, hk, rfl, hq4, hq5, hb⟩ := hrel
    by_cases hlt : k < n
    · obtain ⟨b, off, cap', hvv, _, _, hbl, hc⟩ := (HV.out.below (belowT B0.out hb.out)).addr (by omega)
      simp only [Value.slice.injEq] at hvv
      obtain ⟨rfl, _, rfl⟩ := hvv
      obtain ⟨x, hx⟩ : ∃ x, qs[k]? = some x := ⟨_, List.getElem?_eq_getElem (by rw [HN.out]; exact hlt)⟩
      have x0 : wr.cell? ⟨b, off + k, none⟩ = some (.string (bs (ratT x))) := hc k _ (txts_get hx)
      have hfx := HFQ.out x (List.mem_of_getElem? hx)
      have HIX := Lib.hid (HIN.out x hfx)
      have hs4 := HSA.out k hk
      have hs5 := HSB.out k hk
      have hsx := hfx.sz
      have hsa : sz (absQ x) ≤ 2000 := by rw [sz_abs]; exact hsx
      have HSZ : Hid (sz (sumQ (qs.take k)) ≤ 600000 ∧ sz (sumA (qs.take k)) ≤ 600000 ∧ sz x ≤ 2000 ∧ sz (absQ x) ≤ 2000) := ⟨hs4, hs5, hsx, hsa⟩
      have HST4 : Hid (sumQ (qs.take (k + 1)) = sumQ (qs.take k) + x) := sumQ_take hx
      have HST5 : Hid (sumA (qs.take (k + 1)) = sumA (qs.take k) + absQ x) := sumA_take hx
      generalize bs (ratT x) = T at *
      generalize sumQ (qs.take k) = S4 at *
      generalize sumA (qs.take k) = S5 at *
      clear hc hx hfx hs4 hs5 hsx hsa HIN
      go_wp2_with fail
      refine (HIX.out wr).mono ?_; rintro e w5 ⟨⟨v5, rfl, hq⟩, hb5⟩
      obtain ⟨ig, ia, im, ic, ja, jl, jc, rfl, hi⟩ := hq.op
      have C6 := Lib.hid ((hb.out.trans (hb5.mono hb.out.size)).alloc (hb.out.trans (hb5.mono hb.out.size)).size (.cells #[.bool ig, .slice ia im ic, .slice ja jl jc] 65))
      have M4 := Lib.hid ((hq4.out.below hb5).below (belowA (Below.refl _ _) (.cells #[.bool ig, .slice ia im ic, .slice ja jl jc] 65)))
      have M5 := Lib.hid ((hq5.out.below hb5).below (belowA (Below.refl _ _) (.cells #[.bool ig, .slice ia im ic, .slice ja jl jc] 65)))
      have K8 := Lib.hid (Blk.new w5 #[.bool ig, .slice ia im ic, .slice ja jl jc] 65)
      have I8 := Lib.hid (hi.below (belowA (Below.refl _ _) (.cells #[.bool ig, .slice ia im ic, .slice ja jl jc] 65)))
      have hlt5 : p4 + 1 < w5.heap.size := by have := (hq5.out.below hb5).lt; omega
      clear hb5 hi hq HIX x0 hq4 hq5 hb
      go_upto_region 6 with fail
      generalize w5.alloc (.cells #[.bool ig, .slice ia im ic, .slice ja jl jc] 65) = w6 at *
      generalize w5.heap.size = p8 at *
      obtain ⟨g4, a4, m4, c4, b4, l4, k4, q4, kb4⟩ := M4.out.parts
      obtain ⟨g5, a5, m5, c5, b5, l5, k5, q5, kb5⟩ := M5.out.parts
      have KB4 := Lib.hid kb4
      have KB5 := Lib.hid kb5
      have HQ4 := Lib.hid q4
      have HQ5 := Lib.hid q5
      have HSC : Hid (∀ W, Below w6.heap.size w6 W → (W.cell? ⟨p8, 0, none⟩ = some (.bool ig) ∧ W.cell? ⟨p8, 1, none⟩ = some (.slice ia im ic) ∧ W.cell? ⟨p8, 2, none⟩ = some (.slice ja jl jc))) := fun W hW => by
        have k := below_blk hW K8.out K8.out.lt
        exact ⟨k.cell 0 rfl, k.cell 1 rfl, k.cell 2 rfl⟩
      have HSS : Hid (∀ w9 W1 W2, Below w6.heap.size w6 w9 → But p4 w9 W1 → But (p4 + 1) W1 W2 → (W2.cell? ⟨p8, 0, none⟩ = some (.bool ig) ∧ W2.cell? ⟨p8, 1, none⟩ = some (.slice ia im ic) ∧ W2.cell? ⟨p8, 2, none⟩ = some (.slice ja jl jc))) := fun w9 W1 W2 hW h1 h2 => by
        have k := h2.blk (h1.blk (below_blk hW K8.out K8.out.lt) (by omega)) (by omega)
        exact ⟨k.cell 0 rfl, k.cell 1 rfl, k.cell 2 rfl⟩
      have E0 := Lib.hid (below_drew0 w6.heap.size w6)
      have y40 := kb4.cell 0 rfl
      have y41 := kb4.cell 1 rfl
      have y42 := kb4.cell 2 rfl
      have y50 := kb5.cell 0 rfl
      have y51 := kb5.cell 1 rfl
      have y52 := kb5.cell 2 rfl
      have hl4 := kb4.lt
      have hl5 := kb5.lt
      clear kb4 kb5 q4 q5 M4 M5
      rw [show Op.load 65 (.tmp 4) = hideLoad 65 (.tmp 4) from rfl, show Op.load 65 (.tmp 5) = hideLoad 65 (.tmp 5) from rfl]
      go_region_held3 (fun W => (W.cell? ⟨p8, 0, none⟩ = some (.bool ig) ∧ W.cell? ⟨p8, 1, none⟩ = some (.slice ia im ic) ∧ W.cell? ⟨p8, 2, none⟩ = some (.slice ja jl jc)))
        (first
          | with_reducible exact HSC.out _ E0.out
          | with_reducible exact HSC.out _ E1.out
          | with_reducible exact HSC.out _ E2.out
          | with_reducible exact HSC.out _ E3.out
          | with_reducible exact HF1.out
          | with_reducible exact HF2.out)
        (first
          | (go_simp; go_at_call 24; ((with_reducible refine (HADD.out _ _ _ _ _ _ S4 x _ HSZ.out.1 HSZ.out.2.2.1 (HQ4.out.below E0.out) (I8.out.below E0.out)).mono ?_); rintro e w7 ⟨⟨v7, rfl, hq⟩, hb7⟩; obtain ⟨g7, a7, m7, c7, b7, l7, k7, rfl, h7⟩ := hq.op; have E1 := Lib.hid (belowT E0.out hb7); have R7 := Lib.hid h7; have kk := below_blk E1.out KB5.out KB5.out.lt; have z0 := kk.cell 0 rfl; have z1 := kk.cell 1 rfl; have z2 := kk.cell 2 rfl; have hl7 := kk.lt; clear hb7 hq h7 kk))
          | (go_simp; go_at_call 28; ((with_reducible refine (HABS.out _ _ _ x w7 (I8.out.below E1.out)).mono ?_); rintro e w8 ⟨⟨v8, rfl, hq⟩, hb8⟩; obtain ⟨g8, a8, m8, c8, b8, l8, k8, rfl, h8⟩ := hq.op; have E2 := Lib.hid (belowT E1.out hb8); have R8 := Lib.hid h8; have R78 := Lib.hid (R7.out.below hb8); have kk := below_blk E2.out KB5.out KB5.out.lt; have t0 := kk.cell 0 rfl; have t1 := kk.cell 1 rfl; have t2 := kk.cell 2 rfl; have hl8 := kk.lt; clear hb8 hq h8 kk))
          | (go_simp; go_at_call 24; ((with_reducible refine (HADD.out _ _ _ _ _ _ S5 (absQ x) w8 HSZ.out.2.1 HSZ.out.2.2.2 (HQ5.out.below E2.out) R8.out).mono ?_); rintro e w9 ⟨⟨v9, rfl, hq⟩, hb9⟩; obtain ⟨g9, a9, m9, c9, b9, l9, k9, rfl, h9⟩ := hq.op; have E3 := Lib.hid (belowT E2.out hb9); have R9 := Lib.hid h9; have R79 := Lib.hid (R78.out.below hb9); have n4 := below_blk E3.out KB4.out KB4.out.lt; have n5 := below_blk E3.out KB5.out KB5.out.lt; have N4 := Lib.hid n4; have N5 := Lib.hid n5; have n5' := (but_set3 w9 p4 (.bool g7) (.slice a7 m7 c7) (.slice b7 l7 k7)).blk n5 (by omega); have u0 := n4.cell 0 rfl; have u1 := n4.cell 1 rfl; have u2 := n4.cell 2 rfl; have r0 := n4.free 0; have r1 := n4.free 1; have r2 := n4.free 2; have v0 := n5'.cell 0 rfl; have v1 := n5'.cell 1 rfl; have v2 := n5'.cell 2 rfl; have s0 := n5'.free 0; have s1 := n5'.free 1; have s2 := n5'.free 2; have hl9 := n4.lt; have hl10 := n5.lt; have HF1 := Lib.hid (HSS.out w9 _ _ E3.out (but_set3 w9 p4 (.bool g7) (.slice a7 m7 c7) (.slice b7 l7 k7)) (But.refl _ _)); have HF2 := Lib.hid (HSS.out w9 _ _ E3.out (but_set3 w9 p4 (.bool g7) (.slice a7 m7 c7) (.slice b7 l7 k7)) (but_set3 _ (p4 + 1) (.bool g9) (.slice a9 m9 c9) (.slice b9 l9 k9))); clear hb9 hq h9 n4 n5 n5')))
      all_goals
        go_simp
        have P4 := (QM.put N4.out R79.out).other ((but_set3 w9 p4 (.bool g7) (.slice a7 m7 c7) (.slice b7 l7 k7)).blk N5.out (by omega)) (but_set3 _ (p4 + 1) (.bool g9) (.slice a9 m9 c9) (.slice b9 l9 k9)) (by omega)
        have P5 := QM.put ((but_set3 w9 p4 (.bool g7) (.slice a7 m7 c7) (.slice b7 l7 k7)).blk N5.out (by omega)) (R9.out.keepT N4.out (by decide) (but_set3 w9 p4 (.bool g7) (.slice a7 m7 c7) (.slice b7 l7 k7)))
        have HP4 := Lib.hid P4
        have HP5 := Lib.hid P5
        have C9 := Lib.hid (((((((C6.out.trans (E3.out.mono C6.out.size)).setCell (p := ⟨p4, 0, none⟩) hp4 (.bool g7)).setCell (p := ⟨p4, 1, none⟩) hp4 (.slice a7 m7 c7)).setCell (p := ⟨p4, 2, none⟩) hp4 (.slice b7 l7 k7)).setCell (p := ⟨p4 + 1, 0, none⟩) (Nat.le_succ_of_le hp4) (.bool g9)).setCell (p := ⟨p4 + 1, 1, none⟩) (Nat.le_succ_of_le hp4) (.slice a9 m9 c9)).setCell (p := ⟨p4 + 1, 2, none⟩) (Nat.le_succ_of_le hp4) (.slice b9 l9 k9))
        clear P4 P5 y40 y41 y42 y50 y51 y52 z0 z1 z2 t0 t1 t2 u0 u1 u2 r0 r1 r2 v0 v1 v2 s0 s1 s2 N4 N5 R79 R9 R8 R7 R78 HQ4 HQ5 KB4 KB5 HSC HSS HF1 HF2 E0 E1 E2 E3 C6 K8 I8 HSZ
        go_wp2_with fail
        go_roundw
        case rel => exact ⟨k + 1, hlt, by go_num, by rw [HST4.out]; exact HP4.out, by rw [HST5.out]; exact HP5.out, C9.out⟩
        case measure => simp [intOf]; omega
    · obtain rfl : k = n := by omega
      have HT : Hid (qs.take k = qs) := List.take_of_length_le (by rw [HN.out]; exact Nat.le_refl _)
      have hz5 := HSB.out k (Nat.le_refl _)
      rw [HT.out] at hq4 hq5 hz5
      have HZ5 := Lib.hid hz5
      have HQUO := Lib.hid (fun np nq vp dp vq dq W (hc : QC W np vp dp (sumA qs)) (hd : QC W nq vq dq ((2 : Int) : Rat)) => rquo_c np nq vp dp vq dq (sumA qs) ((2 : Int) : Rat) W hc hd (by have := HZ5.out; omega) (by decide +kernel))
      obtain ⟨QQ, hQQ⟩ : ∃ Q, sumA qs / ((2 : Int) : Rat) = Q := ⟨_, rfl⟩
      have HTW : Hid (sumA qs / 2 = QQ) := hQQ
      rw [hQQ] at HQUO
      clear hQQ
      obtain ⟨g4, a4, m4, c4, b4, l4, k4, q4, kb4⟩ := hq4.out.parts
      obtain ⟨g5, a5, m5, c5, b5, l5, k5, q5, kb5⟩ := hq5.out.parts
      have KB4 := Lib.hid kb4
      have KB5 := Lib.hid kb5
      have HQ4 := Lib.hid q4
      have HQ5 := Lib.hid q5
      have kr := below_blk hb.out KR.out KR.out.lt
      have ks := below_blk hb.out KS.out KS.out.lt
      have KR2 := Lib.hid kr
      have KS2 := Lib.hid ks
      have hks := KS.out.lt
      have hkr := KR.out.lt
      have E0 := Lib.hid (below_drew0 wr.heap.size wr)
      have HSC : Hid (∀ W, Below wr.heap.size wr W → (W.cell? ⟨p4, 0, none⟩ = some (.bool g4) ∧ W.cell? ⟨p4, 1, none⟩ = some (.slice a4 m4 c4) ∧ W.cell? ⟨p4, 2, none⟩ = some (.slice b4 l4 k4) ∧ W.cell? ⟨p4 + 1, 0, none⟩ = some (.bool g5) ∧ W.cell? ⟨p4 + 1, 1, none⟩ = some (.slice a5 m5 c5) ∧ W.cell? ⟨p4 + 1, 2, none⟩ = some (.slice b5 l5 k5))) := fun W hW => by
        have k := below_blk hW KB4.out KB4.out.lt
        have k' := below_blk hW KB5.out KB5.out.lt
        exact ⟨k.cell 0 rfl, k.cell 1 rfl, k.cell 2 rfl, k'.cell 0 rfl, k'.cell 1 rfl, k'.cell 2 rfl⟩
      have HSS : Hid (∀ w9 W1 W2, Below wr.heap.size wr w9 → But w.heap.size w9 W1 → But (w.heap.size + 1) W1 W2 → (W2.cell? ⟨p4, 0, none⟩ = some (.bool g4) ∧ W2.cell? ⟨p4, 1, none⟩ = some (.slice a4 m4 c4) ∧ W2.cell? ⟨p4, 2, none⟩ = some (.slice b4 l4 k4) ∧ W2.cell? ⟨p4 + 1, 0, none⟩ = some (.bool g5) ∧ W2.cell? ⟨p4 + 1, 1, none⟩ = some (.slice a5 m5 c5) ∧ W2.cell? ⟨p4 + 1, 2, none⟩ = some (.slice b5 l5 k5))) := fun w9 W1 W2 hW h1 h2 => by
        have k := h2.blk (h1.blk (below_blk hW KB4.out KB4.out.lt) (by omega)) (by omega)
        have k' := h2.blk (h1.blk (below_blk hW KB5.out KB5.out.lt) (by omega)) (by omega)
        exact ⟨k.cell 0 rfl, k.cell 1 rfl, k.cell 2 rfl, k'.cell 0 rfl, k'.cell 1 rfl, k'.cell 2 rfl⟩
      clear kb4 kb5 q4 q5 kr ks hq4 hq5 hz5 HADD HABS HIN HSA HSB
      go_upto_region 8 with fail
      go_region_held3 (fun W => (W.cell? ⟨p4, 0, none⟩ = some (.bool g4) ∧ W.cell? ⟨p4, 1, none⟩ = some (.slice a4 m4 c4) ∧ W.cell? ⟨p4, 2, none⟩ = some (.slice b4 l4 k4) ∧ W.cell? ⟨p4 + 1, 0, none⟩ = some (.bool g5) ∧ W.cell? ⟨p4 + 1, 1, none⟩ = some (.slice a5 m5 c5) ∧ W.cell? ⟨p4 + 1, 2, none⟩ = some (.slice b5 l5 k5)))
        (first
          | with_reducible exact HSC.out _ E0.out
          | with_reducible exact HSC.out _ E1.out
          | with_reducible exact HSC.out _ E2.out
          | with_reducible exact HF1.out
          | with_reducible exact HF2.out)
        (first
          | (go_at_call 23; ((with_reducible refine (HINT.out 2 _ (by omega) (by omega)).mono ?_); rintro e w7 ⟨⟨v7, rfl, hq⟩, hb7⟩; obtain ⟨g7, a7, m7, c7, b7, l7, k7, rfl, h7⟩ := hq.op; have E1 := Lib.hid (belowT E0.out hb7); have R7 := Lib.hid h7; clear hb7 hq h7))
          | (go_at_call 26; ((with_reducible refine (HQUO.out _ _ _ _ _ _ w7 (HQ5.out.below E1.out) R7.out).mono ?_); rintro e w9 ⟨⟨v9, rfl, hq⟩, hb9⟩; obtain ⟨g9, a9, m9, c9, b9, l9, k9, rfl, h9⟩ := hq.op; have E2 := Lib.hid (belowT E1.out hb9); have R9 := Lib.hid h9; have n4 := below_blk E2.out KR2.out KR2.out.lt; have n5 := below_blk E2.out KS2.out KS2.out.lt; have N4 := Lib.hid n4; have N5 := Lib.hid n5; have n5' := (but_set3 w9 w.heap.size (.bool g4) (.slice a4 m4 c4) (.slice b4 l4 k4)).blk n5 (by omega); have u0 := n4.cell 0 rfl; have u1 := n4.cell 1 rfl; have u2 := n4.cell 2 rfl; have r0 := n4.free 0; have r1 := n4.free 1; have r2 := n4.free 2; have v0 := n5'.cell 0 rfl; have v1 := n5'.cell 1 rfl; have v2 := n5'.cell 2 rfl; have s0 := n5'.free 0; have s1 := n5'.free 1; have s2 := n5'.free 2; have hl9 := n4.lt; have hl10 := n5.lt; have HF1 := Lib.hid (HSS.out w9 _ _ E2.out (but_set3 w9 w.heap.size (.bool g4) (.slice a4 m4 c4) (.slice b4 l4 k4)) (But.refl _ _)); have HF2 := Lib.hid (HSS.out w9 _ _ E2.out (but_set3 w9 w.heap.size (.bool g4) (.slice a4 m4 c4) (.slice b4 l4 k4)) (but_set3 _ (w.heap.size + 1) (.bool g9) (.slice a9 m9 c9) (.slice b9 l9 k9))); clear hb9 hq h9 n4 n5 n5')))
      all_goals
        go_simp
        have n5' := Lib.hid ((but_set3 w9 w.heap.size (.bool g4) (.slice a4 m4 c4) (.slice b4 l4 k4)).blk N5.out (by omega))
        have P4 := Lib.hid (((HQ4.out.below E2.out).keepT N4.out (by decide) (but_set3 w9 w.heap.size (.bool g4) (.slice a4 m4 c4) (.slice b4 l4 k4))).keepT n5'.out (by decide) (but_set3 _ (w.heap.size + 1) (.bool g9) (.slice a9 m9 c9) (.slice b9 l9 k9)))
        have P5 := Lib.hid ((R9.out.keepT N4.out (by decide) (but_set3 w9 w.heap.size (.bool g4) (.slice a4 m4 c4) (.slice b4 l4 k4))).keepT n5'.out (by decide) (but_set3 _ (w.heap.size + 1) (.bool g9) (.slice a9 m9 c9) (.slice b9 l9 k9)))
        have hww := Nat.le_refl w.heap.size
        have C9 := Lib.hid (((((((belowT B0.out (hb.out.trans (E2.out.mono hb.out.size))).setCell (p := ⟨w.heap.size, 0, none⟩) hww (.bool g4)).setCell (p := ⟨w.heap.size, 1, none⟩) hww (.slice a4 m4 c4)).setCell (p := ⟨w.heap.size, 2, none⟩) hww (.slice b4 l4 k4)).setCell (p := ⟨w.heap.size + 1, 0, none⟩) (Nat.le_succ _) (.bool g9)).setCell (p := ⟨w.heap.size + 1, 1, none⟩) (Nat.le_succ _) (.slice a9 m9 c9)).setCell (p := ⟨w.heap.size + 1, 2, none⟩) (Nat.le_succ _) (.slice b9 l9 k9))
        go_wp2_with fail
        (try simp only [Exit.inBlock, Exit.then])
        refine bodyPost_ret (v := .tuple #[.agg #[.bool g4, .slice a4 m4 c4, .slice b4 l4 k4], .agg #[.bool g9, .slice a9 m9 c9, .slice b9 l9 k9]]) ?_ rfl ⟨⟨_, _, rfl, ⟨_, _, _, rfl, P4.out⟩, ⟨_, _, _, rfl, by rw [HTW.out]; exact P5.out⟩⟩, C9.out⟩
        rw [results_cell2 rfl]
        go_simp
end Go.Proofs.YtkpalfgnfhphjaaDoor
