/- rat.Check. -/
import Derived.Test.YthcddboeejbncaaPkTxt3NatD
import Derived.Test.YthcddboeejbncaaPzNat10
namespace Go.Proofs.Ythcddboeejbncaa
open Go.RowKit

structure RatS where
  neg : Bool
  a : List UInt8
  b : List UInt8
  is : Bool
/-- The parts of a text. -/
def ratS (l : List UInt8) : RatS := ⟨Lib.hasPrefix l [45], (cutL 47 (Lib.trimPrefix l [45])).1, (cutL 47 (Lib.trimPrefix l [45])).2.1, (cutL 47 (Lib.trimPrefix l [45])).2.2⟩
def RatS.x (r : RatS) : Int := natE r.a
def RatS.y (r : RatS) : Int := if r.is = true then natE r.b else 0
def RatS.e (r : RatS) : Int :=
  if r.x = 5 ∨ r.y = 5 ∨ (r.neg = true ∧ r.a = [48]) then 5 else if r.x ≠ 0 ∨ r.y ≠ 0 then 2 else if r.is = true ∧ (r.b = [48] ∨ r.b = [49] ∨ Nat.gcd (decV r.a) (decV r.b) ≠ 1) then 3 else 0
/-- What rat.Check answers. -/
def ratE (l : List UInt8) : Int := (ratS l).e
theorem natE_digs {l : List UInt8} (h : natE l = 0) : digsE l = true ∧ l.length ≤ 2000 ∧ 0 < l.length := by
  unfold natE at h
  split at h
  · cases h
  · rename_i h1
    split at h
    · cases h
    · rename_i h2
      split at h
      · cases h
      · rename_i h3
        refine ⟨by simpa using h2, by omega, by omega⟩
theorem dec_ln' {l : List UInt8} {k : Nat} (h : digsE l = true) (hk : l.length ≤ 9 * k) : ln (decV l) ≤ k := by
  apply ln_le
  have h3 := dec_lt (digs_all h)
  have h4 : 10 ^ l.length ≤ 10 ^ (9 * k) := Nat.pow_le_pow_right (by omega) hk
  rw [pw_ten]
  exact Int.ofNat_lt.2 (Nat.lt_of_lt_of_le h3 h4)
theorem dec_ln {l : List UInt8} (h : natE l = 0) : ln (decV l) ≤ 223 := dec_ln' (natE_digs h).1 (by have := (natE_digs h).2.1; omega)
theorem trim_size (l p : List UInt8) : (Lib.trimPrefix l p).length ≤ l.length := by
  unfold Lib.trimPrefix
  split
  · rw [List.length_drop]; omega
  · exact Nat.le_refl _
theorem cut_size (c : UInt8) (l : List UInt8) : (cutL c l).1.length ≤ l.length ∧ (cutL c l).2.1.length ≤ l.length := by
  unfold cutL
  split
  · constructor
    · simp only [List.length_take]; omega
    · simp only [List.length_drop]; omega
  · exact ⟨Nat.le_refl _, Nat.zero_le _⟩
theorem tl48 (A : ByteArray) : (A.toList == [48]) = decide (A = ⟨#[48]⟩) := by
  have h := Lib.bytes_beq_iff A ⟨#[48]⟩
  rw [show (⟨#[48]⟩ : ByteArray).toList = [48] by decide +kernel] at h
  rw [Bool.eq_iff_iff, h]; simp
theorem tl49 (A : ByteArray) : (A.toList == [49]) = decide (A = ⟨#[49]⟩) := by
  have h := Lib.bytes_beq_iff A ⟨#[49]⟩
  rw [show (⟨#[49]⟩ : ByteArray).toList = [49] by decide +kernel] at h
  rw [Bool.eq_iff_iff, h]; simp
def RatS.N5 (r : RatS) : Prop := ¬ (r.x = 5 ∨ r.y = 5 ∨ (r.neg = true ∧ r.a = [48]))
def RatS.N2 (r : RatS) : Prop := ¬ (r.x ≠ 0 ∨ r.y ≠ 0)
theorem RatS.e5 {r : RatS} (h : r.x = 5 ∨ r.y = 5 ∨ (r.neg = true ∧ r.a = [48])) : r.e = 5 := if_pos h
theorem RatS.e2 {r : RatS} (h : r.N5) (h2 : r.x ≠ 0 ∨ r.y ≠ 0) : r.e = 2 := (if_neg h).trans (if_pos h2)
theorem RatS.e3 {r : RatS} (h : r.N5) (h2 : r.N2) (h3 : r.is = true ∧ (r.b = [48] ∨ r.b = [49] ∨ Nat.gcd (decV r.a) (decV r.b) ≠ 1)) : r.e = 3 := (if_neg h).trans ((if_neg h2).trans (if_pos h3))
theorem RatS.e0 {r : RatS} (h : r.N5) (h2 : r.N2) (h3 : ¬ (r.is = true ∧ (r.b = [48] ∨ r.b = [49] ∨ Nat.gcd (decV r.a) (decV r.b) ≠ 1))) : r.e = 0 := (if_neg h).trans ((if_neg h2).trans (if_neg h3))
set_option maxHeartbeats 4000000 in
theorem ratCheck_c (s : ByteArray) (w : World) (hs : s.size ≤ 9223372036854775807) :
    Calls Try.prog 58 #[.string s] w fun e w' => e = .returned (.int .i64 (ratE s.data.toList)) ∧ Below w.heap.size w w' := by
  have HCP : Hid (Calls Try.prog 72 #[.string s, .string ⟨#[45]⟩] w fun e w' => e = .returned (.tuple #[.string ⟨(Lib.trimPrefix s.data.toList [45]).toArray⟩, .bool (Lib.hasPrefix s.data.toList [45])]) ∧ w' = w) := Try.strings_CutPrefix s ⟨#[45]⟩ w
  have hsl : s.data.toList.length = s.size := by simp
  have ht := trim_size s.data.toList [45]
  have hcs := cut_size 47 (Lib.trimPrefix s.data.toList [45])
  have HCT := Lib.hid (cut_c (bs (Lib.trimPrefix s.data.toList [45])) 47 w (by rw [bs_size]; omega))
  obtain ⟨r, hr⟩ : ∃ r, ratS s.data.toList = r := ⟨_, rfl⟩
  have HR : Hid (ratE s.data.toList = r.e) := by show _ = _; unfold ratE; rw [hr]
  rw [bs_list] at HCT
  obtain ⟨ng, la, lb, is⟩ := r
  have e1 : Lib.hasPrefix s.data.toList [45] = ng := congrArg RatS.neg hr
  have e2 : (cutL 47 (Lib.trimPrefix s.data.toList [45])).1 = la := congrArg RatS.a hr
  have e3 : (cutL 47 (Lib.trimPrefix s.data.toList [45])).2.1 = lb := congrArg RatS.b hr
  have e4 : (cutL 47 (Lib.trimPrefix s.data.toList [45])).2.2 = is := congrArg RatS.is hr
  rw [e1] at HCP
  rw [e2, e3, e4] at HCT
  rw [e2, e3] at hcs
  obtain ⟨T, hT⟩ : ∃ t, (⟨(Lib.trimPrefix s.data.toList [45]).toArray⟩ : ByteArray) = t := ⟨_, rfl⟩
  rw [hT] at HCP
  change bs _ = _ at hT
  rw [hT] at HCT
  obtain ⟨A, hA⟩ : ∃ t, bs la = t := ⟨_, rfl⟩
  obtain ⟨B, hB⟩ : ∃ t, bs lb = t := ⟨_, rfl⟩
  rw [hA, hB] at HCT
  have hal : A.data.toList = la := by rw [← hA]
  have hbl : B.data.toList = lb := by rw [← hB]
  have hasz : A.size ≤ 9223372036854775807 := by have h := bs_size la; rw [hA] at h; omega
  have hbsz : B.size ≤ 9223372036854775807 := by have h := bs_size lb; rw [hB] at h; omega
  have HNA := Lib.hid (fun W => natCheck_c A W (by omega))
  have HNB := Lib.hid (fun W => natCheck_c B W (by omega))
  rw [hal] at HNA
  rw [hbl] at HNB
  have HAE : ∀ c : UInt8, (A = ⟨#[c]⟩ ↔ la = [c]) := fun c => by rw [← hA]; exact ⟨fun h => bs_inj (m := [c]) h, fun h => by rw [h]⟩
  have HBE : ∀ c : UInt8, (B = ⟨#[c]⟩ ↔ lb = [c]) := fun c => by rw [← hB]; exact ⟨fun h => bs_inj (m := [c]) h, fun h => by rw [h]⟩
  have HAL := Lib.hid hal
  have HBL := Lib.hid hbl
  have HAI := Lib.hid HAE
  have HBI := Lib.hid HBE
  clear e1 e2 e3 e4 hT hA hB hal hbl hr hcs ht hsl HAE HBE
  go_enter Try.func58, Try.ntmps58
  go_wp2_with fail
  refine HCP.out.mono ?_; rintro e w1 ⟨rfl, rfl⟩
  go_wp2_with fail
  refine HCT.out.mono ?_; rintro e w2 ⟨rfl, hb2⟩
  have HB2 := Lib.hid hb2
  clear hb2
  go_wp2_with fail
  refine (HNA.out w2).mono ?_; rintro e w3 ⟨rfl, hb3⟩
  have HB3 := Lib.hid (belowT HB2.out hb3)
  clear hb3
  obtain ⟨x, hx⟩ : ∃ x, natE la = x := ⟨_, rfl⟩
  have HX := Lib.hid hx
  rw [hx]
  clear hx HNA HCP HCT HB2
  have HA0 : Hid ((A.toList == [48]) = decide (la = [48])) := by show _ = _; rw [tl48, decide_eq_decide.2 (HAI.out 48)]
  have HB0 : Hid ((B.toList == [48]) = decide (lb = [48]) ∧ (B.toList == [49]) = decide (lb = [49])) := by
    show _ ∧ _
    rw [tl48, tl49, decide_eq_decide.2 (HBI.out 48), decide_eq_decide.2 (HBI.out 49)]; exact ⟨rfl, rfl⟩
  cases is with
  | true =>
    go_wp2_with fail
    refine (HNB.out w3).mono ?_; rintro e w4 ⟨rfl, hb4⟩
    have HB4 := Lib.hid (belowT HB3.out hb4)
    clear hb4
    obtain ⟨y, hy⟩ : ∃ x, natE lb = x := ⟨_, rfl⟩
    have HY := Lib.hid hy
    have HRX : Hid ((⟨ng, la, lb, true⟩ : RatS).x = x) := HX.out
    have HRY : Hid ((⟨ng, la, lb, true⟩ : RatS).y = y) := by show _ = _; unfold RatS.y; rw [if_pos rfl]; exact hy
    rw [hy]
    clear hy HNB HB3
    by_cases hx5 : x = 5
    · have q1 : (x == 5) = true := by rw [beq_iff_eq]; exact hx5
      have HV := Lib.hid (RatS.e5 (r := ⟨ng, la, lb, true⟩) (Or.inl (by rw [HRX.out]; exact hx5)))
      clear hx5
      go_wp2_with fail
      go_ret
      exact ⟨ret_int (by rw [HR.out]; exact HV.out.symm), HB4.out⟩
    · have q1 : (x == 5) = false := by rw [beq_eq_false_iff_ne]; exact hx5
      by_cases hy5 : y = 5
      · have q2 : (y == 5) = true := by rw [beq_iff_eq]; exact hy5
        have HV := Lib.hid (RatS.e5 (r := ⟨ng, la, lb, true⟩) (Or.inr (Or.inl (by rw [HRY.out]; exact hy5))))
        clear hx5 hy5
        go_wp2_with fail
        go_ret
        exact ⟨ret_int (by rw [HR.out]; exact HV.out.symm), HB4.out⟩
      · have q2 : (y == 5) = false := by rw [beq_eq_false_iff_ne]; exact hy5
        by_cases hn : ng = true ∧ la = [48]
        · obtain ⟨rfl, hla⟩ := hn
          have q3 : (A.toList == [48]) = true := by rw [HA0.out]; exact decide_eq_true hla
          have HV := Lib.hid (RatS.e5 (r := ⟨true, la, lb, true⟩) (Or.inr (Or.inr ⟨rfl, hla⟩)))
          clear hx5 hy5 hla
          go_wp2_with fail
          go_ret
          exact ⟨ret_int (by rw [HR.out]; exact HV.out.symm), HB4.out⟩
        · have HN5 : Hid (RatS.N5 ⟨ng, la, lb, true⟩) := by
            show ¬ (_ ∨ _ ∨ _)
            rw [HRX.out, HRY.out]; exact fun h => h.elim hx5 (fun h => h.elim hy5 hn)
          have q3 : ng = false ∨ (A.toList == [48]) = false := by
            cases ng with
            | false => exact Or.inl rfl
            | true => exact Or.inr (by rw [HA0.out]; exact decide_eq_false fun h => hn ⟨rfl, h⟩)
          clear hx5 hy5 hn
          rcases q3 with rfl | q3
          ·
            by_cases hx0 : x = 0
            · by_cases hy0 : y = 0
              · have q4 : (x != 0) = false := by simpa using hx0
                have q5 : (y != 0) = false := by simpa using hy0
                have HN2 : Hid (RatS.N2 ⟨false, la, lb, true⟩) := by
                  show ¬ (_ ∨ _)
                  rw [HRX.out, HRY.out]; exact fun h => h.elim (fun h => h hx0) (fun h => h hy0)
                have HZA : Hid (natE la = 0) := HX.out.trans hx0
                have HZB : Hid (natE lb = 0) := HY.out.trans hy0
                clear hx0 hy0
                by_cases hb0 : lb = [48]
                · have q6 : (B.toList == [48]) = true := by rw [HB0.out.1]; exact decide_eq_true hb0
                  have q6' : B.toList = [48] := by simpa using q6
                  have HV := Lib.hid (RatS.e3 (r := ⟨false, la, lb, true⟩) HN5.out HN2.out ⟨rfl, Or.inl hb0⟩)
                  clear hb0
                  go_wp2_with fail
                  go_ret
                  exact ⟨ret_int (by rw [HR.out]; exact HV.out.symm), HB4.out⟩
                · have q6 : (B.toList == [48]) = false := by rw [HB0.out.1]; exact decide_eq_false hb0
                  have q6' : ¬ B.toList = [48] := by simpa using q6
                  by_cases hb1 : lb = [49]
                  · have q7 : (B.toList == [49]) = true := by rw [HB0.out.2]; exact decide_eq_true hb1
                    have q7' : B.toList = [49] := by simpa using q7
                    have HV := Lib.hid (RatS.e3 (r := ⟨false, la, lb, true⟩) HN5.out HN2.out ⟨rfl, Or.inr (Or.inl hb1)⟩)
                    clear hb1 hb0
                    go_wp2_with fail
                    go_ret
                    exact ⟨ret_int (by rw [HR.out]; exact HV.out.symm), HB4.out⟩
                  · have q7 : (B.toList == [49]) = false := by rw [HB0.out.2]; exact decide_eq_false hb1
                    have q7' : ¬ B.toList = [49] := by simpa using q7
                    have HBN : Hid (lb ≠ [48] ∧ lb ≠ [49]) := ⟨hb0, hb1⟩
                    have HRA := Lib.hid (fun W => read_c A W (by have h1 := (natE_digs HZA.out).2.1; have h2 : A.data.toList.length = A.size := by simp
                                                                 rw [HAL.out] at h2; omega) (by rw [HAL.out]; exact (natE_digs HZA.out).1))
                    have HRB := Lib.hid (fun W => read_c B W (by have h1 := (natE_digs HZB.out).2.1; have h2 : B.data.toList.length = B.size := by simp
                                                                 rw [HBL.out] at h2; omega) (by rw [HBL.out]; exact (natE_digs HZB.out).1))
                    rw [HAL.out] at HRA
                    rw [HBL.out] at HRB
                    have HLA := Lib.hid (dec_ln HZA.out)
                    have HLB := Lib.hid (dec_ln HZB.out)
                    clear hb0 hb1
                    go_wp2_with fail
                    refine (HRA.out _).mono ?_; rintro e w5 ⟨⟨v5, rfl, hn5⟩, hb5⟩
                    have HB5 := Lib.hid (belowT HB4.out hb5)
                    have N5 := Lib.hid hn5.nv
                    clear hn5 hb5
                    go_wp2_with fail
                    refine (HRB.out _).mono ?_; rintro e w6 ⟨⟨v6, rfl, hn6⟩, hb6⟩
                    have HB6 := Lib.hid (belowT HB5.out hb6)
                    have HGC := Lib.hid (ngcd_c _ _ _ _ w6 (N5.out.below hb6) hn6.nv (by have := HLA.out; omega) (by have := HLB.out; omega))
                    clear hn6 hb6
                    go_wp2_with fail
                    refine HGC.out.mono ?_; rintro e w7 ⟨⟨v7, rfl, hn7⟩, hb7⟩
                    have HB7 := Lib.hid (belowT HB6.out hb7)
                    have N7 := Lib.hid hn7
                    have HOF := Lib.hid (nof_c 1 w7 (by omega))
                    clear hn7 hb7 HGC
                    go_wp2_with fail
                    refine HOF.out.mono ?_; rintro e w8 ⟨⟨v8, rfl, hn8⟩, hb8⟩
                    have HB8 := Lib.hid (belowT HB7.out hb8)
                    have HCM := Lib.hid (ncmp_c _ _ _ _ w8 (N7.out.below hb8) hn8.nv)
                    obtain ⟨cm, hcm⟩ : ∃ c, cmpN (Nat.gcd (decV la) (decV lb)) 1 = c := ⟨_, rfl⟩
                    have HCE := Lib.hid hcm
                    rw [hcm] at HCM
                    clear hn8 hb8 HOF hcm
                    have hcz : (cm = 0 ∧ Nat.gcd (decV la) (decV lb) = 1) ∨ (cm ≠ 0 ∧ Nat.gcd (decV la) (decV lb) ≠ 1) := by
                      rw [← HCE.out]
                      unfold cmpN
                      split
                      · exact Or.inr ⟨by decide, by omega⟩
                      · split
                        · exact Or.inr ⟨by decide, by omega⟩
                        · exact Or.inl ⟨rfl, by omega⟩
                    rcases hcz with ⟨rfl, hg⟩ | ⟨hc, hg⟩
                    · have HV := Lib.hid (RatS.e0 (r := ⟨false, la, lb, true⟩) HN5.out HN2.out (fun h => h.2.elim HBN.out.1 (fun h => h.elim HBN.out.2 (fun h => h hg))))
                      clear hg
                      go_wp2_with fail
                      refine HCM.out.mono ?_; rintro e w9 ⟨rfl, hb9⟩
                      have HB9 := Lib.hid (belowT HB8.out hb9)
                      clear hb9
                      go_wp2_with fail
                      go_ret
                      exact ⟨ret_int (by rw [HR.out]; exact HV.out.symm), HB9.out⟩
                    · have q8 : (cm != 0) = true := by simpa using hc
                      have HV := Lib.hid (RatS.e3 (r := ⟨false, la, lb, true⟩) HN5.out HN2.out ⟨rfl, Or.inr (Or.inr hg)⟩)
                      clear hg hc
                      go_wp2_with fail
                      refine HCM.out.mono ?_; rintro e w9 ⟨rfl, hb9⟩
                      have HB9 := Lib.hid (belowT HB8.out hb9)
                      clear hb9
                      go_wp2_with fail
                      go_ret
                      exact ⟨ret_int (by rw [HR.out]; exact HV.out.symm), HB9.out⟩
              · have q5 : (y != 0) = true := by simpa using hy0
                have HV := Lib.hid (RatS.e2 (r := ⟨false, la, lb, true⟩) HN5.out (Or.inr (by rw [HRY.out]; exact hy0)))
                subst hx0
                clear hy0
                go_wp2_with fail
                go_ret
                exact ⟨ret_int (by rw [HR.out]; exact HV.out.symm), HB4.out⟩
            · have q4 : (x != 0) = true := by simpa using hx0
              have HV := Lib.hid (RatS.e2 (r := ⟨false, la, lb, true⟩) HN5.out (Or.inl (by rw [HRX.out]; exact hx0)))
              clear hx0
              go_wp2_with fail
              go_ret
              exact ⟨ret_int (by rw [HR.out]; exact HV.out.symm), HB4.out⟩
          · cases ng with
            | true =>
              by_cases hx0 : x = 0
              · by_cases hy0 : y = 0
                · have q4 : (x != 0) = false := by simpa using hx0
                  have q5 : (y != 0) = false := by simpa using hy0
                  have HN2 : Hid (RatS.N2 ⟨true, la, lb, true⟩) := by
                    show ¬ (_ ∨ _)
                    rw [HRX.out, HRY.out]; exact fun h => h.elim (fun h => h hx0) (fun h => h hy0)
                  have HZA : Hid (natE la = 0) := HX.out.trans hx0
                  have HZB : Hid (natE lb = 0) := HY.out.trans hy0
                  clear hx0 hy0
                  by_cases hb0 : lb = [48]
                  · have q6 : (B.toList == [48]) = true := by rw [HB0.out.1]; exact decide_eq_true hb0
                    have q6' : B.toList = [48] := by simpa using q6
                    have HV := Lib.hid (RatS.e3 (r := ⟨true, la, lb, true⟩) HN5.out HN2.out ⟨rfl, Or.inl hb0⟩)
                    clear hb0
                    go_wp2_with fail
                    go_ret
                    exact ⟨ret_int (by rw [HR.out]; exact HV.out.symm), HB4.out⟩
                  · have q6 : (B.toList == [48]) = false := by rw [HB0.out.1]; exact decide_eq_false hb0
                    have q6' : ¬ B.toList = [48] := by simpa using q6
                    by_cases hb1 : lb = [49]
                    · have q7 : (B.toList == [49]) = true := by rw [HB0.out.2]; exact decide_eq_true hb1
                      have q7' : B.toList = [49] := by simpa using q7
                      have HV := Lib.hid (RatS.e3 (r := ⟨true, la, lb, true⟩) HN5.out HN2.out ⟨rfl, Or.inr (Or.inl hb1)⟩)
                      clear hb1 hb0
                      go_wp2_with fail
                      go_ret
                      exact ⟨ret_int (by rw [HR.out]; exact HV.out.symm), HB4.out⟩
                    · have q7 : (B.toList == [49]) = false := by rw [HB0.out.2]; exact decide_eq_false hb1
                      have q7' : ¬ B.toList = [49] := by simpa using q7
                      have HBN : Hid (lb ≠ [48] ∧ lb ≠ [49]) := ⟨hb0, hb1⟩
                      have HRA := Lib.hid (fun W => read_c A W (by have h1 := (natE_digs HZA.out).2.1; have h2 : A.data.toList.length = A.size := by simp
                                                                   rw [HAL.out] at h2; omega) (by rw [HAL.out]; exact (natE_digs HZA.out).1))
                      have HRB := Lib.hid (fun W => read_c B W (by have h1 := (natE_digs HZB.out).2.1; have h2 : B.data.toList.length = B.size := by simp
                                                                   rw [HBL.out] at h2; omega) (by rw [HBL.out]; exact (natE_digs HZB.out).1))
                      rw [HAL.out] at HRA
                      rw [HBL.out] at HRB
                      have HLA := Lib.hid (dec_ln HZA.out)
                      have HLB := Lib.hid (dec_ln HZB.out)
                      clear hb0 hb1
                      go_wp2_with fail
                      refine (HRA.out _).mono ?_; rintro e w5 ⟨⟨v5, rfl, hn5⟩, hb5⟩
                      have HB5 := Lib.hid (belowT HB4.out hb5)
                      have N5 := Lib.hid hn5.nv
                      clear hn5 hb5
                      go_wp2_with fail
                      refine (HRB.out _).mono ?_; rintro e w6 ⟨⟨v6, rfl, hn6⟩, hb6⟩
                      have HB6 := Lib.hid (belowT HB5.out hb6)
                      have HGC := Lib.hid (ngcd_c _ _ _ _ w6 (N5.out.below hb6) hn6.nv (by have := HLA.out; omega) (by have := HLB.out; omega))
                      clear hn6 hb6
                      go_wp2_with fail
                      refine HGC.out.mono ?_; rintro e w7 ⟨⟨v7, rfl, hn7⟩, hb7⟩
                      have HB7 := Lib.hid (belowT HB6.out hb7)
                      have N7 := Lib.hid hn7
                      have HOF := Lib.hid (nof_c 1 w7 (by omega))
                      clear hn7 hb7 HGC
                      go_wp2_with fail
                      refine HOF.out.mono ?_; rintro e w8 ⟨⟨v8, rfl, hn8⟩, hb8⟩
                      have HB8 := Lib.hid (belowT HB7.out hb8)
                      have HCM := Lib.hid (ncmp_c _ _ _ _ w8 (N7.out.below hb8) hn8.nv)
                      obtain ⟨cm, hcm⟩ : ∃ c, cmpN (Nat.gcd (decV la) (decV lb)) 1 = c := ⟨_, rfl⟩
                      have HCE := Lib.hid hcm
                      rw [hcm] at HCM
                      clear hn8 hb8 HOF hcm
                      have hcz : (cm = 0 ∧ Nat.gcd (decV la) (decV lb) = 1) ∨ (cm ≠ 0 ∧ Nat.gcd (decV la) (decV lb) ≠ 1) := by
                        rw [← HCE.out]
                        unfold cmpN
                        split
                        · exact Or.inr ⟨by decide, by omega⟩
                        · split
                          · exact Or.inr ⟨by decide, by omega⟩
                          · exact Or.inl ⟨rfl, by omega⟩
                      rcases hcz with ⟨rfl, hg⟩ | ⟨hc, hg⟩
                      · have HV := Lib.hid (RatS.e0 (r := ⟨true, la, lb, true⟩) HN5.out HN2.out (fun h => h.2.elim HBN.out.1 (fun h => h.elim HBN.out.2 (fun h => h hg))))
                        clear hg
                        go_wp2_with fail
                        refine HCM.out.mono ?_; rintro e w9 ⟨rfl, hb9⟩
                        have HB9 := Lib.hid (belowT HB8.out hb9)
                        clear hb9
                        go_wp2_with fail
                        go_ret
                        exact ⟨ret_int (by rw [HR.out]; exact HV.out.symm), HB9.out⟩
                      · have q8 : (cm != 0) = true := by simpa using hc
                        have HV := Lib.hid (RatS.e3 (r := ⟨true, la, lb, true⟩) HN5.out HN2.out ⟨rfl, Or.inr (Or.inr hg)⟩)
                        clear hg hc
                        go_wp2_with fail
                        refine HCM.out.mono ?_; rintro e w9 ⟨rfl, hb9⟩
                        have HB9 := Lib.hid (belowT HB8.out hb9)
                        clear hb9
                        go_wp2_with fail
                        go_ret
                        exact ⟨ret_int (by rw [HR.out]; exact HV.out.symm), HB9.out⟩
                · have q5 : (y != 0) = true := by simpa using hy0
                  have HV := Lib.hid (RatS.e2 (r := ⟨true, la, lb, true⟩) HN5.out (Or.inr (by rw [HRY.out]; exact hy0)))
                  subst hx0
                  clear hy0
                  go_wp2_with fail
                  go_ret
                  exact ⟨ret_int (by rw [HR.out]; exact HV.out.symm), HB4.out⟩
              · have q4 : (x != 0) = true := by simpa using hx0
                have HV := Lib.hid (RatS.e2 (r := ⟨true, la, lb, true⟩) HN5.out (Or.inl (by rw [HRX.out]; exact hx0)))
                clear hx0
                go_wp2_with fail
                go_ret
                exact ⟨ret_int (by rw [HR.out]; exact HV.out.symm), HB4.out⟩
            | false =>
              by_cases hx0 : x = 0
              · by_cases hy0 : y = 0
                · have q4 : (x != 0) = false := by simpa using hx0
                  have q5 : (y != 0) = false := by simpa using hy0
                  have HN2 : Hid (RatS.N2 ⟨false, la, lb, true⟩) := by
                    show ¬ (_ ∨ _)
                    rw [HRX.out, HRY.out]; exact fun h => h.elim (fun h => h hx0) (fun h => h hy0)
                  have HZA : Hid (natE la = 0) := HX.out.trans hx0
                  have HZB : Hid (natE lb = 0) := HY.out.trans hy0
                  clear hx0 hy0
                  by_cases hb0 : lb = [48]
                  · have q6 : (B.toList == [48]) = true := by rw [HB0.out.1]; exact decide_eq_true hb0
                    have q6' : B.toList = [48] := by simpa using q6
                    have HV := Lib.hid (RatS.e3 (r := ⟨false, la, lb, true⟩) HN5.out HN2.out ⟨rfl, Or.inl hb0⟩)
                    clear hb0
                    go_wp2_with fail
                    go_ret
                    exact ⟨ret_int (by rw [HR.out]; exact HV.out.symm), HB4.out⟩
                  · have q6 : (B.toList == [48]) = false := by rw [HB0.out.1]; exact decide_eq_false hb0
                    have q6' : ¬ B.toList = [48] := by simpa using q6
                    by_cases hb1 : lb = [49]
                    · have q7 : (B.toList == [49]) = true := by rw [HB0.out.2]; exact decide_eq_true hb1
                      have q7' : B.toList = [49] := by simpa using q7
                      have HV := Lib.hid (RatS.e3 (r := ⟨false, la, lb, true⟩) HN5.out HN2.out ⟨rfl, Or.inr (Or.inl hb1)⟩)
                      clear hb1 hb0
                      go_wp2_with fail
                      go_ret
                      exact ⟨ret_int (by rw [HR.out]; exact HV.out.symm), HB4.out⟩
                    · have q7 : (B.toList == [49]) = false := by rw [HB0.out.2]; exact decide_eq_false hb1
                      have q7' : ¬ B.toList = [49] := by simpa using q7
                      have HBN : Hid (lb ≠ [48] ∧ lb ≠ [49]) := ⟨hb0, hb1⟩
                      have HRA := Lib.hid (fun W => read_c A W (by have h1 := (natE_digs HZA.out).2.1; have h2 : A.data.toList.length = A.size := by simp
                                                                   rw [HAL.out] at h2; omega) (by rw [HAL.out]; exact (natE_digs HZA.out).1))
                      have HRB := Lib.hid (fun W => read_c B W (by have h1 := (natE_digs HZB.out).2.1; have h2 : B.data.toList.length = B.size := by simp
                                                                   rw [HBL.out] at h2; omega) (by rw [HBL.out]; exact (natE_digs HZB.out).1))
                      rw [HAL.out] at HRA
                      rw [HBL.out] at HRB
                      have HLA := Lib.hid (dec_ln HZA.out)
                      have HLB := Lib.hid (dec_ln HZB.out)
                      clear hb0 hb1
                      go_wp2_with fail
                      refine (HRA.out _).mono ?_; rintro e w5 ⟨⟨v5, rfl, hn5⟩, hb5⟩
                      have HB5 := Lib.hid (belowT HB4.out hb5)
                      have N5 := Lib.hid hn5.nv
                      clear hn5 hb5
                      go_wp2_with fail
                      refine (HRB.out _).mono ?_; rintro e w6 ⟨⟨v6, rfl, hn6⟩, hb6⟩
                      have HB6 := Lib.hid (belowT HB5.out hb6)
                      have HGC := Lib.hid (ngcd_c _ _ _ _ w6 (N5.out.below hb6) hn6.nv (by have := HLA.out; omega) (by have := HLB.out; omega))
                      clear hn6 hb6
                      go_wp2_with fail
                      refine HGC.out.mono ?_; rintro e w7 ⟨⟨v7, rfl, hn7⟩, hb7⟩
                      have HB7 := Lib.hid (belowT HB6.out hb7)
                      have N7 := Lib.hid hn7
                      have HOF := Lib.hid (nof_c 1 w7 (by omega))
                      clear hn7 hb7 HGC
                      go_wp2_with fail
                      refine HOF.out.mono ?_; rintro e w8 ⟨⟨v8, rfl, hn8⟩, hb8⟩
                      have HB8 := Lib.hid (belowT HB7.out hb8)
                      have HCM := Lib.hid (ncmp_c _ _ _ _ w8 (N7.out.below hb8) hn8.nv)
                      obtain ⟨cm, hcm⟩ : ∃ c, cmpN (Nat.gcd (decV la) (decV lb)) 1 = c := ⟨_, rfl⟩
                      have HCE := Lib.hid hcm
                      rw [hcm] at HCM
                      clear hn8 hb8 HOF hcm
                      have hcz : (cm = 0 ∧ Nat.gcd (decV la) (decV lb) = 1) ∨ (cm ≠ 0 ∧ Nat.gcd (decV la) (decV lb) ≠ 1) := by
                        rw [← HCE.out]
                        unfold cmpN
                        split
                        · exact Or.inr ⟨by decide, by omega⟩
                        · split
                          · exact Or.inr ⟨by decide, by omega⟩
                          · exact Or.inl ⟨rfl, by omega⟩
                      rcases hcz with ⟨rfl, hg⟩ | ⟨hc, hg⟩
                      · have HV := Lib.hid (RatS.e0 (r := ⟨false, la, lb, true⟩) HN5.out HN2.out (fun h => h.2.elim HBN.out.1 (fun h => h.elim HBN.out.2 (fun h => h hg))))
                        clear hg
                        go_wp2_with fail
                        refine HCM.out.mono ?_; rintro e w9 ⟨rfl, hb9⟩
                        have HB9 := Lib.hid (belowT HB8.out hb9)
                        clear hb9
                        go_wp2_with fail
                        go_ret
                        exact ⟨ret_int (by rw [HR.out]; exact HV.out.symm), HB9.out⟩
                      · have q8 : (cm != 0) = true := by simpa using hc
                        have HV := Lib.hid (RatS.e3 (r := ⟨false, la, lb, true⟩) HN5.out HN2.out ⟨rfl, Or.inr (Or.inr hg)⟩)
                        clear hg hc
                        go_wp2_with fail
                        refine HCM.out.mono ?_; rintro e w9 ⟨rfl, hb9⟩
                        have HB9 := Lib.hid (belowT HB8.out hb9)
                        clear hb9
                        go_wp2_with fail
                        go_ret
                        exact ⟨ret_int (by rw [HR.out]; exact HV.out.symm), HB9.out⟩
                · have q5 : (y != 0) = true := by simpa using hy0
                  have HV := Lib.hid (RatS.e2 (r := ⟨false, la, lb, true⟩) HN5.out (Or.inr (by rw [HRY.out]; exact hy0)))
                  subst hx0
                  clear hy0
                  go_wp2_with fail
                  go_ret
                  exact ⟨ret_int (by rw [HR.out]; exact HV.out.symm), HB4.out⟩
              · have q4 : (x != 0) = true := by simpa using hx0
                have HV := Lib.hid (RatS.e2 (r := ⟨false, la, lb, true⟩) HN5.out (Or.inl (by rw [HRX.out]; exact hx0)))
                clear hx0
                go_wp2_with fail
                go_ret
                exact ⟨ret_int (by rw [HR.out]; exact HV.out.symm), HB4.out⟩
  | false =>
    have HRX : Hid ((⟨ng, la, lb, false⟩ : RatS).x = x) := HX.out
    have HRY : Hid ((⟨ng, la, lb, false⟩ : RatS).y = 0) := rfl
    by_cases hx5 : x = 5
    · have q1 : (x == 5) = true := by rw [beq_iff_eq]; exact hx5
      have HV := Lib.hid (RatS.e5 (r := ⟨ng, la, lb, false⟩) (Or.inl (by rw [HRX.out]; exact hx5)))
      clear hx5
      go_wp2_with fail
      go_ret
      exact ⟨ret_int (by rw [HR.out]; exact HV.out.symm), HB3.out⟩
    · have q1 : (x == 5) = false := by rw [beq_eq_false_iff_ne]; exact hx5
      by_cases hn : ng = true ∧ la = [48]
      · obtain ⟨rfl, hla⟩ := hn
        have q3 : (A.toList == [48]) = true := by rw [HA0.out]; exact decide_eq_true hla
        have HV := Lib.hid (RatS.e5 (r := ⟨true, la, lb, false⟩) (Or.inr (Or.inr ⟨rfl, hla⟩)))
        clear hx5 hla
        go_wp2_with fail
        go_ret
        exact ⟨ret_int (by rw [HR.out]; exact HV.out.symm), HB3.out⟩
      · have HN5 : Hid (RatS.N5 ⟨ng, la, lb, false⟩) := by
          show ¬ (_ ∨ _ ∨ _)
          rw [HRX.out, HRY.out]; exact fun h => h.elim hx5 (fun h => h.elim (by decide) hn)
        have q3 : ng = false ∨ (A.toList == [48]) = false := by
          cases ng with
          | false => exact Or.inl rfl
          | true => exact Or.inr (by rw [HA0.out]; exact decide_eq_false fun h => hn ⟨rfl, h⟩)
        clear hx5 hn
        by_cases hx0 : x = 0
        · have HV := Lib.hid (RatS.e0 (r := ⟨ng, la, lb, false⟩) HN5.out (by show ¬ (_ ∨ _); rw [HRX.out, HRY.out]; exact fun h => h.elim (fun h => h hx0) (fun h => h rfl)) (fun h => by cases h.1))
          subst hx0
          rcases q3 with rfl | q3
          ·
            go_wp2_with fail
            go_ret
            exact ⟨ret_int (by rw [HR.out]; exact HV.out.symm), HB3.out⟩
          · cases ng with
            | true =>
              go_wp2_with fail
              go_ret
              exact ⟨ret_int (by rw [HR.out]; exact HV.out.symm), HB3.out⟩
            | false =>
              go_wp2_with fail
              go_ret
              exact ⟨ret_int (by rw [HR.out]; exact HV.out.symm), HB3.out⟩
        · have q4 : (x != 0) = true := by simpa using hx0
          have HV := Lib.hid (RatS.e2 (r := ⟨ng, la, lb, false⟩) HN5.out (Or.inl (by rw [HRX.out]; exact hx0)))
          clear hx0
          rcases q3 with rfl | q3
          ·
            go_wp2_with fail
            go_ret
            exact ⟨ret_int (by rw [HR.out]; exact HV.out.symm), HB3.out⟩
          · cases ng with
            | true =>
              go_wp2_with fail
              go_ret
              exact ⟨ret_int (by rw [HR.out]; exact HV.out.symm), HB3.out⟩
            | false =>
              go_wp2_with fail
              go_ret
              exact ⟨ret_int (by rw [HR.out]; exact HV.out.symm), HB3.out⟩
end Go.Proofs.Ythcddboeejbncaa
