/- nat.Read: the number of a text. Division of naturals, digit by digit: what the guess of a digit is worth. -/
import Derived.Test.YthcddboeejbncaaPkTxt2Nat3
import Derived.Test.YthcddboeejbncaaPzNat4
import Derived.Test.YthcddboeejbncaaPkNetOApp
namespace Go.Proofs.Ythcddboeejbncaa
open Go.RowKit

def decV (l : List UInt8) : Nat := l.foldl (fun a c => a * 10 + (c.toNat - 48)) 0
theorem dec_fold (l : List UInt8) : ∀ a, l.foldl (fun a c => a * 10 + (c.toNat - 48)) a = a * 10 ^ l.length + decV l := by
  unfold decV
  induction l with
  | nil => intro a; simp
  | cons c l ih =>
    intro a
    simp only [List.foldl_cons, List.length_cons]
    rw [ih, ih (0 * 10 + (c.toNat - 48)), Nat.pow_succ]
    grind
theorem dec_append (l m : List UInt8) : decV (l ++ m) = decV l * 10 ^ m.length + decV m := by
  conv => lhs; unfold decV
  rw [List.foldl_append, dec_fold m]; rfl
theorem dec_snoc (l : List UInt8) (c : UInt8) : decV (l ++ [c]) = decV l * 10 + (c.toNat - 48) := by
  rw [dec_append]; simp [decV]
theorem digs_all {l : List UInt8} (h : digsE l = true) : ∀ c ∈ l, 48 ≤ c.toNat ∧ c.toNat ≤ 57 := by
  induction l with
  | nil => intro c hc; cases hc
  | cons d l ih =>
    unfold digsE at h
    by_cases hd : digB d.toNat = true
    · rw [if_pos hd] at h
      intro c hc
      rcases List.mem_cons.1 hc with rfl | hc
      · unfold digB at hd; simp at hd; omega
      · exact ih h c hc
    · rw [if_neg hd] at h; cases h
theorem dec_lt {l : List UInt8} (h : ∀ c ∈ l, 48 ≤ c.toNat ∧ c.toNat ≤ 57) : decV l < 10 ^ l.length := by
  induction l with
  | nil => decide
  | cons d l ih =>
    have h1 := h d (by simp)
    have h2 := ih (fun c hc => h c (List.mem_cons_of_mem _ hc))
    rw [show d :: l = [d] ++ l from rfl, dec_append, List.length_append, List.length_singleton, Nat.pow_add]
    have h3 : decV [d] ≤ 9 := by simp [decV]; omega
    have h4 : decV [d] * 10 ^ l.length ≤ 9 * 10 ^ l.length := Nat.mul_le_mul_right _ h3
    omega
theorem pow_nine {k : Nat} (h : k ≤ 9) : 10 ^ k ≤ 1000000000 := by
  calc 10 ^ k ≤ 10 ^ 9 := Nat.pow_le_pow_right (by omega) h
    _ = 1000000000 := by decide
theorem pow_eight {k : Nat} (h : k ≤ 8) : 10 ^ k ≤ 100000000 := by
  calc 10 ^ k ≤ 10 ^ 8 := Nat.pow_le_pow_right (by omega) h
    _ = 100000000 := by decide
theorem pw_ten (j : Nat) : pw j = ((10 ^ (9 * j) : Nat) : Int) := by
  induction j with
  | zero => rfl
  | succ j ih =>
    rw [pw_succ, ih, show 9 * (j + 1) = 9 * j + 9 by omega, Nat.pow_add, Nat.mul_comm]
    have : (10 : Nat) ^ 9 = 1000000000 := by decide
    rw [this, Int.natCast_mul, Int.mul_comm]
    congr 1
theorem take_snoc8 {l : List UInt8} {k : Nat} (h : k < l.length) : l.take (k + 1) = l.take k ++ [l.getD k 0] := by
  rw [List.take_succ_eq_append_getElem h, List.getD_eq_getElem?_getD, List.getElem?_eq_getElem h]; rfl
/-- A chunk is read behind what is read. -/
theorem dec_chunk {l : List UInt8} {a e j : Nat} {ds : List Int} (hae : a ≤ e) (hj : l.length - e = 9 * j) (hl : ds.length = j) (hv : val ds = (decV (l.drop e) : Nat)) :
    val (ds ++ [((decV ((l.drop a).take (e - a)) : Nat) : Int)]) = (decV (l.drop a) : Nat) := by
  rw [val_snoc, hl, hv, pw_ten]
  have h1 : l.drop a = (l.drop a).take (e - a) ++ l.drop e := by
    conv => lhs; rw [← List.take_append_drop (e - a) (l.drop a)]
    rw [List.drop_drop]; congr 2; omega
  conv => rhs; rw [h1, dec_append]
  rw [List.length_drop, hj]
  push_cast
  grind
theorem extract_list (s : ByteArray) (a b : Nat) : (s.extract a b).data.toList = (s.data.toList.drop a).take (b - a) := by
  rw [ByteArray.data_extract, Array.toList_extract, List.extract_eq_take_drop]
set_option maxHeartbeats 2000000 in
theorem read_c (s : ByteArray) (w : World) (hs : s.size ≤ 1000000000000) (hd : digsE s.data.toList = true) :
    Calls Try.prog 75 #[.string s] w fun e w' => (∃ v', e = .returned v' ∧ NO w.heap.size w' v' (decV s.data.toList)) ∧ Below w.heap.size w w' := by
  have hcv : ∀ (x : ByteArray) (W : World), (convert 9 147 (.string x)).run Try.prog W = .ok (.slice (some ⟨W.heap.size, 0, none⟩) x.size (grownCap W x.size 0 5)) (Lib.bytesWorld W 5 x) := fun x W =>
    Lib.run_convert_string_bytes W 9 147 5 x Try.underlying9 Try.underlying147 Try.underlying5
  have HLen : Hid (s.data.toList.length = s.size) := by show _ = _; simp
  have HDA := Lib.hid (digs_all hd)
  have HCV := Lib.hid hcv
  obtain ⟨n, hn⟩ : ∃ n, s.size = n := ⟨_, rfl⟩
  have HN := Lib.hid hn
  rw [hn] at hs
  clear hd hcv
  go_enter Try.func75, Try.ntmps75
  go_wp2_with fail
  go_loopw [4, 3] (fun ev ov wr => ∃ (j : Nat) (z : Int) (ds : List Int), Hid (z = n - 9 * j) ∧ -9 < z ∧ z ≤ n ∧ ev = .int .i64 z ∧ j ≤ n ∧ Hid (ds.length = j ∧ DgOk ds ∧ val ds = (decV (s.data.toList.drop z.toNat) : Nat)) ∧ Hid (RO w.heap.size wr ov ds) ∧ Hid (Below w.heap.size w wr)) (fun ev _ _ => (intOf ev).toNat)
  case atStart => exact ⟨0, n, [], by show _ = _; omega, by omega, Int.le_refl _, rfl, Nat.zero_le _, ⟨rfl, DgOk.nil, by rw [List.drop_eq_nil_of_le (by rw [HLen.out, HN.out]; omega)]; rfl⟩, RO.nil _ _, Below.refl _ _⟩
  case round =>
    obtain ⟨j, z, ds, hz, hz1, hz2, rfl, hjn, hI, ho, hb⟩ := hrel
    by_cases h0 : 0 < z
    · obtain ⟨e, rfl⟩ : ∃ e : Nat, z = e := ⟨z.toNat, by omega⟩
      by_cases h9 : e ≤ 9
      · have q1 : (max 0 ((e : Int) - 9)) = 0 := by omega
        clear hn
        obtain ⟨x, hx⟩ : ∃ x, s.extract 0 e = x := ⟨_, rfl⟩
        have HXL : Hid (x.data.toList = (s.data.toList.drop 0).take (e - 0)) := by show _ = _; rw [← hx]; exact extract_list _ _ _
        have hxs : x.size ≤ 9 ∧ x.size = e - 0 := by
          have h1 : x.data.toList.length = x.size := by simp
          rw [← h1, HXL.out, List.length_take, List.length_drop, HLen.out, HN.out]
          omega
        have HXS := Lib.hid hxs.2
        have hx9 := hxs.1
        have HXD : Hid (∀ c ∈ x.data.toList, 48 ≤ c.toNat ∧ c.toNat ≤ 57) := fun c hc => HDA.out c (by
          rw [HXL.out] at hc
          exact List.mem_of_mem_drop (List.mem_of_mem_take hc))
        have hlx : x.data.toList.length = x.size := by simp
        have HLX := Lib.hid hlx
        have hcx := HCV.out x
        have hes : e ≤ s.size := by rw [HN.out]; omega
        have hle : 0 ≤ e := by omega
        clear hxs hlx
        go_wp2_with (first | rw [hcx] | rw [hx, hcx])
        have hc1 : ∀ j, j < x.size → (Lib.bytesWorld wr 5 x).cell? ⟨wr.heap.size, j, none⟩ = some (.int .u8 (x.data.toList.getD j 0).toNat) := fun j hj => Lib.bytesWorld_cell wr 5 x j hj
        have HB := Lib.hid (hb.out.trans ((below_bytes wr 5 x).mono hb.out.size))
        have HO := Lib.hid (ho.out.below (below_bytes wr 5 x))
        have HC := Lib.hid hc1
        clear hc1 hcx ho hb hx
        generalize Lib.bytesWorld wr 5 x = W1 at *
        generalize grownCap wr x.size 0 5 = cp at *
        generalize wr.heap.size = xb at *
        go_loopw [22, 5] (fun i dv wq => ∃ (k d : Nat), k ≤ x.size ∧ i = .int .i64 k ∧ dv = .int .u32 d ∧ Hid (d = decV (x.data.toList.take k)) ∧ W1 = wq) (fun i _ _ => x.size - (intOf i).toNat)
        case atStart => exact ⟨0, 0, Nat.zero_le _, rfl, rfl, rfl, rfl⟩
        case round =>
          obtain ⟨k, d, hk, rfl, rfl, hdv, rfl⟩ := hrel
          by_cases hlt : k < x.size
          · have x0 := HC.out k hlt
            have hts := take_snoc8 (l := x.data.toList) (k := k) (by rw [HLX.out]; exact hlt)
            have hmem := HXD.out (x.data.toList.getD k 0) (by rw [List.getD_eq_getElem?_getD, List.getElem?_eq_getElem (by rw [HLX.out]; exact hlt)]; exact List.getElem_mem _)
            have hds := dec_snoc (x.data.toList.take k) (x.data.toList.getD k 0)
            rw [← hts, ← hdv.out] at hds
            have hlt2 : d < 100000000 := by
              rw [hdv.out]
              have h1 := dec_lt (l := x.data.toList.take k) (fun c hc => HXD.out c (List.mem_of_mem_take hc))
              rw [List.length_take, HLX.out, Nat.min_eq_left (by omega)] at h1
              exact Nat.lt_of_lt_of_le h1 (pow_eight (by omega))
            generalize (x.data.toList.getD k 0).toNat = c at *
            have HDS : Hid (d * 10 + (c - 48) = decV (x.data.toList.take (k + 1))) := hds.symm
            have e1 : ((c : Int) - 48) = ((c - 48 : Nat) : Int) := by omega
            have c8 : c - 48 ≤ 9 := by omega
            obtain ⟨y, hy⟩ : ∃ y, c - 48 = y := ⟨_, rfl⟩
            rw [hy] at HDS e1 c8
            clear hts hds hdv hy
            go_wp2_with fail
            go_roundw
            case rel => exact ⟨k + 1, d * 10 + y, hlt, by go_num, by first | rfl | (push_cast; rfl), HDS, trivial⟩
            case measure => (simp [intOf] <;> omega)
          · obtain rfl : k = x.size := by omega
            have hd9 : d < 1000000000 := by
              rw [hdv.out]
              have h1 := dec_lt (l := x.data.toList.take x.size) (fun c hc => HXD.out c (List.mem_of_mem_take hc))
              rw [List.length_take, HLX.out, Nat.min_eq_left (by omega)] at h1
              exact Nat.lt_of_lt_of_le h1 (pow_nine (by omega))
            have HDV : Hid (d = decV ((s.data.toList.drop 0).take (e - 0))) := by
              show _ = _
              rw [hdv.out, List.take_of_length_le (by rw [HLX.out]; exact Nat.le_refl _), HXL.out]
            obtain ⟨v7, w7, h7, hr7, hb7⟩ := (HO.out.alloc (.cells #[.int .u32 (d : Int)] 123)).app (by rw [World.size_alloc]; have := HB.out.size; omega) d W1.heap.size ((Blk.new _ _ _).cell 0 rfl) (by rw [hI.out.1]; omega)
            have HR7 := Lib.hid hr7
            have HB7 := Lib.hid ((HB.out.alloc HB.out.size (.cells #[.int .u32 (d : Int)] 123)).trans hb7)
            have HI' : Hid ((ds ++ [(d : Int)]).length = j + 1 ∧ DgOk (ds ++ [(d : Int)]) ∧ val (ds ++ [(d : Int)]) = (decV (s.data.toList.drop ((e : Int) - 9).toNat) : Nat)) := by
              refine ⟨by simp [hI.out.1], hI.out.2.1.append (DgOk.cons (by omega) (by omega) DgOk.nil), ?_⟩
              have h1 := dec_chunk (l := s.data.toList) (a := 0) (e := e) (j := j) (by omega) (by rw [HLen.out, HN.out]; have := hz.out; omega) hI.out.1 (by have := hI.out.2.2; simpa using this)
              rw [← HDV.out] at h1
              rw [h1]
              first | rfl | (congr 3; done) | (congr 3; omega)
            clear hr7 hb7 hdv HO HB
            go_wp2_with (at_builtin; refine wpList_append_told rfl (.tmp 33) (.tmp 35) 78 rfl _ _ rfl rfl v7 w7 (h7 _) ?_)
            go_roundw
            case rel => exact ⟨j + 1, _, _, by show _ = _; have := hz.out; omega, by omega, by omega, by first | rfl | go_num, by have := hz.out; omega, HI', HR7, HB7⟩
            case measure => (simp [intOf] <;> omega)
      · obtain ⟨f, hf⟩ : ∃ f : Nat, (e : Int) - 9 = f := ⟨e - 9, by omega⟩
        have q1 : (max 0 (f : Int)) = (f : Int) := by omega
        clear hn
        obtain ⟨x, hx⟩ : ∃ x, s.extract f e = x := ⟨_, rfl⟩
        have HXL : Hid (x.data.toList = (s.data.toList.drop f).take (e - f)) := by show _ = _; rw [← hx]; exact extract_list _ _ _
        have hxs : x.size ≤ 9 ∧ x.size = e - f := by
          have h1 : x.data.toList.length = x.size := by simp
          rw [← h1, HXL.out, List.length_take, List.length_drop, HLen.out, HN.out]
          omega
        have HXS := Lib.hid hxs.2
        have hx9 := hxs.1
        have HXD : Hid (∀ c ∈ x.data.toList, 48 ≤ c.toNat ∧ c.toNat ≤ 57) := fun c hc => HDA.out c (by
          rw [HXL.out] at hc
          exact List.mem_of_mem_drop (List.mem_of_mem_take hc))
        have hlx : x.data.toList.length = x.size := by simp
        have HLX := Lib.hid hlx
        have hcx := HCV.out x
        have hes : e ≤ s.size := by rw [HN.out]; omega
        have hle : f ≤ e := by omega
        clear hxs hlx
        go_wp2_with (first | rw [hcx] | rw [hx, hcx])
        have hc1 : ∀ j, j < x.size → (Lib.bytesWorld wr 5 x).cell? ⟨wr.heap.size, j, none⟩ = some (.int .u8 (x.data.toList.getD j 0).toNat) := fun j hj => Lib.bytesWorld_cell wr 5 x j hj
        have HB := Lib.hid (hb.out.trans ((below_bytes wr 5 x).mono hb.out.size))
        have HO := Lib.hid (ho.out.below (below_bytes wr 5 x))
        have HC := Lib.hid hc1
        clear hc1 hcx ho hb hx
        generalize Lib.bytesWorld wr 5 x = W1 at *
        generalize grownCap wr x.size 0 5 = cp at *
        generalize wr.heap.size = xb at *
        go_loopw [22, 5] (fun i dv wq => ∃ (k d : Nat), k ≤ x.size ∧ i = .int .i64 k ∧ dv = .int .u32 d ∧ Hid (d = decV (x.data.toList.take k)) ∧ W1 = wq) (fun i _ _ => x.size - (intOf i).toNat)
        case atStart => exact ⟨0, 0, Nat.zero_le _, rfl, rfl, rfl, rfl⟩
        case round =>
          obtain ⟨k, d, hk, rfl, rfl, hdv, rfl⟩ := hrel
          by_cases hlt : k < x.size
          · have x0 := HC.out k hlt
            have hts := take_snoc8 (l := x.data.toList) (k := k) (by rw [HLX.out]; exact hlt)
            have hmem := HXD.out (x.data.toList.getD k 0) (by rw [List.getD_eq_getElem?_getD, List.getElem?_eq_getElem (by rw [HLX.out]; exact hlt)]; exact List.getElem_mem _)
            have hds := dec_snoc (x.data.toList.take k) (x.data.toList.getD k 0)
            rw [← hts, ← hdv.out] at hds
            have hlt2 : d < 100000000 := by
              rw [hdv.out]
              have h1 := dec_lt (l := x.data.toList.take k) (fun c hc => HXD.out c (List.mem_of_mem_take hc))
              rw [List.length_take, HLX.out, Nat.min_eq_left (by omega)] at h1
              exact Nat.lt_of_lt_of_le h1 (pow_eight (by omega))
            generalize (x.data.toList.getD k 0).toNat = c at *
            have HDS : Hid (d * 10 + (c - 48) = decV (x.data.toList.take (k + 1))) := hds.symm
            have e1 : ((c : Int) - 48) = ((c - 48 : Nat) : Int) := by omega
            have c8 : c - 48 ≤ 9 := by omega
            obtain ⟨y, hy⟩ : ∃ y, c - 48 = y := ⟨_, rfl⟩
            rw [hy] at HDS e1 c8
            clear hts hds hdv hy
            go_wp2_with fail
            go_roundw
            case rel => exact ⟨k + 1, d * 10 + y, hlt, by go_num, by first | rfl | (push_cast; rfl), HDS, trivial⟩
            case measure => (simp [intOf] <;> omega)
          · obtain rfl : k = x.size := by omega
            have hd9 : d < 1000000000 := by
              rw [hdv.out]
              have h1 := dec_lt (l := x.data.toList.take x.size) (fun c hc => HXD.out c (List.mem_of_mem_take hc))
              rw [List.length_take, HLX.out, Nat.min_eq_left (by omega)] at h1
              exact Nat.lt_of_lt_of_le h1 (pow_nine (by omega))
            have HDV : Hid (d = decV ((s.data.toList.drop f).take (e - f))) := by
              show _ = _
              rw [hdv.out, List.take_of_length_le (by rw [HLX.out]; exact Nat.le_refl _), HXL.out]
            obtain ⟨v7, w7, h7, hr7, hb7⟩ := (HO.out.alloc (.cells #[.int .u32 (d : Int)] 123)).app (by rw [World.size_alloc]; have := HB.out.size; omega) d W1.heap.size ((Blk.new _ _ _).cell 0 rfl) (by rw [hI.out.1]; omega)
            have HR7 := Lib.hid hr7
            have HB7 := Lib.hid ((HB.out.alloc HB.out.size (.cells #[.int .u32 (d : Int)] 123)).trans hb7)
            have HI' : Hid ((ds ++ [(d : Int)]).length = j + 1 ∧ DgOk (ds ++ [(d : Int)]) ∧ val (ds ++ [(d : Int)]) = (decV (s.data.toList.drop ((f : Int)).toNat) : Nat)) := by
              refine ⟨by simp [hI.out.1], hI.out.2.1.append (DgOk.cons (by omega) (by omega) DgOk.nil), ?_⟩
              have h1 := dec_chunk (l := s.data.toList) (a := f) (e := e) (j := j) (by omega) (by rw [HLen.out, HN.out]; have := hz.out; omega) hI.out.1 (by have := hI.out.2.2; simpa using this)
              rw [← HDV.out] at h1
              rw [h1]
              first | rfl | (congr 3; done) | (congr 3; omega)
            clear hr7 hb7 hdv HO HB
            go_wp2_with (at_builtin; refine wpList_append_told rfl (.tmp 33) (.tmp 35) 78 rfl _ _ rfl rfl v7 w7 (h7 _) ?_)
            go_roundw
            case rel => exact ⟨j + 1, _, _, by show _ = _; have := hz.out; omega, by omega, by omega, by first | rfl | go_num, by have := hz.out; omega, HI', HR7, HB7⟩
            case measure => (simp [intOf] <;> omega)
    · have HT := Lib.hid (ntrim_c w.heap.size _ ds wr ho.out hI.out.2.1)
      have HV : Hid ((val ds).toNat = decV s.data.toList) := by
        show _ = _
        rw [hI.out.2.2, show z.toNat = 0 by omega]; rfl
      have hn0 : ¬ 0 < z := h0
      clear hn
      go_wp2_with fail
      refine HT.out.mono ?_; rintro e w2 ⟨⟨v', rfl, hno⟩, rfl⟩
      go_wp2_with fail
      go_ret
      exact ⟨⟨_, rfl, by rw [← HV.out]; exact hno⟩, hb.out⟩
end Go.Proofs.Ythcddboeejbncaa
namespace Go.Proofs.Ythcddboeejbncaa

/-- The digits in sight: T = u0 u1 u2 low, V = v1 v2 lv, with P for what stands behind two digits of V. -/
structure QF (T V P u0 u1 u2 low v1 v2 lv : Int) : Prop where
  hP : 0 < P
  hT : T = ((u0 * 1000000000 + u1) * 1000000000 + u2) * P + low
  hV : V = (v1 * 1000000000 + v2) * P + lv
  l0 : 0 ≤ low
  l1 : low < P
  m0 : 0 ≤ lv
  m1 : lv < P
  a0 : 0 ≤ u0
  b0 : 0 ≤ u1
  b1 : u1 < 1000000000
  c0 : 0 ≤ u2
  c1 : u2 < 1000000000
  d0 : 0 < v1
  d1 : v1 < 1000000000
  e0 : 0 ≤ v2
  e1 : v2 < 1000000000
  hTV : T < 1000000000 * V
variable {T V P u0 u1 u2 low v1 v2 lv q r : Int}
theorem QF.u0le (h : QF T V P u0 u1 u2 low v1 v2 lv) : u0 ≤ v1 := by
  obtain ⟨hP, hT, hV, l0, l1, m0, m1, a0, b0, b1, c0, c1, d0, d1, e0, e1, hTV⟩ := h
  rcases Int.lt_or_le v1 u0 with hlt | hle
  · exfalso
    have h1 : (v1 + 1) * 1000000000 * 1000000000 * P ≤ u0 * 1000000000 * 1000000000 * P := Int.mul_le_mul_of_nonneg_right (by omega) (by omega)
    have h2 : 0 ≤ (u1 * 1000000000 + u2) * P := Int.mul_nonneg (by omega) (by omega)
    have h3 : (v2 + 1) * P ≤ 1000000000 * P := Int.mul_le_mul_of_nonneg_right (by omega) (by omega)
    have h4 : T = u0 * 1000000000 * 1000000000 * P + (u1 * 1000000000 + u2) * P + low := by rw [hT]; grind
    have h5 : V = v1 * 1000000000 * P + v2 * P + lv := by rw [hV]; grind
    have h6 : (v1 + 1) * 1000000000 * 1000000000 * P = 1000000000 * (v1 * 1000000000 * P) + 1000000000 * (1000000000 * P) := by grind
    have h7 : (v2 + 1) * P = v2 * P + P := by grind
    omega
  · exact hle
theorem QF.vpos (h : QF T V P u0 u1 u2 low v1 v2 lv) : 0 < V ∧ 1000000000 * P ≤ V := by
  obtain ⟨hP, hT, hV, l0, l1, m0, m1, a0, b0, b1, c0, c1, d0, d1, e0, e1, hTV⟩ := h
  have h1 : 1000000000 * P ≤ (v1 * 1000000000 + v2) * P := Int.mul_le_mul_of_nonneg_right (by omega) (by omega)
  omega
/-- The first guess is not too small. -/
theorem QF.start (h : QF T V P u0 u1 u2 low v1 v2 lv) : T < ((u0 * 1000000000 + u1) / v1 + 1) * V := by
  obtain ⟨hP, hT, hV, l0, l1, m0, m1, a0, b0, b1, c0, c1, d0, d1, e0, e1, hTV⟩ := h
  have h1 := Int.mul_ediv_add_emod (u0 * 1000000000 + u1) v1
  have h2 := Int.emod_lt_of_pos (u0 * 1000000000 + u1) d0
  have h0 : 0 ≤ (u0 * 1000000000 + u1) / v1 := Int.ediv_nonneg (by omega) (by omega)
  generalize (u0 * 1000000000 + u1) / v1 = k at *
  generalize (u0 * 1000000000 + u1) % v1 = s at *
  have h3 : (u0 * 1000000000 + u1) + 1 ≤ (k + 1) * v1 := by
    have : (k + 1) * v1 = v1 * k + v1 := by grind
    omega
  have h4 : ((u0 * 1000000000 + u1) + 1) * (1000000000 * P) ≤ (k + 1) * v1 * (1000000000 * P) := Int.mul_le_mul_of_nonneg_right h3 (by omega)
  have h5 : (k + 1) * (v1 * 1000000000 * P) ≤ (k + 1) * V := Int.mul_le_mul_of_nonneg_left (by
    have : 0 ≤ v2 * P := Int.mul_nonneg e0 (by omega)
    have : V = v1 * 1000000000 * P + v2 * P + lv := by rw [hV]; grind
    omega) (by omega)
  have h6 : T = (u0 * 1000000000 + u1) * (1000000000 * P) + u2 * P + low := by rw [hT]; grind
  have h7 : (u2 + 1) * P ≤ 1000000000 * P := Int.mul_le_mul_of_nonneg_right (by omega) (by omega)
  have h8 : (u2 + 1) * P = u2 * P + P := by grind
  have h9 : ((u0 * 1000000000 + u1) + 1) * (1000000000 * P) = (u0 * 1000000000 + u1) * (1000000000 * P) + 1000000000 * P := by grind
  have h10 : (k + 1) * v1 * (1000000000 * P) = (k + 1) * (v1 * 1000000000 * P) := by grind
  omega
/-- A guess that the test tells to be too great is too great. -/
theorem QF.down (h : QF T V P u0 u1 u2 low v1 v2 lv) (hq : q * v1 + r = u0 * 1000000000 + u1) (ht : 1000000000 ≤ q ∨ r * 1000000000 + u2 < q * v2) (hq0 : 0 ≤ q) : T < q * V := by
  have hv := h.vpos
  obtain ⟨hP, hT, hV, l0, l1, m0, m1, a0, b0, b1, c0, c1, d0, d1, e0, e1, hTV⟩ := h
  rcases ht with ht | ht
  · have : 1000000000 * V ≤ q * V := Int.mul_le_mul_of_nonneg_right ht (by omega)
    omega
  · have h1 : (u0 * 1000000000 + u1) * 1000000000 + u2 + 1 ≤ q * (v1 * 1000000000 + v2) := by
      have e1 : q * (v1 * 1000000000 + v2) = (q * v1 + r) * 1000000000 - r * 1000000000 + q * v2 := by grind
      rw [e1, hq]; omega
    have h2 : ((u0 * 1000000000 + u1) * 1000000000 + u2 + 1) * P ≤ q * (v1 * 1000000000 + v2) * P := Int.mul_le_mul_of_nonneg_right h1 (by omega)
    have h3 : q * ((v1 * 1000000000 + v2) * P) ≤ q * V := Int.mul_le_mul_of_nonneg_left (by omega) hq0
    have h4 : ((u0 * 1000000000 + u1) * 1000000000 + u2 + 1) * P = ((u0 * 1000000000 + u1) * 1000000000 + u2) * P + P := by grind
    have h5 : q * (v1 * 1000000000 + v2) * P = q * ((v1 * 1000000000 + v2) * P) := by grind
    omega
/-- The guess at the end is at most one too great. -/
theorem QF.close (h : QF T V P u0 u1 u2 low v1 v2 lv) (hq : q * v1 + r = u0 * 1000000000 + u1) (hq0 : 0 ≤ q) (ht : (q < 1000000000 ∧ q * v2 ≤ r * 1000000000 + u2) ∨ 1000000000 ≤ r) : q < 1000000000 ∧ q * V < T + V := by
  have hv := h.vpos
  have hu := h.u0le
  obtain ⟨hP, hT, hV, l0, l1, m0, m1, a0, b0, b1, c0, c1, d0, d1, e0, e1, hTV⟩ := h
  have key : q < 1000000000 ∧ q * v2 ≤ r * 1000000000 + u2 := by
    rcases ht with ht | ht
    · exact ht
    · have hlt : q < 1000000000 := by
        rcases Int.lt_or_le q 1000000000 with h' | h'
        · exact h'
        · exfalso
          have h1 : 1000000000 * v1 ≤ q * v1 := Int.mul_le_mul_of_nonneg_right h' (by omega)
          have h2 : u0 * 1000000000 ≤ v1 * 1000000000 := Int.mul_le_mul_of_nonneg_right hu (by omega)
          omega
      refine ⟨hlt, ?_⟩
      have h1 : q * v2 ≤ 999999999 * v2 := Int.mul_le_mul_of_nonneg_right (by omega) e0
      omega
  refine ⟨key.1, ?_⟩
  have h1 : q * (v1 * 1000000000 + v2) ≤ (u0 * 1000000000 + u1) * 1000000000 + u2 := by
    have e1 : q * (v1 * 1000000000 + v2) = (q * v1 + r) * 1000000000 - r * 1000000000 + q * v2 := by grind
    rw [e1, hq]; omega
  have h2 : q * (v1 * 1000000000 + v2) * P ≤ ((u0 * 1000000000 + u1) * 1000000000 + u2) * P := Int.mul_le_mul_of_nonneg_right h1 (by omega)
  have h3 : q * lv ≤ 999999999 * lv := Int.mul_le_mul_of_nonneg_right (by omega) m0
  have h4 : q * V = q * (v1 * 1000000000 + v2) * P + q * lv := by rw [hV]; grind
  omega
/-- The top digits of a row. -/
theorem val_top {l : List Int} {n : Nat} (h : l.length = n + 2) : val l = (l.getD (n + 1) 0 * 1000000000 + l.getD n 0) * pw n + val (l.take n) := by
  rw [val_split l n (by omega), val_drop (by omega), val_drop (l := l) (k := n + 1) (by omega), List.drop_eq_nil_of_le (by omega)]
  simp only [val]
  grind
theorem val_top3 {l : List Int} {n : Nat} (h : l.length = n + 3) : val l = ((l.getD (n + 2) 0 * 1000000000 + l.getD (n + 1) 0) * 1000000000 + l.getD n 0) * pw n + val (l.take n) := by
  rw [val_split l n (by omega), val_drop (by omega), val_drop (l := l) (k := n + 1) (by omega), val_drop (l := l) (k := n + 2) (by omega), List.drop_eq_nil_of_le (by omega)]
  simp only [val]
  grind
/-- Ahead of a round of the division: the digits k.. of the quotient are found. -/
def divI (U0 V : Int) (m N k : Nat) (ds U : List Int) : Prop := ds.length = m ∧ DgOk ds ∧ (∀ j, j < k → ds.getD j 0 = 0) ∧ U.length = N ∧ DgOk U ∧ val ds * V + val U = U0 ∧ val U < V * pw k
/-- The window of a round. -/
theorem div_window {U0 V : Int} {m N j n : Nat} {ds U : List Int} (h : divI U0 V m N (j + 1) ds U) (hV : V < pw n) (hj : j + n + 1 ≤ N) : 0 ≤ val (U.drop j) ∧ val (U.drop j) < 1000000000 * V ∧ val (U.drop (j + n + 1)) = 0 ∧ val (U.drop j) = val ((U.drop j).take (n + 1)) := by
  obtain ⟨_, _, _, e4, e5, _, e7⟩ := h
  have h1 := val_split U j (by omega)
  have h2 := val_nonneg (e5.take j)
  have hp := pw_pos j
  have h0 := val_nonneg (e5.drop j)
  have hlt : val (U.drop j) < 1000000000 * V := by
    rcases Int.lt_or_le (val (U.drop j)) (1000000000 * V) with h' | h'
    · exact h'
    · exfalso
      have h3 : pw j * (1000000000 * V) ≤ pw j * val (U.drop j) := Int.mul_le_mul_of_nonneg_left h' (by omega)
      have h4 : V * pw (j + 1) = pw j * (1000000000 * V) := by rw [pw_succ]; grind
      omega
  have h5 := val_split (U.drop j) (n + 1) (by rw [List.length_drop]; omega)
  have h6 := val_nonneg ((e5.drop j).take (n + 1))
  have h7 := val_nonneg ((e5.drop j).drop (n + 1))
  have h8 : val ((U.drop j).drop (n + 1)) = 0 := by
    rcases Int.lt_or_le 0 (val ((U.drop j).drop (n + 1))) with h' | h'
    · exfalso
      have h9 : pw (n + 1) * 1 ≤ pw (n + 1) * val ((U.drop j).drop (n + 1)) := Int.mul_le_mul_of_nonneg_left (by omega) (by have := pw_pos (n + 1); omega)
      rw [pw_succ] at h9
      rw [pw_succ] at h5
      omega
    · omega
  refine ⟨h0, hlt, ?_, ?_⟩
  · rw [List.drop_drop] at h8
    rw [show j + n + 1 = j + (n + 1) by omega]; exact h8
  · rw [h8] at h5; omega
end Go.Proofs.Ythcddboeejbncaa
