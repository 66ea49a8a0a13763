/- Over-current characteristics: the plain laws. -/
import Derived.Test.YtplebibabcdipaaCrv5
namespace Go.Proofs.Ytplebibabcdipaa
open Go.RowKit

namespace Pts
theorem Ok.dec {l : Pts} (h : l.Ok) : ∀ d i : Nat, i + d < l.length → (l.pt (i + d)).2 ≤ (l.pt i).2 := by
  intro d
  induction d with
  | zero => intro i _; simp
  | succ d ih =>
    intro i hi
    have h1 := ih i (by omega)
    have h2 := h.dn (i + d) (by omega)
    rw [show i + (d + 1) = i + d + 1 from by omega]
    omega
theorem Ok.dec' {l : Pts} (h : l.Ok) {i j : Nat} (hij : i ≤ j) (hj : j < l.length) : (l.pt j).2 ≤ (l.pt i).2 := by
  have := h.dec (j - i) i (by omega); rwa [show i + (j - i) = j from by omega] at this
theorem Ok.inc' {l : Pts} (h : l.Ok) {i j : Nat} (hij : i < j) (hj : j < l.length) : (l.pt i).1 < (l.pt j).1 := by
  have := h.inc (j - i) i (by omega); rw [show i + (j - i) = j from by omega] at this; omega

/-- The time on the segment that begins at point K. -/
def segT (l : Pts) (pk m K : Int) : Int :=
  if K = l.length - 1 then (l.pt K.toNat).2
  else (l.pt K.toNat).2 - ((l.pt K.toNat).2 - (l.pt (K + 1).toNat).2) * (m - (l.pt K.toNat).1 * pk) / (((l.pt (K + 1).toNat).1 - (l.pt K.toNat).1) * pk)
theorem time_eq (l : Pts) (pk cur : Int) : l.time pk cur = if 100 * cur < (l.pt 0).1 * pk then none else some (l.segT pk (100 * cur) (l.seg pk (100 * cur))) := by
  unfold time segT; simp only; split
  · rfl
  · split <;> rfl

/-- On a segment the time lies between those of its points. -/
theorem segT_range {l : Pts} (h : l.Ok) {pk m K : Int} (k0 : 0 ≤ K) (k1 : K < l.length) (k2 : (l.pt K.toNat).1 * pk ≤ m) (k3 : K + 1 < l.length → m < (l.pt (K + 1).toNat).1 * pk) :
    l.segT pk m K ≤ (l.pt K.toNat).2 ∧ (K + 1 < l.length → (l.pt (K + 1).toNat).2 ≤ l.segT pk m K) := by
  unfold segT
  split
  · exact ⟨Int.le_refl _, fun h' => by omega⟩
  · rename_i h4
    have k5 := k3 (by omega)
    have d1 := h.dn K.toNat (by omega)
    have u1 := h.up K.toNat (by omega)
    rw [show K.toNat + 1 = (K + 1).toNat from by omega] at d1 u1
    have e : ((l.pt (K + 1).toNat).1 - (l.pt K.toNat).1) * pk = (l.pt (K + 1).toNat).1 * pk - (l.pt K.toNat).1 * pk := Int.sub_mul _ _ _
    have := frac_le (a := (l.pt K.toNat).2 - (l.pt (K + 1).toNat).2) (x := m - (l.pt K.toNat).1 * pk) (d := ((l.pt (K + 1).toNat).1 - (l.pt K.toNat).1) * pk) (by omega) (by omega) (by omega) (by omega)
    exact ⟨by omega, fun _ => by omega⟩

/-- The segment of a place is the only one. -/
theorem seg_unique {l : Pts} (h : l.Ok) {pk m K : Int} (p1 : 1 ≤ pk) (k0 : 0 ≤ K) (k1 : K < l.length) (k2 : (l.pt K.toNat).1 * pk ≤ m) (k3 : K + 1 < l.length → m < (l.pt (K + 1).toNat).1 * pk) : l.seg pk m = K := by
  have h0 : ¬ m < (l.pt 0).1 * pk := by
    rcases Nat.eq_zero_or_pos K.toNat with e | e
    · rw [e] at k2; omega
    · have a := h.inc' (i := 0) (j := K.toNat) e (by omega)
      have : (l.pt 0).1 * pk ≤ (l.pt K.toNat).1 * pk := Int.mul_le_mul_of_nonneg_right (by omega) (by omega)
      omega
  obtain ⟨s0, s1, s2, s3⟩ := seg_spec h p1 h0
  generalize l.seg pk m = S at *
  rcases Int.lt_trichotomy S K with c | c | c
  · have a := s3 (by omega)
    have : (l.pt (S + 1).toNat).1 * pk ≤ (l.pt K.toNat).1 * pk := by
      refine Int.mul_le_mul_of_nonneg_right ?_ (by omega)
      by_cases e : (S + 1).toNat = K.toNat
      · rw [e]; exact Int.le_refl _
      · have := h.inc' (i := (S + 1).toNat) (j := K.toNat) (by omega) (by omega); omega
    omega
  · exact c
  · have a := k3 (by omega)
    have : (l.pt (K + 1).toNat).1 * pk ≤ (l.pt S.toNat).1 * pk := by
      refine Int.mul_le_mul_of_nonneg_right ?_ (by omega)
      by_cases e : (K + 1).toNat = S.toNat
      · rw [e]; exact Int.le_refl _
      · have := h.inc' (i := (K + 1).toNat) (j := S.toNat) (by omega) (by omega); omega
    omega

/-- A greater current makes a relay operate at least as early. -/
theorem time_falls {l : Pts} (h : l.Ok) {pk a b t u : Int} (p1 : 1 ≤ pk) (hab : a ≤ b) (ha : l.time pk a = some t) (hb : l.time pk b = some u) : u ≤ t := by
  rw [time_eq] at ha hb
  split at ha
  · cases ha
  rename_i ha0
  split at hb
  · cases hb
  rename_i hb0
  simp only [Option.some.injEq] at ha hb
  obtain ⟨s0, s1, s2, s3⟩ := seg_spec h p1 ha0
  obtain ⟨r0, r1, r2, r3⟩ := seg_spec h p1 hb0
  have hS := segT_range h s0 s1 s2 s3
  have hR := segT_range h r0 r1 r2 r3
  by_cases hSR : l.seg pk (100 * a) = l.seg pk (100 * b)
  · rw [hSR] at ha s2 s3 s0 s1
    generalize l.seg pk (100 * b) = S at *
    rw [← ha, ← hb]
    unfold segT
    split
    · exact Int.le_refl _
    · have d1 := h.dn S.toNat (by omega)
      have u1 := h.up S.toNat (by omega)
      rw [show S.toNat + 1 = (S + 1).toNat from by omega] at d1 u1
      have e : 0 < ((l.pt (S + 1).toNat).1 - (l.pt S.toNat).1) * pk := Int.mul_pos (by omega) (by omega)
      have m1 : ((l.pt S.toNat).2 - (l.pt (S + 1).toNat).2) * (100 * a - (l.pt S.toNat).1 * pk) ≤ ((l.pt S.toNat).2 - (l.pt (S + 1).toNat).2) * (100 * b - (l.pt S.toNat).1 * pk) := Int.mul_le_mul_of_nonneg_left (by omega) (by omega)
      have := Int.ediv_le_ediv e m1
      omega
  · have hlt : l.seg pk (100 * a) < l.seg pk (100 * b) := by
      rcases Int.lt_trichotomy (l.seg pk (100 * a)) (l.seg pk (100 * b)) with c | c | c
      · exact c
      · exact absurd c hSR
      · exfalso
        have a1 := r3 (by omega)
        have : (l.pt (l.seg pk (100 * b) + 1).toNat).1 * pk ≤ (l.pt (l.seg pk (100 * a)).toNat).1 * pk := by
          refine Int.mul_le_mul_of_nonneg_right ?_ (by omega)
          by_cases e : (l.seg pk (100 * b) + 1).toNat = (l.seg pk (100 * a)).toNat
          · rw [e]; exact Int.le_refl _
          · have := h.inc' (i := (l.seg pk (100 * b) + 1).toNat) (j := (l.seg pk (100 * a)).toNat) (by omega) (by omega); omega
        omega
    have h1 := hS.2 (by omega)
    have h2 := h.dec' (i := (l.seg pk (100 * a) + 1).toNat) (j := (l.seg pk (100 * b)).toNat) (by omega) (by omega)
    rw [← ha, ← hb]
    omega
theorem time_none {l : Pts} {pk a b : Int} (hab : a ≤ b) (hb : l.time pk b = none) : l.time pk a = none := by
  rw [time_eq] at hb ⊢
  split at hb
  · rw [if_pos (by omega)]
  · cases hb
theorem inT_mono {l : Pts} (h : l.Ok) {pk tm x y : Int} (p1 : 1 ≤ pk) (hxy : x ≤ y) (hx : l.inT pk tm x = true) : l.inT pk tm y = true := by
  unfold inT at hx ⊢
  cases hy : l.time pk y with
  | none => rw [time_none hxy hy] at hx; simp at hx
  | some u =>
    cases hx' : l.time pk x with
    | none => rw [hx'] at hx; simp at hx
    | some t =>
      rw [hx'] at hx
      have := time_falls h p1 hxy hx' hy
      have := of_decide_eq_true hx
      simp only; exact decide_eq_true (by omega)

/-- At the multiple of a point, the time is that of the point. -/
theorem time_point {l : Pts} (h : l.Ok) {pk : Int} (p1 : 1 ≤ pk) {k : Nat} (hk : k < l.length) : l.time (100 * pk) ((l.pt k).1 * pk) = some (l.pt k).2 := by
  have e : 100 * ((l.pt k).1 * pk) = (l.pt k).1 * (100 * pk) := by rw [← Int.mul_assoc, Int.mul_comm 100, Int.mul_assoc]
  have hs : l.seg (100 * pk) (100 * ((l.pt k).1 * pk)) = k := by
    refine seg_unique h (by omega) (by omega) (by omega) ?_ (fun h' => ?_)
    · rw [Int.toNat_natCast, e]; exact Int.le_refl _
    · rw [show ((k : Int) + 1).toNat = k + 1 from by omega, e]
      exact Int.mul_lt_mul_of_pos_right (h.up k (by omega)) (by omega)
  rw [time_eq, hs]
  have h0 : (l.pt 0).1 * (100 * pk) ≤ (l.pt k).1 * (100 * pk) := by
    refine Int.mul_le_mul_of_nonneg_right ?_ (by omega)
    rcases Nat.eq_zero_or_pos k with rfl | hp
    · exact Int.le_refl _
    · have := h.inc' hp hk; omega
  rw [if_neg (by omega)]
  unfold segT
  split
  · simp
  · rw [Int.toNat_natCast, e, Int.sub_self, Int.mul_zero, Int.zero_ediv, Int.sub_zero]

theorem scaled_pt {l : Pts} {dial : Int} {i : Nat} (h : i < l.length) : (l.scaled dial).pt i = sc dial (l.pt i) := by
  unfold scaled pt; simp [h]
theorem scaled_len (l : Pts) (dial : Int) : (l.scaled dial).length = l.length := by unfold scaled; simp
theorem scaled_ok {l : Pts} {dial : Int} (h : l.scaleE dial = 0) : l.Ok ∧ (l.scaled dial).Ok ∧ 1 ≤ dial := by
  unfold scaleE at h
  split at h
  · rename_i h1; exact absurd h h1
  rename_i h1
  have hl := (err_zero l).1 (Decidable.not_not.1 h1)
  split at h
  · omega
  split at h
  · omega
  rename_i h2 h3
  have hb : ∀ i, i < l.length → (sc dial (l.pt i)).2 ≤ 3600000 := by
    intro i hi
    rcases Decidable.em ((sc dial (l.pt i)).2 ≤ 3600000) with h4 | h4
    · exact h4
    · exfalso; apply h3
      rw [List.any_eq_true]
      refine ⟨sc dial (l.pt i), ?_, by simp; omega⟩
      unfold scaled
      refine List.mem_map.2 ⟨l.pt i, ?_, rfl⟩
      unfold pt; rw [List.getD_eq_getElem?_getD, List.getElem?_eq_getElem hi]; simp
  refine ⟨hl, ⟨by rw [scaled_len]; exact hl.len1, by rw [scaled_len]; exact hl.len2, ?_, ?_, ?_, ?_, ?_, ?_⟩, by omega⟩
  · intro i hi; rw [scaled_len] at hi; rw [scaled_pt hi]; exact hl.m1 i hi
  · intro i hi; rw [scaled_len] at hi; rw [scaled_pt hi]; exact hl.m2 i hi
  · intro i hi; rw [scaled_len] at hi; rw [scaled_pt hi]
    have := Int.mul_nonneg (hl.t1 i hi) (show 0 ≤ dial by omega)
    show 0 ≤ ((l.pt i).2 * dial + 999) / 1000
    omega
  · intro i hi; rw [scaled_len] at hi; rw [scaled_pt hi]; exact hb i hi
  · intro i hi; rw [scaled_len] at hi; rw [scaled_pt hi, scaled_pt (show i < l.length by omega)]; exact hl.up i hi
  · intro i hi; rw [scaled_len] at hi; rw [scaled_pt hi, scaled_pt (show i < l.length by omega)]
    have := Int.mul_le_mul_of_nonneg_right (hl.dn i hi) (show 0 ≤ dial by omega)
    show ((l.pt (i + 1)).2 * dial + 999) / 1000 ≤ ((l.pt i).2 * dial + 999) / 1000
    omega
theorem scaled_thousand {l : Pts} : l.scaled 1000 = l := by
  unfold scaled
  refine (List.map_congr_left (fun p _ => ?_)).trans (List.map_id l)
  unfold sc; simp only [id]
  ext
  · rfl
  · simp only; omega
theorem scaleE_thousand {l : Pts} (h : l.Ok) : l.scaleE 1000 = 0 := by
  unfold scaleE
  rw [if_neg (by rw [(err_zero l).2 h]; simp), if_neg (by omega), if_neg]
  rw [scaled_thousand, List.any_eq_true]
  rintro ⟨p, hp, hb⟩
  obtain ⟨i, hi, rfl⟩ := List.getElem_of_mem hp
  have := h.t2 i hi
  unfold pt at this
  rw [List.getD_eq_getElem?_getD, List.getElem?_eq_getElem hi] at this
  simp at this hb
  omega

theorem interp_mono {p q p' q' A D : Int} (hp : p ≤ p') (hq : q ≤ q') (a0 : 0 ≤ A) (ad : A ≤ D) (d0 : 0 < D) : p - (p - q) * A / D ≤ p' - (p' - q') * A / D := by
  have h1 : (p' - q') * A / D * D ≤ (p' - q') * A := Int.ediv_mul_le _ (by omega)
  have h2 : (p' - p) * A ≤ (p' - p) * D := Int.mul_le_mul_of_nonneg_left ad (by omega)
  have h3 : 0 ≤ (q' - q) * A := Int.mul_nonneg (by omega) a0
  have h4 : (p - q) * A = (p' - q') * A - (p' - p) * A + (q' - q) * A := by
    rw [← Int.sub_mul, ← Int.add_mul]; congr 1; omega
  have h5 : ((p' - q') * A / D - (p' - p)) * D ≤ (p - q) * A := by rw [Int.sub_mul]; omega
  have := (Int.le_ediv_iff_mul_le d0).2 h5
  omega

/-- Two characteristics with the same multiples, of which one has greater times. -/
theorem time_scales {x y : Pts} (hx : x.Ok) (hy : y.Ok) (hlen : x.length = y.length) (hm : ∀ i, i < x.length → (x.pt i).1 = (y.pt i).1) (ht : ∀ i, i < x.length → (x.pt i).2 ≤ (y.pt i).2) {pk cur : Int} (p1 : 1 ≤ pk) :
    (x.time pk cur = none ∧ y.time pk cur = none) ∨ ∃ t u, x.time pk cur = some t ∧ y.time pk cur = some u ∧ t ≤ u := by
  have l1 := hx.len1
  have m0 := hm 0 (by omega)
  rw [time_eq, time_eq, ← m0]
  by_cases h0 : 100 * cur < (x.pt 0).1 * pk
  · rw [if_pos h0, if_pos h0]; exact Or.inl ⟨rfl, rfl⟩
  · rw [if_neg h0, if_neg h0]
    refine Or.inr ⟨_, _, rfl, rfl, ?_⟩
    obtain ⟨s0, s1, s2, s3⟩ := seg_spec hx p1 h0
    have hs : y.seg pk (100 * cur) = x.seg pk (100 * cur) := by
      refine seg_unique hy p1 s0 (by omega) ?_ (fun h' => ?_)
      · rw [← hm _ (by omega)]; exact s2
      · rw [← hm _ (by omega)]; exact s3 (by omega)
    rw [hs]
    generalize x.seg pk (100 * cur) = S at *
    unfold segT
    rw [← hlen]
    split
    · exact ht _ (by omega)
    · have a1 := ht S.toNat (by omega)
      have a2 := ht (S + 1).toNat (by omega)
      rw [← hm S.toNat (by omega), ← hm (S + 1).toNat (by omega)]
      have u1 := hx.up S.toNat (by omega)
      rw [show S.toNat + 1 = (S + 1).toNat from by omega] at u1
      have k3 := s3 (by omega)
      have e : ((x.pt (S + 1).toNat).1 - (x.pt S.toNat).1) * pk = (x.pt (S + 1).toNat).1 * pk - (x.pt S.toNat).1 * pk := Int.sub_mul _ _ _
      exact interp_mono a1 a2 (by omega) (by omega) (by omega)
end Pts
end Go.Proofs.Ytplebibabcdipaa
