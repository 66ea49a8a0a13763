/- balance: the part of all other nodes (plain). -/
import Derived.Test.YtkpalfgnfhphjaaDoorBal10
namespace Go.Proofs.YtkpalfgnfhphjaaDoor
open Go.RowKit

structure Net.Ok2 (n : Net) : Prop where
  nn : n.nodes.length ≤ 24
  ns : n.sws.length ≤ 32
  nb : n.brs.length ≤ 24
  sw : ∀ s ∈ n.sws, hasS s.a n.nodes = true ∧ hasS s.b n.nodes = true
  br : ∀ b ∈ n.brs, hasS b.fr n.nodes = true ∧ hasS b.to n.nodes = true ∧ 1 ≤ b.x ∧ b.x ≤ 10000
theorem devAll_ok2 {α : Type} {nl : List ByteArray} {name : α → ByteArray} {ends : α → List ByteArray} {test : α → Int} : ∀ (l : List α) (met : List ByteArray), (devAll nl name ends test l met).1 = 0 →
    ∀ x ∈ l, (∃ met', deviceE nl met' (name x) (ends x) = 0) ∧ test x = 0 := by
  intro l
  induction l with
  | nil => intro met _ x hx; cases hx
  | cons y ys ih =>
    intro met h x hx
    unfold devAll at h
    split at h
    · rename_i hd; exact absurd h hd
    · rename_i hd
      split at h
      · rename_i ht; exact absurd h ht
      · rename_i ht
        rcases List.mem_cons.1 hx with rfl | hx
        · exact ⟨⟨met, by simpa using hd⟩, by simpa using ht⟩
        · exact ih _ h x hx
theorem device_ends2 {nl met ls : List ByteArray} {s : ByteArray} (h : deviceE nl met s ls = 0) : ∀ x ∈ ls, hasS x nl = true := by
  unfold deviceE at h
  split at h
  · rename_i hd; exact absurd h hd
  · unfold endsE at h
    split at h
    · rename_i ha; exact fun x hx => List.all_eq_true.1 ha x hx
    · cases h
theorem netE_ok2 {n : Net} (h : netE n = 0) : n.Ok2 := by
  unfold netE at h
  split at h
  · cases h
  · rename_i hz
    have hs : SizesOk n.nodes.length n.sws.length n.brs.length n.gens.length n.loads.length n.stores.length := by
      unfold sizesE at hz
      split at hz
      · assumption
      · simp at hz
    simp only at h
    split at h
    · rename_i ha; exact absurd h ha
    · split at h
      · rename_i ha; exact absurd h ha
      · rename_i hsw
        split at h
        · rename_i ha; exact absurd h ha
        · rename_i hbr
          refine ⟨hs.1, hs.2.1, hs.2.2.1, fun s hs => ?_, fun b hb => ?_⟩
          · obtain ⟨⟨m, h1⟩, _⟩ := devAll_ok2 n.sws _ (by simpa using hsw) s hs
            have := device_ends2 h1
            exact ⟨this s.a (by simp), this s.b (by simp)⟩
          · obtain ⟨⟨m, h1⟩, h2⟩ := devAll_ok2 n.brs _ (by simpa using hbr) b hb
            have := device_ends2 h1
            refine ⟨this b.fr (by simp), this b.to (by simp), ?_⟩
            unfold NBr.test at h2
            split at h2
            · cases h2
            · unfold brE at h2
              split at h2
              · rename_i hq
                unfold brB withinB at hq
                simp only [Bool.and_eq_true, decide_eq_true_eq] at hq
                exact hq.1
              · cases h2
theorem addAll_nodup : ∀ (l met : List ByteArray), (addAll l met).1 = 0 → l.Nodup ∧ ∀ s ∈ l, s ∉ met
  | [], _, _ => ⟨List.nodup_nil, fun s h => by cases h⟩
  | s :: ss, met, h => by
    unfold addAll at h
    split at h
    · rename_i h1; exact absurd h h1
    · rename_i h1
      have h1 : (addR met s).1 = 0 := Decidable.not_not.1 h1
      have h2 : s ∉ met ∧ (addR met s).2 = met ++ [s] := by
        unfold addR at h1 ⊢
        split at h1
        · cases h1
        · rename_i h3
          rw [if_neg h3] at *
          split at h1
          · cases h1
          · rename_i h4
            rw [if_neg h4]
            exact ⟨fun hm => h4 (hasS_iff.2 hm), rfl⟩
      obtain ⟨h3, h4⟩ := addAll_nodup ss _ h
      rw [h2.2] at h4
      refine ⟨List.nodup_cons.2 ⟨fun hm => h4 s hm (by simp), h3⟩, ?_⟩
      intro x hx
      rcases List.mem_cons.1 hx with rfl | hx
      · exact h2.1
      · exact fun hm => h4 x hx (List.mem_append_left _ hm)
theorem netE_nodup {n : Net} (h : netE n = 0) : n.nodes.Nodup := by
  unfold netE at h
  split at h
  · cases h
  · dsimp only at h
    split at h
    · rename_i h1; exact absurd h h1
    · rename_i h1
      exact (addAll_nodup _ _ (Decidable.not_not.1 h1)).1
theorem partE_of {nl P : List ByteArray} (h1 : ∀ s ∈ P, hasS s nl = true) (h2 : P.Nodup) : ∀ (j k : Nat), P.length - k = j → partE nl P (P.drop k) k = 0
  | 0, k, h => by rw [List.drop_eq_nil_of_le (by omega)]; rfl
  | j + 1, k, h => by
    obtain ⟨s, hs⟩ : ∃ s, P[k]? = some s := ⟨_, List.getElem?_eq_getElem (by omega)⟩
    rw [partE_drop hs, if_neg (by rw [h1 s (List.mem_of_getElem? hs)]; decide), if_neg, partE_of h1 h2 j (k + 1) (by omega)]
    intro hh
    have hm := hasS_iff.1 hh
    obtain ⟨i, hi⟩ := List.getElem?_of_mem hm
    obtain ⟨hil, hix⟩ := List.getElem?_eq_some_iff.1 hi
    rw [List.length_take] at hil
    rw [List.getElem?_take_of_lt (by omega)] at hi
    obtain ⟨hk, hkx⟩ := List.getElem?_eq_some_iff.1 hs
    obtain ⟨hi2, hi3⟩ := List.getElem?_eq_some_iff.1 hi
    have := (List.getElem_inj h2).1 (hi3.trans hkx.symm)
    omega
/-- The nodes that are not in a part. -/
def restP (nl P : List ByteArray) : List ByteArray := nl.filter fun s => !hasS s P
theorem rest_has {nl P : List ByteArray} {s : ByteArray} (h : hasS s nl = true) : hasS s (restP nl P) = !hasS s P := by
  rw [Bool.eq_iff_iff, hasS_iff]
  unfold restP
  rw [List.mem_filter]
  exact ⟨fun h => h.2, fun h2 => ⟨hasS_iff.1 h, h2⟩⟩
theorem rest_mem {nl P : List ByteArray} {s : ByteArray} (h : s ∈ restP nl P) : hasS s nl = true := hasS_iff.2 (List.mem_filter.1 h).1
theorem cross_rest {nl P : List ByteArray} {x : NSw} (h : hasS x.a nl = true ∧ hasS x.b nl = true) : crossS (restP nl P) x = crossS P x := by
  unfold crossS
  rw [rest_has h.1, rest_has h.2]
  cases hasS x.a P <;> cases hasS x.b P <;> rfl
theorem crossB_rest {nl P : List ByteArray} {x : NBr} (h : hasS x.fr nl = true ∧ hasS x.to nl = true) : crossB (restP nl P) x = crossB P x := by
  unfold crossB
  rw [rest_has h.1, rest_has h.2]
  cases hasS x.fr P <;> cases hasS x.to P <;> rfl
theorem idx_rest {nl P : List ByteArray} : ∀ (l : List NBr) (j : Nat), (∀ x ∈ l, hasS x.fr nl = true ∧ hasS x.to nl = true) → idxL (restP nl P) l j = idxL P l j
  | [], _, _ => rfl
  | b :: l, j, h => by
    unfold idxL
    rw [crossB_rest (h b (List.mem_cons_self ..)), idx_rest l (j + 1) (fun x hx => h x (List.mem_cons_of_mem _ hx))]
theorem bnd_parts {n : Net} {P : List ByteArray} (h : (bndE n P).2 = 0) : netE n = 0 ∧ n.sws.any (crossS P) = false ∧ (bndE n P).1 = idxL P n.brs 0 := by
  unfold bndE at h ⊢
  split at h
  · rename_i h1; exact absurd h h1
  · rename_i h1
    split at h
    · rename_i h2; exact absurd h h2
    · rename_i h2
      split at h
      · cases h
      · rename_i h3
        rw [if_neg h1, if_neg h2, if_neg h3]
        exact ⟨Decidable.not_not.1 h1, by simpa using h3, rfl⟩
theorem bnd_rest {n : Net} {P : List ByteArray} (h : (bndE n P).2 = 0) : (bndE n (restP n.nodes P)).2 = 0 := by
  obtain ⟨h1, h2, _⟩ := bnd_parts h
  have ok := netE_ok2 h1
  have h3 : partE n.nodes (restP n.nodes P) (restP n.nodes P) 0 = 0 :=
    partE_of (fun s hs => rest_mem hs) ((netE_nodup h1).filter _) _ 0 rfl
  have h4 : n.sws.any (crossS (restP n.nodes P)) = false := by
    rw [List.any_eq_false] at h2 ⊢
    intro x hx
    rw [cross_rest (ok.sw x hx)]; exact h2 x hx
  unfold bndE
  rw [if_neg (fun hh => hh h1), if_neg (fun hh => hh h3), h4]
  rfl
theorem ent_rest {n : Net} {P l : List ByteArray} (h : entX n P l = 0) : entX n (restP n.nodes P) l = 0 := by
  unfold entX at h ⊢
  split at h
  · rename_i h1; exact absurd h h1
  · rename_i h1
    rw [if_neg (fun hh => hh (bnd_rest (Decidable.not_not.1 h1)))]
    exact h
theorem ent_ok {n : Net} {P l : List ByteArray} (h : entX n P l = 0) : (bndE n P).2 = 0 ∧ l.length = n.brs.length ∧ allE l = 0 := by
  unfold entX at h
  split at h
  · rename_i h1; exact absurd h h1
  · rename_i h1
    split at h
    · cases h
    · rename_i h2
      exact ⟨Decidable.not_not.1 h1, Decidable.not_not.1 h2, h⟩
theorem sg_rest {n : Net} {P : List ByteArray} {qs : List Rat} (h : netE n = 0) {k : Int} (hk : k ∈ idxL P n.brs 0) : sgQ (restP n.nodes P) n.brs qs k = -(sgQ P n.brs qs k) := by
  obtain ⟨i, rfl, hi⟩ := idxL_mem _ _ k hk
  rw [Nat.zero_add]
  unfold sgQ
  rw [Int.toNat_natCast, List.getElem?_eq_getElem hi]
  have ok := (netE_ok2 h).br n.brs[i] (List.getElem_mem hi)
  show (if hasS n.brs[i].fr (restP n.nodes P) = true then _ else _) = -(if hasS n.brs[i].fr P = true then _ else _)
  rw [rest_has ok.1]
  cases hasS n.brs[i].fr P
  · rfl
  · show qs.getD i 0 = -(-(qs.getD i 0))
    rw [Rat.neg_neg]
/-- What enters the rest leaves the part. -/
theorem entQ_rest {n : Net} {P l : List ByteArray} {qs : List Rat} (h : entX n P l = 0) : entQ n (restP n.nodes P) qs = (entQ n P qs).map fun x => -x := by
  obtain ⟨h1, _, _⟩ := ent_ok h
  obtain ⟨h2, _, _⟩ := bnd_parts h1
  have ok := netE_ok2 h2
  unfold entQ
  rw [idx_rest n.brs 0 (fun x hx => ⟨(ok.br x hx).1, (ok.br x hx).2.1⟩), List.map_map]
  exact List.map_congr_left fun k hk => sg_rest h2 hk
end Go.Proofs.YtkpalfgnfhphjaaDoor
