/- What a network that Check lets pass has; zone.distance in plain Lean. -/
import Derived.Test.YtplebibabcdipaaZon5
namespace Go.Proofs.Ytplebibabcdipaa
open Go.RowKit

structure Net.Ok (n : Net) : Prop where
  nn : n.nodes.length ≤ 24
  ns : n.sws.length ≤ 32
  nb : n.brs.length ≤ 24
  sw : ∀ s ∈ n.sws, hasS s.a n.nodes = true ∧ hasS s.b n.nodes = true
  br : ∀ b ∈ n.brs, hasS b.fr n.nodes = true ∧ hasS b.to n.nodes = true ∧ 1 ≤ b.x ∧ b.x ≤ 10000
theorem devAll_ok {α : Type} {nl : List ByteArray} {name : α → ByteArray} {ends : α → List ByteArray} {test : α → Int} : ∀ (l : List α) (met : List ByteArray), (devAll nl name ends test l met).1 = 0 →
    ∀ x ∈ l, (∃ met', deviceE nl met' (name x) (ends x) = 0) ∧ test x = 0 := by
  intro l
  induction l with
  | nil => intro met _ x hx; cases hx
  | cons y ys ih =>
    intro met h x hx
    unfold devAll at h
    split at h
    · rename_i hd; exact absurd h hd
    · rename_i hd
      split at h
      · rename_i ht; exact absurd h ht
      · rename_i ht
        rcases List.mem_cons.1 hx with rfl | hx
        · exact ⟨⟨met, by simpa using hd⟩, by simpa using ht⟩
        · exact ih _ h x hx
theorem device_ends {nl met ls : List ByteArray} {s : ByteArray} (h : deviceE nl met s ls = 0) : ∀ x ∈ ls, hasS x nl = true := by
  unfold deviceE at h
  split at h
  · rename_i hd; exact absurd h hd
  · unfold endsE at h
    split at h
    · rename_i ha; exact fun x hx => List.all_eq_true.1 ha x hx
    · cases h
theorem netE_ok {n : Net} (h : netE n = 0) : n.Ok := by
  unfold netE at h
  split at h
  · cases h
  · rename_i hz
    have hs : SizesOk n.nodes.length n.sws.length n.brs.length n.gens.length n.loads.length n.stores.length := by
      unfold sizesE at hz
      split at hz
      · assumption
      · simp at hz
    simp only at h
    split at h
    · rename_i ha; exact absurd h ha
    · split at h
      · rename_i ha; exact absurd h ha
      · rename_i hsw
        split at h
        · rename_i ha; exact absurd h ha
        · rename_i hbr
          refine ⟨hs.1, hs.2.1, hs.2.2.1, fun s hs => ?_, fun b hb => ?_⟩
          · obtain ⟨⟨m, h1⟩, _⟩ := devAll_ok n.sws _ (by simpa using hsw) s hs
            have := device_ends h1
            exact ⟨this s.a (by simp), this s.b (by simp)⟩
          · obtain ⟨⟨m, h1⟩, h2⟩ := devAll_ok n.brs _ (by simpa using hbr) b hb
            have := device_ends h1
            refine ⟨this b.fr (by simp), this b.to (by simp), ?_⟩
            unfold NBr.test at h2
            split at h2
            · cases h2
            · unfold brE at h2
              split at h2
              · rename_i hq
                unfold brB withinB at hq
                simp only [Bool.and_eq_true, decide_eq_true_eq] at hq
                exact hq.1
              · cases h2
theorem idxS_lt {s : ByteArray} : ∀ (l : List ByteArray) (i : Int), hasS s l = true → i ≤ idxS s l i ∧ idxS s l i < i + l.length := by
  intro l
  induction l with
  | nil => intro i h; simp [hasS] at h
  | cons x xs ih =>
    intro i h
    unfold idxS
    split
    · simp; omega
    · rename_i hp
      unfold hasS at h
      rw [List.any_cons] at h
      have h' : hasS s xs = true := by unfold hasS; simpa [hp] using h
      have := ih (i + 1) h'
      simp; omega
theorem idxS_nat {s : ByteArray} {l : List ByteArray} (h : hasS s l = true) : ∃ k : Nat, idxS s l 0 = k ∧ k < l.length := by
  have := idxS_lt l 0 h
  exact ⟨(idxS s l 0).toNat, by omega, by omega⟩
theorem edgesR_ok {n : Net} (h : n.Ok) (out : List Int) : ∀ e ∈ edgesR n out, EdgOk n.nodes.length e := by
  have h1 : ∀ l : List NSw, (∀ s ∈ l, s ∈ n.sws) → ∀ e ∈ swEdges n.nodes l, EdgOk n.nodes.length e := by
    intro l
    induction l with
    | nil => intro _ e he; cases he
    | cons x xs ih =>
      intro hl e he
      unfold swEdges at he
      have ih' := ih (fun s hs => hl s (List.mem_cons_of_mem _ hs))
      split at he
      · exact ih' e he
      · rcases List.mem_cons.1 he with rfl | he
        · have hs := h.sw x (hl x List.mem_cons_self)
          have i1 := idxS_lt n.nodes 0 hs.1
          have i2 := idxS_lt n.nodes 0 hs.2
          unfold EdgOk
          simp only
          omega
        · exact ih' e he
  have h2 : ∀ (l : List NBr) (k : Nat), (∀ s ∈ l, s ∈ n.brs) → ∀ e ∈ brEdges n.nodes out l k, EdgOk n.nodes.length e := by
    intro l
    induction l with
    | nil => intro k _ e he; cases he
    | cons x xs ih =>
      intro k hl e he
      unfold brEdges at he
      have ih' := ih (k + 1) (fun s hs => hl s (List.mem_cons_of_mem _ hs))
      split at he
      · exact ih' e he
      · rcases List.mem_cons.1 he with rfl | he
        · have hs := h.br x (hl x List.mem_cons_self)
          have i1 := idxS_lt n.nodes 0 hs.1
          have i2 := idxS_lt n.nodes 0 hs.2.1
          unfold EdgOk
          simp only
          omega
        · exact ih' e he
  intro e he
  unfold edgesR at he
  rcases List.mem_append.1 he with h' | h'
  · exact h1 _ (fun _ h => h) e h'
  · exact h2 _ _ (fun _ h => h) e h'

theorem lensF_ok {n : Nat} (h24 : n ≤ 24) (l : List Edg) (hl : ∀ e ∈ l, EdgOk n e) : ∀ (f : Nat) (d : List Int), DOk n d → DOk n (lensF l f d) := by
  intro f
  induction f with
  | zero => intro d hd; exact hd
  | succ f ih =>
    intro d hd
    have h := (foldE_good h24 l d false hl hd).1
    unfold lensF
    split
    · exact ih _ h
    · exact h
theorem lens_ok {n : Nat} (h24 : n ≤ 24) (l : List Edg) (hl : ∀ e ∈ l, EdgOk n e) (d : List Int) (hd : DOk n d) : DOk n (lens l d) := lensF_ok h24 l hl _ d hd
theorem DOk.bound {n : Nat} {d : List Int} (h24 : n ≤ 24) (h : DOk n d) (i : Nat) (hi : i < n) : d.getD i 0 < 0 ∨ d.getD i 0 ≤ 240000000 := by
  have hm := h.2 (d.getD i 0) (by rw [List.getD_eq_getElem?_getD, List.getElem?_eq_getElem (by rw [h.1]; exact hi)]; exact List.getElem_mem _)
  have hf := finN_le d
  rw [h.1] at hf
  omega
/-- The end of a relay's branch at which it does not stand. -/
def otherR (node : ByteArray) (b : NBr) : ByteArray := if sameB node b.to = true then b.fr else b.to
/-- One end of the place's branch: whether the way over it is shorter. -/
def bestS (nl : List ByteArray) (d : List Int) (s : Int × Bool) (node : ByteArray) (rest : Int) : Int × Bool :=
  if 0 ≤ d.getD (idxS node nl 0).toNat 0 ∧ (s.2 = false ∨ d.getD (idxS node nl 0).toNat 0 + rest < s.1) then (d.getD (idxS node nl 0).toNat 0 + rest, true) else s
def lensR (n : Net) (node : ByteArray) (b : NBr) (k1 k2 : Int) : List Int := lens (edgesR n [k1, k2]) (len0 n.nodes.length (idxS (otherR node b) n.nodes 0).toNat)
/-- The distance of a place, and whether there is a way. -/
def distB (n : Net) (node : ByteArray) (b c : NBr) (k1 k2 part : Int) : Int × Bool :=
  if k1 = k2 then (if sameB node b.fr = true then (b.x * part, true) else (b.x * (1000 - part), true)) else
  let s := bestS n.nodes (lensR n node b k1 k2) (bestS n.nodes (lensR n node b k1 k2) (0, false) c.fr (c.x * part)) c.to (c.x * (1000 - part))
  (1000 * b.x + s.1, s.2)
def distR (n : Net) (r : ZRel) (p : Plc) : Int × Bool := distB n r.node (brOf n r.branch) (brOf n p.branch) (brAt n r.branch) (brAt n p.branch) p.part
end Go.Proofs.Ytplebibabcdipaa
