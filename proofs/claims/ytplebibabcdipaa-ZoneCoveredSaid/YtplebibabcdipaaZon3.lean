/- slices.Index, Contains at []int; zone.edges. -/
import Derived.Test.YtplebibabcdipaaZon2
import Derived.StillTailTactics
namespace Go.Proofs.Ytplebibabcdipaa
open Go.RowKit

def idxI (s : Int) : List Int → Int → Int
  | [], _ => -1
  | x :: xs, i => if (s == x) = true then i else idxI s xs (i + 1)
def hasI (s : Int) (l : List Int) : Bool := l.any (fun x => s == x)
theorem idxI_neg (s : Int) : ∀ (l : List Int) (i : Int), 0 ≤ i → (0 ≤ idxI s l i ↔ hasI s l = true) := by
  intro l
  induction l with
  | nil => intro i _; simp [idxI, hasI]
  | cons x xs ih =>
    intro i hi
    unfold idxI hasI
    rw [List.any_cons]
    by_cases hp : (s == x) = true
    · rw [if_pos hp, hp]; simp [hi]
    · rw [if_neg hp, ih (i + 1) (by omega)]
      have : (s == x) = false := by simpa using hp
      rw [this]; simp [hasI]
theorem idxI_drop {s : Int} {l : List Int} {k : Nat} (h : k < l.length) : idxI s (l.drop k) k = if (s == l.getD k 0) = true then (k : Int) else idxI s (l.drop (k + 1)) ((k + 1 : Nat) : Int) := by
  rw [List.drop_eq_getElem_cons h]
  conv => lhs; unfold idxI
  simp [h]

set_option maxHeartbeats 400000 in
theorem indexI_c (v : Value) (l : List Int) (s : Int) (w : World) (hv : IVal w v l) :
    Calls Try.prog 123 #[v, .int .i64 s] w fun e w' => e = .returned (.int .i64 (idxI s l 0)) ∧ w = w' := by
  obtain ⟨a, cap, rfl⟩ := hv.slice
  have hn : l.length ≤ 9223372036854775807 := by
    rcases hv with ⟨h, _⟩ | ⟨_, _, _, _, _, h, _⟩
    · omega
    · exact h
  have HE : Hid (idxI s (l.drop 0) (0 : Nat) = idxI s l 0) := by show _ = _; rfl
  generalize idxI s l 0 = E at *
  obtain ⟨n, hN⟩ : ∃ n, l.length = n := ⟨_, rfl⟩
  have HN := Lib.hid hN
  have HV2 : Hid (Reads w (.slice a n cap) n (ints l)) := by show Reads _ _ _ _; rw [← hN]; exact hv
  rw [hN] at hn ⊢
  clear hN hv
  go_enter Try.func123, Try.ntmps123
  go_wp2_with fail
  go_loopw [8] (fun i wr => ∃ k : Nat, k ≤ n ∧ i = .int .i64 k ∧ Hid (idxI s (l.drop k) k = E) ∧ w = wr) (fun i _ => n - (intOf i).toNat)
  case atStart => exact ⟨0, Nat.zero_le _, rfl, HE.out, rfl⟩
  case round =>
    obtain ⟨k, hk, rfl, he, rfl⟩ := hrel
    by_cases hlt : k < n
    · obtain ⟨b, off, cap', hvv, _, _, hbl, hc⟩ := HV2.out.addr (by omega)
      simp only [Value.slice.injEq] at hvv
      obtain ⟨rfl, _, rfl⟩ := hvv
      have hlk : k < l.length := by rw [HN.out]; exact hlt
      have x0 := hc k _ (ints_get hlk)
      have hd := idxI_drop (s := s) hlk
      generalize l.getD k 0 = x at *
      have HD := Lib.hid hd
      clear hd hc
      cases hp : (s == x)
      · have HP := Lib.hid (HD.out.trans (if_neg (by rw [hp]; decide)))
        go_wp2_with fail
        go_roundw
        case rel => exact ⟨k + 1, by omega, by go_num, by show _ = _; rw [← he.out, HP.out], by first | rfl | trivial⟩
        case measure => simp [intOf]; omega
      · have HP := Lib.hid (he.out.symm.trans (HD.out.trans (if_pos hp)))
        go_wp2_with fail
        go_ret
        exact ⟨by rw [HP.out]; rfl, rfl⟩
    · have hkn : l.drop k = [] := List.drop_eq_nil_of_le (by rw [HN.out]; omega)
      have HX : Hid (E = -1) := by show _ = _; rw [← he.out, hkn]; rfl
      clear he hkn
      go_wp2_with fail
      go_ret
      exact ⟨by rw [HX.out]; rfl, rfl⟩

set_option maxHeartbeats 400000 in
theorem containsI_c (v : Value) (l : List Int) (s : Int) (w : World) (hv : IVal w v l) :
    Calls Try.prog 100 #[v, .int .i64 s] w fun e w' => e = .returned (.bool (hasI s l)) ∧ w = w' := by
  have hc := indexI_c v l s w hv
  have hi := idxI_neg s l 0 (by decide)
  obtain ⟨a, cap, rfl⟩ := hv.slice
  have HC := Lib.hid hc
  clear hc hv
  generalize idxI s l 0 = E at *
  by_cases hp : hasI s l = true
  · have h : 0 ≤ E := hi.2 hp
    have HP : Hid (hasI s l = true) := hp
    clear hi hp
    generalize hasI s l = R at *
    go_enter Try.func100, Try.ntmps100
    go_wp2_with fail
    refine HC.out.mono ?_; rintro e w2 ⟨rfl, rfl⟩
    have g1 : decide (0 ≤ E) = true := decide_eq_true h
    go_wp2_with fail
    go_ret
    exact ⟨by rw [HP.out]; rfl, rfl⟩
  · have h : ¬ 0 ≤ E := fun h => hp (hi.1 h)
    have HP : Hid (hasI s l = false) := by show _ = _; simpa using hp
    clear hi hp
    generalize hasI s l = R at *
    go_enter Try.func100, Try.ntmps100
    go_wp2_with fail
    refine HC.out.mono ?_; rintro e w2 ⟨rfl, rfl⟩
    have g1 : decide (0 ≤ E) = false := decide_eq_false (by omega)
    go_wp2_with fail
    go_ret
    exact ⟨by rw [HP.out]; rfl, rfl⟩

/-- An edge. -/
structure Edg where
  a : Int
  b : Int
  len : Int
def Edg.cells (x : Edg) : List Value := [.int .i64 x.a, .int .i64 x.b, .int .i64 x.len]
theorem edg_cells {w : World} {b off : Nat} {l : List Edg} (h : ∀ j u, (flat Edg.cells l)[j]? = some u → w.cell? ⟨b, off + j, none⟩ = some u) {k : Nat} {x : Edg} (hx : l[k]? = some x) :
    w.cell? ⟨b, off + k * 3, none⟩ = some (.int .i64 x.a) ∧ w.cell? ⟨b, off + k * 3 + 1, none⟩ = some (.int .i64 x.b) ∧ w.cell? ⟨b, off + k * 3 + 2, none⟩ = some (.int .i64 x.len) := by
  have e := fun j u hj hu => Reads.elem (sz := 3) (fun _ => rfl) h hx (j := j) (u := u) hj hu
  exact ⟨e 0 _ (by decide) rfl, by rw [Nat.add_assoc]; exact e 1 _ (by decide) rfl, by rw [Nat.add_assoc]; exact e 2 _ (by decide) rfl⟩
theorem flat_snoc {α : Type} (f : α → List Value) (l : List α) (x : α) : flat f (l ++ [x]) = flat f l ++ f x := by unfold flat; simp
/-- The edges of the switches that are closed, and of the branches that are not left out. -/
def swEdges (nl : List ByteArray) : List NSw → List Edg
  | [] => []
  | s :: ss => if s.opn = true then swEdges nl ss else ⟨idxS s.a nl 0, idxS s.b nl 0, 0⟩ :: swEdges nl ss
def brEdges (nl : List ByteArray) (out : List Int) : List NBr → Nat → List Edg
  | [], _ => []
  | b :: bs, k => if hasI k out = true then brEdges nl out bs (k + 1) else ⟨idxS b.fr nl 0, idxS b.to nl 0, 1000 * b.x⟩ :: brEdges nl out bs (k + 1)
def edgesR (n : Net) (out : List Int) : List Edg := swEdges n.nodes n.sws ++ brEdges n.nodes out n.brs 0
theorem swEdges_drop {nl : List ByteArray} {l : List NSw} {k : Nat} {x : NSw} (h : l[k]? = some x) : swEdges nl (l.drop k) = if x.opn = true then swEdges nl (l.drop (k + 1)) else ⟨idxS x.a nl 0, idxS x.b nl 0, 0⟩ :: swEdges nl (l.drop (k + 1)) := by
  obtain ⟨hk, hx⟩ := List.getElem?_eq_some_iff.1 h
  rw [List.drop_eq_getElem_cons hk, hx]; rfl
theorem brEdges_drop {nl : List ByteArray} {out : List Int} {l : List NBr} {k : Nat} {x : NBr} (h : l[k]? = some x) :
    brEdges nl out (l.drop k) k = if hasI k out = true then brEdges nl out (l.drop (k + 1)) (k + 1) else ⟨idxS x.fr nl 0, idxS x.to nl 0, 1000 * x.x⟩ :: brEdges nl out (l.drop (k + 1)) (k + 1) := by
  obtain ⟨hk, hx⟩ := List.getElem?_eq_some_iff.1 h
  rw [List.drop_eq_getElem_cons hk, hx]; rfl
theorem swEdges_len (nl : List ByteArray) (l : List NSw) : (swEdges nl l).length ≤ l.length := by
  induction l with
  | nil => simp [swEdges]
  | cons x xs ih => unfold swEdges; split <;> simp <;> omega
theorem brEdges_len (nl : List ByteArray) (out : List Int) (l : List NBr) : ∀ k, (brEdges nl out l k).length ≤ l.length := by
  induction l with
  | nil => intro k; simp [brEdges]
  | cons x xs ih => intro k; have := ih (k + 1); unfold brEdges; split <;> simp <;> omega

set_option maxHeartbeats 400000 in
theorem zat_c (na : Option Addr) (nn nc : Nat) (nl : List ByteArray) (s : ByteArray) (bx : Nat) (w : World) (hn : nl.length = nn) (hr : Reads w (.slice na nn nc) nn (strs nl)) (c0 : w.cell? ⟨bx, 0, none⟩ = some (.slice na nn nc)) :
    Calls Try.prog 113 #[.string s, .pointer (some ⟨bx, 0, none⟩)] w fun e w' => e = .returned (.int .i64 (idxS s nl 0)) ∧ w' = w := by
  have HC := Lib.hid (index_c (.slice na nn nc) nl s w (by show Reads _ _ _ _; rw [hn]; exact hr))
  generalize idxS s nl 0 = E at *
  clear hr hn
  go_enter Try.func113, Try.ntmps113
  go_wp2_with fail
  refine HC.out.mono ?_; rintro e w2 ⟨rfl, rfl⟩
  go_wp2_with fail
  go_ret
  exact ⟨rfl, rfl⟩
theorem infoEdge : (Try.prog.info? 178).map (fun i => (i.zero, i.size, i.bytes)) = some (some (.agg #[.int .i64 0, .int .i64 0, .int .i64 0]), 3, 24) := by kernel_rfl
end Go.Proofs.Ytplebibabcdipaa
