/- The text of a natural (plain). -/
import Derived.Test.YthcddboeejbncaaPzTxt5
import Derived.Lib.TrimByte
namespace Go.Proofs.Ythcddboeejbncaa
open Go.RowKit
/-! ### The text of a natural, plain -/
/-- The last m digits of a number, the first ahead. -/
def digF : Nat → Nat → List UInt8
  | 0, _ => []
  | m + 1, D => UInt8.ofNat (48 + D / 10 ^ m % 10) :: digF m D
theorem digF_len (D : Nat) : ∀ m, (digF m D).length = m
  | 0 => rfl
  | m + 1 => by rw [digF, List.length_cons, digF_len D m]
theorem digF_digs (D : Nat) : ∀ m, ∀ c ∈ digF m D, 48 ≤ c.toNat ∧ c.toNat ≤ 57
  | 0, c, hc => by cases hc
  | m + 1, c, hc => by
    rcases List.mem_cons.1 hc with rfl | hc
    · rw [byte48 (Nat.mod_lt _ (by decide))]
      have : D / 10 ^ m % 10 < 10 := Nat.mod_lt _ (by decide)
      omega
    · exact digF_digs D m c hc
theorem dec_cons (c : UInt8) (l : List UInt8) : decV (c :: l) = (c.toNat - 48) * 10 ^ l.length + decV l := by
  rw [show c :: l = [c] ++ l from rfl, dec_append]
  congr 2
  show 0 * 10 + _ = _
  omega
theorem digF_val (D : Nat) : ∀ m, decV (digF m D) = D % 10 ^ m
  | 0 => by rw [Nat.pow_zero, Nat.mod_one]; rfl
  | m + 1 => by
    rw [digF, dec_cons, digF_len, digF_val D m, byte48 (Nat.mod_lt _ (by decide)), Nat.pow_succ, Nat.mod_mul, show 48 + D / 10 ^ m % 10 - 48 = D / 10 ^ m % 10 by omega, Nat.mul_comm, Nat.add_comm]
theorem dec_zeros : ∀ (l : List UInt8), decV (l.dropWhile (· == 48)) = decV l
  | [] => rfl
  | c :: l => by
    rw [List.dropWhile_cons]
    by_cases h : (c == 48) = true
    · rw [if_pos h, dec_zeros l, dec_cons, eq_of_beq h]; simp
    · rw [if_neg h]
theorem mem_dropw : ∀ {l : List UInt8} {c : UInt8}, c ∈ l.dropWhile (· == 48) → c ∈ l := fun h => (List.dropWhile_suffix _).subset h
theorem head_dropw : ∀ (l : List UInt8), l.dropWhile (· == 48) = [] ∨ ((l.dropWhile (· == 48)).getD 0 0).toNat ≠ 48
  | [] => Or.inl rfl
  | c :: l => by
    rw [List.dropWhile_cons]
    by_cases h : (c == 48) = true
    · rw [if_pos h]; exact head_dropw l
    · rw [if_neg h]
      refine Or.inr (fun hh => h ?_)
      show (c == 48) = true
      have : c = 48 := by apply UInt8.toNat_inj.1; exact hh
      rw [this]; rfl
theorem trim_dT {l : List UInt8} (hd : ∀ c ∈ l, 48 ≤ c.toNat ∧ c.toNat ≤ 57) (h : 0 < decV l) : Lib.trimLeftB l 48 = dT (decV l) := by
  unfold Lib.trimLeftB
  have hv := dec_zeros l
  have hd2 : ∀ c ∈ l.dropWhile (· == 48), 48 ≤ c.toNat ∧ c.toNat ≤ 57 := fun c hc => hd c (mem_dropw hc)
  rcases head_dropw l with hn | hn
  · rw [hn] at hv
    rw [← hv] at h
    exact absurd h (by decide)
  · rw [← hv]
    refine (dT_of _ _ rfl hd2 ?_ (fun hh => absurd hh hn)).symm
    refine List.length_pos_iff.2 (fun hh => ?_)
    rw [hh] at hv
    rw [← hv] at h
    exact absurd h (by decide)
/-- The bytes of some digits, nine each. -/
def chk (ds : List Int) : List UInt8 := ds.reverse.flatMap fun d => digF 9 d.toNat
theorem chk_cons (x : Int) (r : List Int) : chk (x :: r) = chk r ++ digF 9 x.toNat := by
  unfold chk
  rw [List.reverse_cons, List.flatMap_append]
  simp
theorem chk_len : ∀ (ds : List Int), (chk ds).length = 9 * ds.length
  | [] => rfl
  | x :: r => by rw [chk_cons, List.length_append, chk_len r, digF_len, List.length_cons]; omega
theorem chk_digs : ∀ (ds : List Int), ∀ c ∈ chk ds, 48 ≤ c.toNat ∧ c.toNat ≤ 57
  | [], c, hc => by cases hc
  | x :: r, c, hc => by
    rw [chk_cons] at hc
    rcases List.mem_append.1 hc with hc | hc
    · exact chk_digs r c hc
    · exact digF_digs _ _ c hc
theorem chk_val : ∀ {ds : List Int}, DgOk ds → (decV (chk ds) : Int) = val ds
  | [], _ => rfl
  | x :: r, h => by
    have hx := h x (List.mem_cons_self ..)
    rw [chk_cons, dec_append, digF_len, digF_val, val]
    have ih := chk_val h.tail
    have e : x.toNat % 10 ^ 9 = x.toNat := Nat.mod_eq_of_lt (by omega)
    rw [e, Int.natCast_add, Int.natCast_mul, ih, show ((10 ^ 9 : Nat) : Int) = 1000000000 by decide]
    omega
/-- Nine places, the last m of them written. -/
def part9 (m D : Nat) : List UInt8 := List.replicate (9 - m) 0 ++ digF m D
theorem part9_len {m : Nat} (h : m ≤ 9) (D : Nat) : (part9 m D).length = 9 := by
  unfold part9
  rw [List.length_append, List.length_replicate, digF_len]; omega
theorem rep_set (x : UInt8) (l : List UInt8) : ∀ r, (List.replicate (r + 1) 0 ++ l).set r x = List.replicate r 0 ++ x :: l
  | 0 => rfl
  | r + 1 => by
    have ih := rep_set x l r
    rw [List.replicate_succ, List.cons_append, List.set_cons_succ, ih]; rfl
theorem part9_set {m : Nat} (h : m < 9) (D : Nat) : (part9 m D).set (8 - m) (UInt8.ofNat (48 + D / 10 ^ m % 10)) = part9 (m + 1) D := by
  unfold part9
  have := rep_set (UInt8.ofNat (48 + D / 10 ^ m % 10)) (digF m D) (8 - m)
  rw [show 8 - m + 1 = 9 - m by omega] at this
  rw [this, show 9 - (m + 1) = 8 - m by omega]; rfl
theorem part9_end (D : Nat) : part9 9 D = digF 9 D := rfl
theorem part9_new (D : Nat) : part9 0 D = List.replicate 9 0 := by unfold part9; simp [digF]
end Go.Proofs.Ythcddboeejbncaa
