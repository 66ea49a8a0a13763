/- meter: Form: what it computes; makes. -/
import Derived.Test.YthcddboeejbncaaPzMet4
namespace Go.Proofs.Ythcddboeejbncaa
open Go.RowKit

theorem made_get (z : Array Value) (n i : Nat) (h : i < n) : (madeCells z n)[i]? = some (z[i % z.size]!) := by simp [madeCells, h]
theorem make_qs (n : Nat) (hn : n ≤ 1000) (W : World) : (Instr.makeSlice 76 (.int .i64 (n : Int)) (.int .i64 (n : Int))).run Try.prog W = .ok (.slice (some ⟨W.heap.size, 0, none⟩) n n) (W.alloc (.cells (madeCells #[.bool false, .slice none 0 0, .slice none 0 0] (n * 3)) 80)) := by
  obtain ⟨i0, hi0, hz0, hz1, hz2⟩ := info_parts infoQ
  have hr := run_make (P := Try.prog) W 76 80 i0 _ Try.underlying76 hi0 hz0 .i64 .i64 n n (by omega) (Int.le_refl _) (by rw [hz2]; omega) (by omega)
  simp only [Int.toNat_natCast, hz1] at hr
  exact hr
theorem RowM.zero (W : World) (n : Nat) : RowM (W.alloc (.cells (madeCells #[.bool false, .slice none 0 0, .slice none 0 0] (n * 3)) 80)) W.heap.size n (fun _ => 0) := by
  refine ⟨_, Blk.new _ _ _, ?_, by rw [size_madeCells]; omega, fun c hc => ⟨false, .slice none 0 0, .slice none 0 0, ?_, ?_, ?_, QC.zero _⟩⟩
  · exact trivial
  · rw [made_get _ _ _ (by omega)]; simp [show 3 * c % 3 = 0 by omega]
  · rw [made_get _ _ _ (by omega)]; simp [show (3 * c + 1) % 3 = 1 by omega]
  · rw [made_get _ _ _ (by omega)]; simp [show (3 * c + 2) % 3 = 2 by omega]
/-- A form: coefficients and constant. -/
abbrev LineQ := (Nat → Rat) × Rat
def flowL (n : Net) (x : NBr) (sg : Int) (L : LineQ) : LineQ := (flowC (yQ x sg) (busAt n x.fr).toNat (busAt n x.to).toNat L.1, flowD (yQ x sg) x.sh L.2)
def injF (n : Net) (at' : Int) : List NBr → LineQ → LineQ
  | [], L => L
  | x :: xs, L =>
    let L1 := if busAt n x.fr = at' then flowL n x 1 L else L
    let L2 := if busAt n x.to = at' then flowL n x (-1) L1 else L1
    injF n at' xs L2
theorem injF_drop {n : Net} {a : Int} {l : List NBr} {k : Nat} {x : NBr} (h : l[k]? = some x) (L : LineQ) : injF n a (l.drop k) L = injF n a (l.drop (k + 1)) (if busAt n x.to = a then flowL n x (-1) (if busAt n x.fr = a then flowL n x 1 L else L) else (if busAt n x.fr = a then flowL n x 1 L else L)) := by
  obtain ⟨hk, hx⟩ := List.getElem?_eq_some_iff.1 h
  rw [List.drop_eq_getElem_cons hk, hx]; rfl
def zeroL : LineQ := (fun _ => 0, 0)
/-- The form of a meter. -/
def formE (n : Net) (m : MIt) : LineQ :=
  if m.kind = 0 then flowL n (brOf n m.name) 1 zeroL
  else if m.kind = 2 then (setR (fun _ => 0) (busAt n m.name).toNat 1, 0)
  else injF n (busAt n m.name) n.brs zeroL
/-- A form as a value. -/
def LineV (W : World) (v : Value) (m : Nat) (L : LineQ) : Prop :=
  ∃ (g : Nat) (ng : Bool) (na : Option Addr) (n nc : Nat) (da : Option Addr) (dl dc : Nat), v = .agg #[.slice (some ⟨g, 0, none⟩) m m, .bool ng, .slice na n nc, .slice da dl dc] ∧ RowM W g m L.1 ∧ QC W ng (.slice na n nc) (.slice da dl dc) L.2
theorem LineV.below {W W' : World} {v : Value} {m : Nat} {L : LineQ} (h : LineV W v m L) (k : Below W.heap.size W W') : LineV W' v m L := by
  obtain ⟨g, ng, na, n, nc, da, dl, dc, rfl, h1, h2⟩ := h
  exact ⟨g, ng, na, n, nc, da, dl, dc, rfl, h1.below k, h2.below k⟩
/-- A node's bus. -/
theorem bus_info {n : Net} (hok : Net.Ok n) {s : ByteArray} (hs : hasS s n.nodes = true) : ∃ j i : Nat, idxS s n.nodes 0 = j ∧ j < n.nodes.length ∧ busAt n s = i ∧ i < (islandsE n).length ∧ (ints (busesE n))[j]? = some (.int .i64 (i : Int)) := by
  obtain ⟨j, hj, hjl⟩ := idxS_nat hs
  obtain ⟨m, hm, hm24, hb⟩ := cnt_buses hok
  have hbl := (busesE_ok n).1
  have hl := islands_len hm
  have hmem : (busesE n).getD j 0 ∈ busesE n := by
    have hk : j < (busesE n).length := by rw [hbl]; exact hjl
    rw [show (busesE n).getD j 0 = (busesE n)[j] by simp [hk]]; exact List.getElem_mem _
  have h2 := hb _ hmem
  have hE : busAt n s = (busesE n).getD j 0 := by unfold busAt; rw [hj]; rfl
  refine ⟨j, ((busesE n).getD j 0).toNat, hj, hjl, by rw [hE]; omega, by rw [hl]; omega, ?_⟩
  rw [ints_get (by rw [hbl]; exact hjl)]
  congr 2
  omega
/-- The size of a form. -/
def SzL (m s : Nat) (L : LineQ) : Prop := (∀ i, i < m → sz (L.1 i) ≤ s) ∧ sz L.2 ≤ s
theorem SzL.zero (m : Nat) : SzL m 1 zeroL := ⟨fun i _ => by show sz 0 ≤ 1; rw [sz_zero]; exact Nat.le_refl _, by show sz 0 ≤ 1; rw [sz_zero]; exact Nat.le_refl _⟩
theorem SzL.mono {m s s' : Nat} {L : LineQ} (h : SzL m s L) (hs : s ≤ s') : SzL m s' L := ⟨fun i hi => Nat.le_trans (h.1 i hi) hs, Nat.le_trans h.2 hs⟩
theorem SzL.flow {n : Net} {x : NBr} {sg : Int} {s : Nat} {L : LineQ} (h : SzL (islandsE n).length s L) (hok : netE n = 0) (hx : x ∈ n.brs) (hs : sg = 1 ∨ sg = -1) : SzL (islandsE n).length (s + 34) (flowL n x sg L) := by
  have hok1 := netE_ok hok
  obtain ⟨hfr, hto, hx1, hx2⟩ := hok1.br x hx
  obtain ⟨ht1, ht2, ht3, ht4⟩ := netE_tap hok x hx
  obtain ⟨hy, _, _⟩ := sz_y (x := x) hs ⟨hx1, hx2⟩ ⟨ht1, ht2⟩
  obtain ⟨j1, i1, _, _, hi1, hl1, _⟩ := bus_info hok1 hfr
  obtain ⟨j2, i2, _, _, hi2, hl2, _⟩ := bus_info hok1 hto
  refine ⟨?_, (sz_flowD (sh := x.sh) h.2 hy ht3 ht4).2.2⟩
  have := sz_flowC h.1 hy (i1 := i1) (i2 := i2) hl1 hl2
  unfold flowL
  rw [hi1, hi2]
  exact this
/-- One step of the injection's form. -/
def injS (n : Net) (a : Int) (x : NBr) (L : LineQ) : LineQ := if busAt n x.to = a then flowL n x (-1) (if busAt n x.fr = a then flowL n x 1 L else L) else (if busAt n x.fr = a then flowL n x 1 L else L)
theorem SzL.step {n : Net} {x : NBr} {a : Int} {s : Nat} {L : LineQ} (h : SzL (islandsE n).length s L) (hok : netE n = 0) (hx : x ∈ n.brs) : SzL (islandsE n).length (s + 68) (injS n a x L) := by
  unfold injS
  have h1 : SzL (islandsE n).length (s + 34) (if busAt n x.fr = a then flowL n x 1 L else L) := by
    split
    · exact h.flow hok hx (Or.inl rfl)
    · exact h.mono (by omega)
  split
  · exact (h1.flow hok hx (Or.inr rfl)).mono (by omega)
  · exact h1.mono (by omega)
theorem SzL.inj {n : Net} {a : Int} (hok : netE n = 0) : ∀ (l : List NBr) (s : Nat) (L : LineQ), (∀ x ∈ l, x ∈ n.brs) → SzL (islandsE n).length s L → SzL (islandsE n).length (s + 68 * l.length) (injF n a l L)
  | [], s, L, _, h => h.mono (by simp)
  | x :: xs, s, L, hm, h => by
    have h1 := (h.step hok (hm x (List.mem_cons_self ..)) (a := a))
    have h2 := SzL.inj (a := a) hok xs (s + 68) (injS n a x L) (fun y hy => hm y (List.mem_cons_of_mem _ hy)) h1
    exact h2.mono (by rw [List.length_cons]; omega)
theorem sz_form {n : Net} {m : MIt} (hok : netE n = 0) (hm : itemE n m = 0) : SzL (islandsE n).length 2000 (formE n m) := by
  have hnb := (netE_ok hok).nb
  unfold formE
  split
  · rename_i h0
    have hk : knownB n m = true := by
      unfold itemE at hm
      split at hm
      · cases hm
      · split at hm
        · cases hm
        · rename_i h; simpa using h
    unfold knownB at hk
    rw [if_pos h0] at hk
    rcases brAt_range n m.name with h | ⟨k, x, h1, h2, _⟩
    · rw [h] at hk; simp at hk
    · rw [brOf_eq h1 h2]
      exact ((SzL.zero _).flow hok (List.mem_of_getElem? h2) (Or.inl rfl)).mono (by omega)
  · split
    · refine ⟨fun i _ => ?_, by show sz 0 ≤ _; rw [sz_zero]; omega⟩
      show sz (setR _ _ _ _) ≤ _
      unfold setR
      split
      · have := sz_i 1 (by decide) (by decide)
        have e : ((1 : Int) : Rat) = 1 := rfl
        rw [e] at this; omega
      · rw [sz_zero]; omega
    · exact (SzL.inj hok n.brs 1 zeroL (fun x h => h) (SzL.zero _)).mono (by omega)
end Go.Proofs.Ythcddboeejbncaa
