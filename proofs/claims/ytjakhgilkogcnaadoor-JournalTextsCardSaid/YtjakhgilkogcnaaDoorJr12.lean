/- journal: Print. -/
import Derived.Test.YtjakhgilkogcnaaDoorJr8
import Derived.Test.YtjakhgilkogcnaaDoorJr11
import Derived.Test.YtjakhgilkogcnaaDoorShb
import Derived.Lib.SmallJoins
import Derived.Lib.ItoaLen
namespace Go.Proofs.YtjakhgilkogcnaaDoor
open Go.RowKit Go.Sort

def lineJ (x : Ev) : ByteArray := ⟨(Lib.join ([(⟨(Lib.itoa x.t).toArray⟩ : ByteArray), x.k, x.n, (⟨(Lib.itoa x.v).toArray⟩ : ByteArray)].map (·.data.toList)) [32]).toArray⟩
def lineS (x : Ev) : ByteArray := lineJ x ++ ⟨#[10]⟩
def textB (l : List Ev) : List UInt8 := l.flatMap fun x => (lineS x).data.toList
def printE (l : List Ev) : ByteArray × Int := if checkE l ≠ 0 then (⟨#[]⟩, checkE l) else (⟨(textB l).toArray⟩, 0)
theorem textB_take {l : List Ev} {k : Nat} {x : Ev} (h : l[k]? = some x) : textB (l.take (k + 1)) = textB (l.take k) ++ (lineS x).data.toList := by
  obtain ⟨hk, hx⟩ := List.getElem?_eq_some_iff.1 h
  rw [List.take_succ_eq_append_getElem hk, hx]
  simp [textB]
theorem ev_ok {x : Ev} (h : evE x = 0) : (0 ≤ x.t ∧ x.t ≤ 1000000000) ∧ x.k.size ≤ 8 ∧ x.n.size ≤ 8 ∧ -1000000 ≤ x.v ∧ x.v ≤ 1000000 := by
  unfold evE at h
  split at h
  · cases h
  · split at h
    · cases h
    · rename_i h1 h2
      split at h
      · cases h
      · have hb : nameB x.k = true ∧ nameB x.n = true := by
          cases hk : nameB x.k <;> cases hn : nameB x.n <;> simp_all
        have sz : ∀ s : ByteArray, nameB s = true → s.size ≤ 8 := fun s hs => by
          unfold nameB at hs
          simp at hs
          exact hs.2.2
        exact ⟨by omega, sz _ hb.1, sz _ hb.2, by omega, by omega⟩
theorem lineJ_len {x : Ev} (h : evE x = 0) : (lineJ x).size ≤ 70 ∧ (Lib.join ([(⟨(Lib.itoa x.t).toArray⟩ : ByteArray), x.k, x.n, (⟨(Lib.itoa x.v).toArray⟩ : ByteArray)].map (·.data.toList)) [32]).length ≤ 70 := by
  obtain ⟨h1, h2, h3, h4, h5⟩ := ev_ok h
  have i1 := Lib.itoa_length_le x.t (by omega) (by omega)
  have i2 := Lib.itoa_length_le x.v (by omega) (by omega)
  have e : (lineJ x).size = (Lib.join ([(⟨(Lib.itoa x.t).toArray⟩ : ByteArray), x.k, x.n, (⟨(Lib.itoa x.v).toArray⟩ : ByteArray)].map (·.data.toList)) [32]).length := by
    show (Array.size _) = _
    simp
  rw [e]
  have : (Lib.join ([(⟨(Lib.itoa x.t).toArray⟩ : ByteArray), x.k, x.n, (⟨(Lib.itoa x.v).toArray⟩ : ByteArray)].map (·.data.toList)) [32]).length ≤ 70 := by
    have k1 : x.k.data.size ≤ 8 := h2
    have k2 : x.n.data.size ≤ 8 := h3
    simp [Lib.join, List.intercalate, List.intersperse]
    omega
  exact ⟨this, this⟩
theorem lineS_len {x : Ev} (h : evE x = 0) : (lineS x).data.toList.length ≤ 71 := by
  have := (lineJ_len h).1
  have e : (lineS x).data.toList.length = (lineJ x).size + 1 := by
    unfold lineS
    rw [ByteArray.data_append, Array.toList_append, List.length_append]
    rfl
  omega
theorem textB_len {l : List Ev} (h : ∀ x ∈ l, evE x = 0) : (textB l).length ≤ 71 * l.length := by
  induction l with
  | nil => simp [textB]
  | cons x xs ih =>
    have := ih (fun y hy => h y (List.mem_cons_of_mem _ hy))
    have := lineS_len (h x (List.mem_cons_self ..))
    unfold textB at *
    rw [List.flatMap_cons, List.length_append, List.length_cons]
    omega
theorem isb_below {b B : Nat} {T e : TypeId} {bs : List Value} {W W' : World} (h : Lib.IsBuilderF T e B b bs W) (hb : Below W.heap.size W W') : Lib.IsBuilderF T e B b bs W' := by
  have key : ∀ {p : Value}, Lib.BuilderAtF T e B b p bs W → Lib.BuilderAtF T e B b p bs W' := fun {p} h => by
    have hlt := h.lt
    obtain ⟨hB, v, hv, hown, hne⟩ := h
    exact ⟨hB, v, (hb.block b hlt).trans hv, hown.kept (row := none) ⟨hb.os, hb.tape, hb.output, hb.size, fun k hk _ => hb.block k hk⟩ (Classical.em _), hne⟩
  exact h.elim (fun x => .inl (key x)) (fun x => .inr (key x))
abbrev Pow (w : World) : Prop := Lib.TabIs Tryd.prog w "internal/strconv.uint64pow10" .u64 Lib.pow10Tab
theorem Pow.below {w w' : World} (h : Pow w) (k : Below w.heap.size w w') : Pow w' :=
  Go.Joins.var_stays (g := 1) (by kernel_rfl) h k (Nat.le_refl _)
theorem itoa_c (n : Int) (w : World) (h0 : -9223372036854775808 ≤ n) (h1 : n ≤ 9223372036854775807) (ht : Pow w) : Calls Tryd.prog 22 #[.int .i64 n] w fun e w' => e = .returned (.string ⟨(Lib.itoa n).toArray⟩) ∧ Below w.heap.size w w' :=
  (Tryd.strconv_Itoa n h0 h1 w ht).mono fun e w' ⟨he, k, os, hw⟩ => ⟨he, by
    subst hw
    refine ⟨rfl, rfl, rfl, ?_, fun i hi => ?_⟩
    · show _ ≤ (w.heap ++ os).size
      rw [Array.size_append]; omega
    · show (w.heap ++ os)[i]? = _
      rw [Array.getElem?_append_left hi]⟩
end Go.Proofs.YtjakhgilkogcnaaDoor
