/- journal: Groups. -/
import Derived.Test.YtjakhgilkogcnaaDoorJr7
import Derived.Test.YtjakhgilkogcnaaDoorJr10
import Derived.Test.YtjakhgilkogcnaaDoorApp
import Derived.Deep.RegionLaw
namespace Go.Proofs.YtjakhgilkogcnaaDoor
open Go.RowKit

def grpS (gap : Int) (x : Ev) (p : Option Ev) (gs : List (List Ev)) : List (List Ev) :=
  match p with
  | none => gs ++ [[x]]
  | some y => if gap < x.t - y.t then gs ++ [[x]] else gs.dropLast ++ [gs.getLastD [] ++ [x]]
def grpG (gap : Int) : List Ev → Option Ev → List (List Ev) → List (List Ev)
  | [], _, gs => gs
  | x :: xs, p, gs => grpG gap xs (some x) (grpS gap x p gs)
def groupsE (l : List Ev) (gap : Int) : List (List Ev) × Int :=
  if (sortedE l).2 ≠ 0 then ([], (sortedE l).2) else if gap < 0 ∨ 1000000 < gap then ([], 4) else (grpG gap (sortedE l).1 none [], 0)
theorem grpG_drop {gap : Int} {l : List Ev} {k : Nat} {x : Ev} (h : l[k]? = some x) (p : Option Ev) (gs : List (List Ev)) : grpG gap (l.drop k) p gs = grpG gap (l.drop (k + 1)) (some x) (grpS gap x p gs) := by
  obtain ⟨hk, hx⟩ := List.getElem?_eq_some_iff.1 h
  rw [List.drop_eq_getElem_cons hk, hx]; rfl
theorem evsE_zero {l : List Ev} (h : evsE l = 0) : ∀ x ∈ l, evE x = 0 := by
  induction l with
  | nil => intro x hx; cases hx
  | cons y ys ih =>
    unfold evsE at h
    by_cases hy : evE y = 0
    · rw [if_neg (fun h => h hy)] at h
      intro x hx
      rcases List.mem_cons.1 hx with rfl | hx
      · exact hy
      · exact ih h x hx
    · rw [if_pos hy] at h; exact absurd h hy
theorem sorted_ok {l : List Ev} (h : (sortedE l).2 = 0) : sortedE l = (sortE l, 0) ∧ checkE l = 0 := by
  unfold sortedE at h ⊢
  by_cases hz : checkE l = 0
  · rw [if_neg (fun h => h hz)]; exact ⟨rfl, hz⟩
  · rw [if_pos hz] at h; exact absurd h hz
theorem ev_time {x : Ev} (h : evE x = 0) : 0 ≤ x.t ∧ x.t ≤ 1000000000 := by
  unfold evE at h
  split at h
  · cases h
  · omega
theorem sorted_len {l : List Ev} (h : (sortedE l).2 = 0) : (sortedE l).1.length ≤ 256 ∧ ∀ x ∈ (sortedE l).1, 0 ≤ x.t ∧ x.t ≤ 1000000000 := by
  obtain ⟨h1, h2⟩ := sorted_ok h
  rw [h1]
  refine ⟨by simp only [sortE_len]; exact checkE_len h2, fun x hx => ev_time ?_⟩
  have hx' := (sortE_mem l x).1 hx
  have h3 : evsE l = 0 := by
    have := checkE_len h2
    unfold checkE at h2
    rwa [if_neg (by omega)] at h2
  exact evsE_zero h3 x hx'
/-- Lists of events that may be read. -/
def RLE (W : World) (v : Value) (gs : List (List Ev)) : Prop :=
  ∃ hs : List Value, hs.length = gs.length ∧ Reads W v gs.length hs ∧ ∀ (i : Nat) (h : Value) (l : List Ev), hs[i]? = some h → gs[i]? = some l → Reads W h l.length (flat Ev.cells l)
theorem RLE.below {W W' : World} {v : Value} {gs : List (List Ev)} (h : RLE W v gs) (k : Below W.heap.size W W') : RLE W' v gs := by
  obtain ⟨hs, h1, h2, h3⟩ := h
  exact ⟨hs, h1, h2.below k, fun i u l hu hl => (h3 i u l hu hl).below k⟩
theorem OEE.reads {W : World} {base X : Nat} {v : Value} {gs : List (List Ev)} (h : OEE W base X v gs) (hl : gs.length ≤ 2000) : RLE W v gs := by
  obtain ⟨hs, B, h1, h2, h3, h4, h7, h5, h6⟩ := h
  exact ⟨hs, h1, Reads.of_owns h2 (by omega), fun i u l hu hl' => Reads.of_owns (h5 i u l hu hl').2 (by have := (h5 i u l hu hl').1; omega)⟩
def GrpP (gs : List (List Ev)) (er : Int) (w : World) (e : Ending) (w' : World) : Prop :=
  ∃ v, e = .returned (.tuple #[v, .int .i64 er]) ∧ RLE w' v gs ∧ Below w.heap.size w w'
theorem RLE.nil (W : World) : RLE W (.slice none 0 0) [] := ⟨[], rfl, Or.inl ⟨rfl, rfl, none, 0, rfl⟩, fun i h l hh => by simp at hh⟩
theorem OEE.slice {W : World} {base X : Nat} {v : Value} {gs : List (List Ev)} (h : OEE W base X v gs) : ∃ a c, v = .slice a gs.length c := by
  obtain ⟨hs, B, h1, h2, _⟩ := h
  exact row_slice h2
def prevOf (l : List Ev) : Nat → Option Ev
  | 0 => none
  | k + 1 => l[k]?
set_option maxHeartbeats 4000000 in
theorem groups_c (v : Value) (l : List Ev) (gap : Int) (w : World) (hv : EVal w v l) (hw : Hid (∀ x ∈ l, x.Wf)) :
    Calls Tryd.prog 9 #[v, .int .i64 gap] w (GrpP (groupsE l gap).1 (groupsE l gap).2 w) := by
  have HS := Lib.hid (sorted_c v l w hv hw)
  have HE : Hid (groupsE l gap = if (sortedE l).2 ≠ 0 then ([], (sortedE l).2) else if gap < 0 ∨ 1000000 < gap then ([], 4) else (grpG gap (sortedE l).1 none [], 0)) := rfl
  have HSL := Lib.hid (@sorted_len l)
  generalize groupsE l gap = E at *
  obtain ⟨⟨S, T⟩, hST⟩ : ∃ s, sortedE l = s := ⟨_, rfl⟩
  rw [hST] at HS HE HSL
  clear hST hv
  by_cases hz : T = 0
  · have HE1 := Lib.hid (HE.out.trans (if_neg (fun h => h hz)))
    have HL := HSL.out hz
    subst hz
    clear HE HSL
    by_cases h1 : gap < 0
    · have HE2 := Lib.hid (HE1.out.trans (if_pos (Or.inl h1)))
      have g1 : decide (gap < 0) = true := decide_eq_true h1
      clear HE1 h1 HL
      go_enter Tryd.func9, Tryd.ntmps9
      go_wp2_with fail
      refine HS.out.mono ?_; rintro e w3 ⟨a, c, rfl, hv3, hb3⟩
      have B3 := Lib.hid hb3
      clear hb3 hv3
      go_wp2_with fail
      go_ret2
      exact ⟨_, by rw [HE2.out]; rfl, by rw [HE2.out]; exact RLE.nil _, B3.out⟩
    · by_cases h2 : 1000000 < gap
      · have HE2 := Lib.hid (HE1.out.trans (if_pos (Or.inr h2)))
        have g1 : decide (gap < 0) = false := decide_eq_false h1
        have g2 : decide (1000000 < gap) = true := decide_eq_true h2
        clear HE1 h1 h2 HL
        go_enter Tryd.func9, Tryd.ntmps9
        go_wp2_with fail
        refine HS.out.mono ?_; rintro e w3 ⟨a, c, rfl, hv3, hb3⟩
        have B3 := Lib.hid hb3
        clear hb3 hv3
        go_wp2_with fail
        go_ret2
        exact ⟨_, by rw [HE2.out]; rfl, by rw [HE2.out]; exact RLE.nil _, B3.out⟩
      · have HE2 := Lib.hid (HE1.out.trans (if_neg (fun h => h.elim h1 h2)))
        have g1 : decide (gap < 0) = false := decide_eq_false h1
        have g2 : decide (1000000 < gap) = false := decide_eq_false h2
        obtain ⟨n, hN⟩ : ∃ n, S.length = n := ⟨_, rfl⟩
        have HN := Lib.hid hN
        obtain ⟨hn, ht⟩ := HL
        have HT := Lib.hid ht
        have hn' : n ≤ 256 := by rw [← hN]; exact hn
        clear HE1 h1 h2 hn ht
        go_enter Tryd.func9, Tryd.ntmps9
        go_wp2_with fail
        refine HS.out.mono ?_; rintro e w3 ⟨a, c, rfl, hv3, hb3⟩
        have HV3 : Hid (Reads w3 (.slice a S.length c) S.length (flat Ev.cells S)) := hv3
        have B3 := Lib.hid hb3
        have hs3 : w.heap.size ≤ w3.heap.size := hb3.size
        rw [hN] at HV3 ⊢
        clear hb3 hv3 hN HS
        have HR0 : Hid (grpG gap (S.drop 0) (prevOf S 0) [] = E.1 ∧ E.2 = 0) := by show _ ∧ _; rw [HE2.out]; exact ⟨rfl, rfl⟩
        have HO0 := Lib.hid (OEE.nil w3 w3.heap.size (Nat.le_refl _))
        clear HE2
        go_wp2_with fail
        go_loopw [28, 8] (fun i ov wr => ∃ (k : Nat) (gs : List (List Ev)), k ≤ n ∧ i = .int .i64 k ∧ gs.length ≤ k ∧ (0 < k → 0 < gs.length) ∧ Hid (∀ L ∈ gs, L.length ≤ k) ∧ Hid (grpG gap (S.drop k) (prevOf S k) gs = E.1 ∧ E.2 = 0) ∧ Hid (OEE wr w3.heap.size wr.heap.size ov gs) ∧ Hid (Below w3.heap.size w3 wr)) (fun i _ _ => n - (intOf i).toNat)
        case atStart => exact ⟨0, [], Nat.zero_le _, rfl, Nat.le_refl _, fun h => absurd h (Nat.lt_irrefl _), fun L hL => (by cases hL), HR0, HO0, Below.refl _ _⟩
        case round =>
          clear HR0 HO0
          obtain ⟨k, gs, hk, rfl, hgk, hgp, hgl, he, ho, hb⟩ := hrel
          by_cases hlt : k < n
          · obtain ⟨x, hx⟩ : ∃ x, S[k]? = some x := ⟨_, List.getElem?_eq_getElem (by rw [HN.out]; exact hlt)⟩
            rw [grpG_drop hx] at he
            obtain ⟨g', off, cap', hvv, _, _, _, hcc⟩ := (HV3.out.below hb.out).addr (by omega)
            simp only [Value.slice.injEq] at hvv
            obtain ⟨rfl, _, rfl⟩ := hvv
            obtain ⟨c0, c1, c2, c3⟩ := ev_cells hcc hx
            have hxt := HT.out x (List.mem_of_getElem? hx)
            obtain ⟨a0, a1, a2, a3⟩ := x
            simp only at c0 c1 c2 c3 hxt
            obtain ⟨va, vc, rfl⟩ := ho.out.slice
            have HX := Lib.hid (Blk.new wr #[.int .i64 a0, .string a1, .string a2, .int .i64 a3] 31)
            have HOX := Lib.hid (ho.out.alloc (.cells #[.int .i64 a0, .string a1, .string a2, .int .i64 a3] 31))
            have HBX := Lib.hid (hb.out.alloc hb.out.size (.cells #[.int .i64 a0, .string a1, .string a2, .int .i64 a3] 31))
            go_upto_region 10 with fail
            clear c0 c1 c2 c3
            have x0 := HX.out.cell 0 rfl
            rcases Nat.eq_zero_or_pos k with hk0 | hk0
            · have q0 : ((k : Int) == 0) = true := by rw [beq_iff_eq]; omega
              have HRN : Hid (grpG gap (S.drop (k + 1)) (prevOf S (k + 1)) (gs ++ [[] ++ [(⟨a0, a1, a2, a3⟩ : Ev)]]) = E.1 ∧ E.2 = 0) := by
                have h1 : prevOf S (k + 1) = some ⟨a0, a1, a2, a3⟩ := hx
                have h2 : prevOf S k = none := by subst hk0; rfl
                show _ ∧ _
                rw [h1]
                rw [h2] at he
                exact he.out
              clear hcc hx he
              go_quiet (fail)
              obtain ⟨WQ, hWQ⟩ : ∃ W, ((wr.alloc (.cells #[.int .i64 a0, .string a1, .string a2, .int .i64 a3] 31)).drewN nq) = W := ⟨_, rfl⟩
              rw [hWQ]
              have HXQ : Hid (Blk WQ wr.heap.size #[.int .i64 a0, .string a1, .string a2, .int .i64 a3] 31) := by show Blk _ _ _ _; rw [← hWQ]; exact HX.out
              have HBQ : Hid (Below w3.heap.size w3 WQ) := by show Below _ _ _; rw [← hWQ]; exact below_drewN HBX.out _
              have HOQ : Hid (OEE WQ w3.heap.size wr.heap.size (.slice va gs.length vc) gs) := by show OEE _ _ _ _ _; rw [← hWQ]; exact HOX.out
              have hsQ : wr.heap.size < WQ.heap.size := HXQ.out.lt
              clear hWQ HX HBX HOX
              obtain ⟨m, hm⟩ : ∃ m, gs.length = m := ⟨_, rfl⟩
              have hxn : Blk (WQ.alloc (.cells #[.slice none 0 0] 22)) WQ.heap.size #[.slice none 0 0] 22 := Blk.new _ _ _
              obtain ⟨g, c6, W6, q1, HO6, q3, q4, q5⟩ := (HOQ.out.alloc (.cells #[.slice none 0 0] 22)).app (by rw [World.size_alloc]; have := HBQ.out.size; omega) WQ.heap.size (hxn.cell 0 rfl) (by omega)
              have HX6 := Lib.hid (q4 wr.heap.size _ (HXQ.out.alloc _))
              have HB6 := Lib.hid ((HBQ.out.alloc HBQ.out.size (.cells #[.slice none 0 0] 22)).trans q3)
              have HOS : Hid (OEE W6 w3.heap.size wr.heap.size (.slice (some ⟨g, 0, none⟩) (gs.length + 1) c6) (gs ++ [[]])) := HO6
              rw [hm] at q1 hgk ⊢
              have P6 := Lib.hid q1
              have HLN : Hid (∀ L' ∈ gs ++ [[] ++ [(⟨a0, a1, a2, a3⟩ : Ev)]], L'.length ≤ k + 1) := fun L' hL' => by
                rcases List.mem_append.1 hL' with h | h
                · have := hgl.out L' h; omega
                · rw [List.mem_singleton] at h; subst h; simp
              obtain ⟨p, hp⟩ : ∃ p, ([] : List Ev).length = p := ⟨_, rfl⟩
              have hp0 : p < 256 := by rw [← hp]; decide
              clear hxn q1 HO6 q3 q4 q5 hgl HOQ HXQ HBQ
              obtain ⟨u, u', W7, ⟨ua, uc, rfl⟩, ⟨va7, vc7, rfl⟩, p1, p2, p3, p4, p5, p6, p7, p8, p9, p10, p11⟩ := OEE.put HOS.out HB6.out.size ⟨a0, a1, a2, a3⟩ (by decide)
              rw [hm] at p1 p2 p4 p5 p8
              rw [hp] at p1 p3 p4 p8
              have P3 : Hid (∀ ty, (Builtin.append_ #[22, 22] ty #[.slice ua p uc, .slice (some ⟨W6.heap.size, 0, none⟩) 1 1]).run Tryd.prog (W6.alloc (.cells #[.int .i64 a0, .string a1, .string a2, .int .i64 a3] 31)).drew = .ok (.slice va7 (p + 1) vc7) W7) := p3
              have KX7 := p10 wr.heap.size _ (Nat.le_refl _) HX6.out
              have hgx : wr.heap.size ≠ g := fun e => by have := p11; rw [← e] at this; exact this _ HX6.out
              have KX8 := (show Blk W7 wr.heap.size _ _ from KX7).setOther ⟨g, m, none⟩ hgx (.slice va7 (p + 1) vc7)
              have hmm : (m : Int) < (m : Int) + 1 := by omega
              have x0 := HX6.out.cell 0 rfl
              have x1 := HX6.out.cell 1 rfl
              have x2 := HX6.out.cell 2 rfl
              have x3 := HX6.out.cell 3 rfl
              have O8 := Lib.hid p8
              have B8 := Lib.hid ((HB6.out.trans p6).setCell (show w3.heap.size ≤ (⟨g, m, none⟩ : Addr).block from p9) (.slice va7 (p + 1) vc7))
              clear p2 p3 p6 p8 p9 p10 p11 KX7 KX8
              go_upto_region 13 with (at_builtin; refine wpList_append_told rfl (.tmp 48) (.tmp 49) 24 rfl _ _ rfl rfl (.slice (some ⟨g, 0, none⟩) (m + 1) c6) W6 (P6.out _) ?_)
              go_region_law
                (first
                  | (refine step_append_told rfl (.tmp 59) (.tmp 61) 22 rfl (.slice ua p uc) (.slice (some ⟨W6.heap.size, 0, none⟩) 1 1) rfl rfl (.slice va7 (p + 1) vc7) W7 P3.out (by with_reducible rfl) ?_))
              all_goals
                go_simp
                go_wp2_with fail
                go_roundw
                case rel => exact ⟨k + 1, gs ++ [[] ++ [⟨a0, a1, a2, a3⟩]], hlt, by go_num, by simp; omega, fun _ => by simp, HLN, HRN, O8, B8⟩
                case measure => simp [intOf]; omega
            · obtain ⟨y, hy⟩ : ∃ y, S[k - 1]? = some y := ⟨_, List.getElem?_eq_getElem (by rw [HN.out]; omega)⟩
              have q0 : ((k : Int) == 0) = false := by rw [beq_eq_false_iff_ne]; omega
              have y0 := (ev_cells hcc hy).1
              have hyt := HT.out y (List.mem_of_getElem? hy)
              obtain ⟨b0, b1, b2, b3⟩ := y
              simp only at y0 hyt
              obtain ⟨j, hj⟩ : ∃ j, k - 1 = j := ⟨_, rfl⟩
              rw [hj] at y0
              have q1 : decide ((k : Int) - 1 < 0) = false := decide_eq_false (by omega)
              have q2 : decide ((n : Int) ≤ (k : Int) - 1) = false := decide_eq_false (by omega)
              have q3 : ((k : Int) - 1).toNat = j := by omega
              have hpx : prevOf S (k + 1) = some ⟨a0, a1, a2, a3⟩ := hx
              have hpy : prevOf S k = some ⟨b0, b1, b2, b3⟩ := by
                rw [show k = (k - 1) + 1 by omega]
                exact hy
              rw [hpy] at he
              clear hcc hx hy hj hpy
              by_cases hgt : gap < a0 - b0
              · have q4 : decide (gap < a0 - b0) = true := decide_eq_true hgt
                have HRN : Hid (grpG gap (S.drop (k + 1)) (prevOf S (k + 1)) (gs ++ [[] ++ [(⟨a0, a1, a2, a3⟩ : Ev)]]) = E.1 ∧ E.2 = 0) := by
                  show _ ∧ _
                  rw [hpx]
                  have h3 : grpS gap ⟨a0, a1, a2, a3⟩ (some ⟨b0, b1, b2, b3⟩) gs = gs ++ [[(⟨a0, a1, a2, a3⟩ : Ev)]] := if_pos hgt
                  rw [h3] at he
                  exact he.out
                clear he hpx
                go_quiet (fail)
                obtain ⟨WQ, hWQ⟩ : ∃ W, ((wr.alloc (.cells #[.int .i64 a0, .string a1, .string a2, .int .i64 a3] 31)).drewN nq) = W := ⟨_, rfl⟩
                rw [hWQ]
                have HXQ : Hid (Blk WQ wr.heap.size #[.int .i64 a0, .string a1, .string a2, .int .i64 a3] 31) := by show Blk _ _ _ _; rw [← hWQ]; exact HX.out
                have HBQ : Hid (Below w3.heap.size w3 WQ) := by show Below _ _ _; rw [← hWQ]; exact below_drewN HBX.out _
                have HOQ : Hid (OEE WQ w3.heap.size wr.heap.size (.slice va gs.length vc) gs) := by show OEE _ _ _ _ _; rw [← hWQ]; exact HOX.out
                have hsQ : wr.heap.size < WQ.heap.size := HXQ.out.lt
                clear hWQ HX HBX HOX
                obtain ⟨m, hm⟩ : ∃ m, gs.length = m := ⟨_, rfl⟩
                have hxn : Blk (WQ.alloc (.cells #[.slice none 0 0] 22)) WQ.heap.size #[.slice none 0 0] 22 := Blk.new _ _ _
                obtain ⟨g, c6, W6, q1, HO6, q3, q4, q5⟩ := (HOQ.out.alloc (.cells #[.slice none 0 0] 22)).app (by rw [World.size_alloc]; have := HBQ.out.size; omega) WQ.heap.size (hxn.cell 0 rfl) (by omega)
                have HX6 := Lib.hid (q4 wr.heap.size _ (HXQ.out.alloc _))
                have HB6 := Lib.hid ((HBQ.out.alloc HBQ.out.size (.cells #[.slice none 0 0] 22)).trans q3)
                have HOS : Hid (OEE W6 w3.heap.size wr.heap.size (.slice (some ⟨g, 0, none⟩) (gs.length + 1) c6) (gs ++ [[]])) := HO6
                rw [hm] at q1 hgk ⊢
                have P6 := Lib.hid q1
                have HLN : Hid (∀ L' ∈ gs ++ [[] ++ [(⟨a0, a1, a2, a3⟩ : Ev)]], L'.length ≤ k + 1) := fun L' hL' => by
                  rcases List.mem_append.1 hL' with h | h
                  · have := hgl.out L' h; omega
                  · rw [List.mem_singleton] at h; subst h; simp
                obtain ⟨p, hp⟩ : ∃ p, ([] : List Ev).length = p := ⟨_, rfl⟩
                have hp0 : p < 256 := by rw [← hp]; decide
                clear hxn q1 HO6 q3 q4 q5 hgl HOQ HXQ HBQ
                obtain ⟨u, u', W7, ⟨ua, uc, rfl⟩, ⟨va7, vc7, rfl⟩, p1, p2, p3, p4, p5, p6, p7, p8, p9, p10, p11⟩ := OEE.put HOS.out HB6.out.size ⟨a0, a1, a2, a3⟩ (by decide)
                rw [hm] at p1 p2 p4 p5 p8
                rw [hp] at p1 p3 p4 p8
                have P3 : Hid (∀ ty, (Builtin.append_ #[22, 22] ty #[.slice ua p uc, .slice (some ⟨W6.heap.size, 0, none⟩) 1 1]).run Tryd.prog (W6.alloc (.cells #[.int .i64 a0, .string a1, .string a2, .int .i64 a3] 31)).drew = .ok (.slice va7 (p + 1) vc7) W7) := p3
                have KX7 := p10 wr.heap.size _ (Nat.le_refl _) HX6.out
                have hgx : wr.heap.size ≠ g := fun e => by have := p11; rw [← e] at this; exact this _ HX6.out
                have KX8 := (show Blk W7 wr.heap.size _ _ from KX7).setOther ⟨g, m, none⟩ hgx (.slice va7 (p + 1) vc7)
                have hmm : (m : Int) < (m : Int) + 1 := by omega
                have x0 := HX6.out.cell 0 rfl
                have x1 := HX6.out.cell 1 rfl
                have x2 := HX6.out.cell 2 rfl
                have x3 := HX6.out.cell 3 rfl
                have O8 := Lib.hid p8
                have B8 := Lib.hid ((HB6.out.trans p6).setCell (show w3.heap.size ≤ (⟨g, m, none⟩ : Addr).block from p9) (.slice va7 (p + 1) vc7))
                clear p2 p3 p6 p8 p9 p10 p11 KX7 KX8
                go_upto_region 13 with (at_builtin; refine wpList_append_told rfl (.tmp 48) (.tmp 49) 24 rfl _ _ rfl rfl (.slice (some ⟨g, 0, none⟩) (m + 1) c6) W6 (P6.out _) ?_)
                go_region_law
                  (first
                    | (refine step_append_told rfl (.tmp 59) (.tmp 61) 22 rfl (.slice ua p uc) (.slice (some ⟨W6.heap.size, 0, none⟩) 1 1) rfl rfl (.slice va7 (p + 1) vc7) W7 P3.out (by with_reducible rfl) ?_))
                all_goals
                  go_simp
                  go_wp2_with fail
                  go_roundw
                  case rel => exact ⟨k + 1, gs ++ [[] ++ [⟨a0, a1, a2, a3⟩]], hlt, by go_num, by simp; omega, fun _ => by simp, HLN, HRN, O8, B8⟩
                  case measure => simp [intOf]; omega
              · have q4 : decide (gap < a0 - b0) = false := decide_eq_false hgt
                go_quiet (fail)
                obtain ⟨WQ, hWQ⟩ : ∃ W, ((wr.alloc (.cells #[.int .i64 a0, .string a1, .string a2, .int .i64 a3] 31)).drewN nq) = W := ⟨_, rfl⟩
                rw [hWQ]
                have HXQ : Hid (Blk WQ wr.heap.size #[.int .i64 a0, .string a1, .string a2, .int .i64 a3] 31) := by show Blk _ _ _ _; rw [← hWQ]; exact HX.out
                have HBQ : Hid (Below w3.heap.size w3 WQ) := by show Below _ _ _; rw [← hWQ]; exact below_drewN HBX.out _
                have HOQ : Hid (OEE WQ w3.heap.size wr.heap.size (.slice va gs.length vc) gs) := by show OEE _ _ _ _ _; rw [← hWQ]; exact HOX.out
                have hsQ : wr.heap.size < WQ.heap.size := HXQ.out.lt
                clear hWQ HX HBX HOX
                obtain ⟨gs1, L, hgs⟩ : ∃ gs1 L, gs = gs1 ++ [L] := ⟨gs.dropLast, gs.getLast (by have := hgp hk0; intro e; rw [e] at this; cases this), (List.dropLast_concat_getLast _).symm⟩
                subst hgs
                obtain ⟨m, hm⟩ : ∃ m, gs1.length = m := ⟨_, rfl⟩
                have hLk := hgl.out L (by simp)
                have hlen : (gs1 ++ [L]).length = m + 1 := by simp [hm]
                have HRN : Hid (grpG gap (S.drop (k + 1)) (prevOf S (k + 1)) (gs1 ++ [L ++ [(⟨a0, a1, a2, a3⟩ : Ev)]]) = E.1 ∧ E.2 = 0) := by
                  show _ ∧ _
                  rw [hpx]
                  have h3 : grpS gap ⟨a0, a1, a2, a3⟩ (some ⟨b0, b1, b2, b3⟩) (gs1 ++ [L]) = gs1 ++ [L ++ [(⟨a0, a1, a2, a3⟩ : Ev)]] := by
                    refine (if_neg hgt).trans ?_
                    rw [List.dropLast_concat, List.getLastD_concat]
                  rw [h3] at he
                  exact he.out
                have HLN : Hid (∀ L' ∈ gs1 ++ [L ++ [(⟨a0, a1, a2, a3⟩ : Ev)]], L'.length ≤ k + 1) := fun L' hL' => by
                  rcases List.mem_append.1 hL' with h | h
                  · have := hgl.out L' (List.mem_append_left _ h); omega
                  · rw [List.mem_singleton] at h; subst h; simp; exact hLk
                clear he hpx hgl
                rw [hlen] at HOQ hgk ⊢
                obtain ⟨g, rfl⟩ : ∃ g, va = some ⟨g, 0, none⟩ := by
                  obtain ⟨hs, B, h1, h2, _⟩ := HOQ.out
                  rw [hlen] at h2
                  obtain ⟨g, cap, hgv⟩ := row_succ h2
                  cases hgv
                  exact ⟨g, rfl⟩
                have HOR : Hid (OEE WQ w3.heap.size wr.heap.size (.slice (some ⟨g, 0, none⟩) (gs1.length + 1) vc) (gs1 ++ [L])) := by rw [hm]; exact HOQ
                clear HOQ
                obtain ⟨p, hp⟩ : ∃ p, L.length = p := ⟨_, rfl⟩
                obtain ⟨u, u', W7, ⟨ua, uc, rfl⟩, ⟨va7, vc7, rfl⟩, p1, p2, p3, p4, p5, p6, p7, p8, p9, p10, p11⟩ := OEE.put HOR.out HBQ.out.size ⟨a0, a1, a2, a3⟩ (by omega)
                rw [hm] at p1 p2 p4 p5 p8
                rw [hp] at p1 p3 p4 p8
                have P3 : Hid (∀ ty, (Builtin.append_ #[22, 22] ty #[.slice ua p uc, .slice (some ⟨WQ.heap.size, 0, none⟩) 1 1]).run Tryd.prog (WQ.alloc (.cells #[.int .i64 a0, .string a1, .string a2, .int .i64 a3] 31)).drew = .ok (.slice va7 (p + 1) vc7) W7) := p3
                have KX7 := p10 wr.heap.size _ (Nat.le_refl _) HXQ.out
                have hgx : wr.heap.size ≠ g := fun e => by have := p11; rw [← e] at this; exact this _ HXQ.out
                have KX8 := (show Blk W7 wr.heap.size _ _ from KX7).setOther ⟨g, m, none⟩ hgx (.slice va7 (p + 1) vc7)
                have hmm : (m : Int) < (m : Int) + 1 := by omega
                have x0 := HXQ.out.cell 0 rfl
                have x1 := HXQ.out.cell 1 rfl
                have x2 := HXQ.out.cell 2 rfl
                have x3 := HXQ.out.cell 3 rfl
                have O8 := Lib.hid p8
                have B8 := Lib.hid ((HBQ.out.trans p6).setCell (show w3.heap.size ≤ (⟨g, m, none⟩ : Addr).block from p9) (.slice va7 (p + 1) vc7))
                clear p2 p3 p6 p8 p9 p10 p11 KX7 KX8
                go_upto_region 13 with (fail)
                go_region_law
                  (first
                    | (refine step_append_told rfl (.tmp 59) (.tmp 61) 22 rfl (.slice ua p uc) (.slice (some ⟨WQ.heap.size, 0, none⟩) 1 1) rfl rfl (.slice va7 (p + 1) vc7) W7 P3.out (by with_reducible rfl) ?_))
                all_goals
                  go_simp
                  go_wp2_with fail
                  go_roundw
                  case rel => exact ⟨k + 1, gs1 ++ [L ++ [⟨a0, a1, a2, a3⟩]], hlt, by go_num, by simp; omega, fun _ => by simp, HLN, HRN, O8, B8⟩
                  case measure => simp [intOf]; omega
          · have hn0 : S.drop k = [] := List.drop_eq_nil_of_le (by rw [HN.out]; omega)
            rw [hn0] at he
            obtain ⟨va, vc, rfl⟩ := ho.out.slice
            go_wp2_with fail
            go_ret2
            exact ⟨_, by rw [he.out.2]; rfl, by rw [← he.out.1]; exact ho.out.reads (by omega), B3.out.trans (hb.out.mono hs3)⟩
  · have HR := Lib.hid (HE.out.trans (if_pos hz))
    have g1 : (T != 0) = true := by simpa using hz
    clear HE hz HSL
    go_enter Tryd.func9, Tryd.ntmps9
    go_wp2_with fail
    refine HS.out.mono ?_; rintro e w3 ⟨a, c, rfl, hv3, hb3⟩
    have B3 := Lib.hid hb3
    clear hb3 hv3
    go_wp2_with fail
    go_ret2
    exact ⟨_, by rw [HR.out]; rfl, by rw [HR.out]; exact RLE.nil _, B3.out⟩
end Go.Proofs.YtjakhgilkogcnaaDoor
