/- The plain law of RecloseSteps: what Shots computes answers as the statement says. -/
import Derived.Test.YtjkgkoedkphnjaaRec7
namespace Go.Proofs.Ytjkgkoedkphnjaa
open Go.RowKit

/-- Each attempt is a dead time after its trip. -/
def Each (l ts out : List Int) : Prop := ∀ k, k < out.length → ∃ j, j < l.length ∧ out.getD k 0 = ts.getD k 0 + l.getD j 0 ∧ 0 ≤ ts.getD k 0 ∧ ts.getD k 0 ≤ 1000000000
/-- What holds ahead of the trip i. -/
structure Jv (l ts : List Int) (i : Nat) (s : RS) (out : List Int) : Prop where
  len : (i = 0 ∧ s.state = 0 ∧ out = [] ∧ s.now = 0) ∨ (1 ≤ i ∧ s.state = 1 ∧ out.length + 1 = i ∧ s.til = ts.getD (i - 1) 0 + l.getD s.att 0 ∧ s.att < l.length ∧ s.now = ts.getD (i - 1) 0 ∧ 0 ≤ s.now ∧ s.now ≤ 1000000000)
  att : s.att ≤ out.length
  each : Each l ts out
/-- What the statement asks of the answer. -/
structure Good (l ts : List Int) (R : List Int × Int × Int) : Prop where
  bad : R.2.2 ≠ 0 → R.1 = [] ∧ R.2.1 = 0
  lk0 : R.2.2 = 0 → 0 ≤ R.2.1
  lk1 : R.2.2 = 0 → R.2.1 ≤ ts.length
  len : R.2.2 = 0 → R.1.length ≤ ts.length
  each : R.2.2 = 0 → Each l ts R.1
  fin : R.2.2 = 0 → (R.2.1 = 0 ∧ (R.1.length = ts.length ∨ R.1.length + 1 = ts.length)) ∨ (R.2.1 ≠ 0 ∧ R.2.1 = R.1.length + 1 ∧ l.length ≤ R.1.length)

theorem getD_app_lt {l : List Int} {x : Int} {k : Nat} (h : k < l.length) : (l ++ [x]).getD k 0 = l.getD k 0 := by simp [h, List.getElem?_append_left h]
theorem getD_app_eq {l : List Int} {x : Int} : (l ++ [x]).getD l.length 0 = x := by simp
theorem Each.snoc {l ts out : List Int} {x : Int} {j : Nat} (h : Each l ts out) (hj : j < l.length) (hx : x = ts.getD out.length 0 + l.getD j 0) (h0 : 0 ≤ ts.getD out.length 0) (h1 : ts.getD out.length 0 ≤ 1000000000) : Each l ts (out ++ [x]) := by
  intro k hk
  rcases Nat.lt_or_ge k out.length with h2 | h2
  · obtain ⟨j, a, b, c⟩ := h k h2
    exact ⟨j, a, by rw [getD_app_lt h2]; exact b, c⟩
  · have : k = out.length := by simp at hk; omega
    subst this
    exact ⟨j, hj, by rw [getD_app_eq]; exact hx, h0, h1⟩

/-- What the attempt ahead of a permitted time leaves: no dead time runs, or it runs on. -/
theorem stepP_cases {l ts : List Int} {i : Nat} {s : RS} {out : List Int} (h : Jv l ts i s out) (hd : ∀ k, k < l.length → 1 ≤ l.getD k 0 ∧ l.getD k 0 ≤ 600000) {t : Int} (ht : t ≤ 1000000001) :
    ((stepP s out t).1 = s ∧ (stepP s out t).2 = out) ∨
    ((stepP s out t).1.state = 2 ∧ (stepP s out t).2.length = i ∧ 1 ≤ i ∧ (stepP s out t).1.att ≤ (stepP s out t).2.length ∧ 0 ≤ (stepP s out t).1.now ∧ Each l ts (stepP s out t).2) := by
  unfold stepP
  by_cases c : s.state = 1 ∧ s.til < t
  · right
    rw [if_pos c]
    rcases h.len with ⟨_, h0, _⟩ | ⟨h1, h2, h3, h4, h5, h6, h7, h8⟩
    · rw [h0] at c; exact absurd c.1 (by decide)
    obtain ⟨d1, d2⟩ := hd s.att h5
    have hlt := c.2
    have e : s.tick s.til = (1, 0, { s with now := s.til, att := s.att + 1, state := 2, til := s.til + s.rc }) := by
      unfold RS.tick
      rw [if_neg (by unfold RS.ok; simp; omega)]
      have e : s.pass s.til = { s with now := s.til } := by unfold RS.pass; rw [if_neg (fun c => by rw [h2] at c; exact absurd c.1 (by decide))]
      rw [e, if_pos ⟨h2, Int.le_refl _⟩]
    rw [e]
    have ha := h.att
    refine ⟨rfl, by simp; omega, h1, by simp; omega, by show 0 ≤ s.til; omega, h.each.snoc h5 ?_ ?_ ?_⟩
    · rw [h4]; congr 2; omega
    · rw [show out.length = i - 1 by omega, ← h6]; exact h7
    · rw [show out.length = i - 1 by omega, ← h6]; exact h8
  · left; rw [if_neg c]; exact ⟨rfl, rfl⟩

theorem good_bad {l ts : List Int} {e : Int} (h : e ≠ 0) : Good l ts ([], 0, e) :=
  ⟨fun _ => ⟨rfl, rfl⟩, fun h' => absurd h' h, fun h' => absurd h' h, fun h' => absurd h' h, fun h' => absurd h' h, fun h' => absurd h' h⟩

theorem steps_good {l ts : List Int} (hd : ∀ k, k < l.length → 1 ≤ l.getD k 0 ∧ l.getD k 0 ≤ 600000) :
    ∀ (rest : List Int) (i : Nat) (s : RS) (out : List Int), rest = ts.drop i → i ≤ ts.length → s.Ok l → Jv l ts i s out → Good l ts (shotsGo l rest i s out) := by
  intro rest
  induction rest with
  | nil =>
    intro i s out hr hi ho h
    have hi' : i = ts.length := by
      have := congrArg List.length hr
      simp at this; omega
    unfold shotsGo
    have hc := stepP_cases h hd (t := 1000000001) (by decide)
    generalize hP : stepP s out 1000000001 = P at *
    rcases hc with ⟨-, e2⟩ | ⟨-, e2, e3, -, -, e6⟩
    · have hlen : out.length = i ∨ out.length + 1 = i := by
        rcases h.len with ⟨a, -, b, -⟩ | ⟨_, _, a, _⟩
        · left; rw [b, a]; rfl
        · exact Or.inr a
      rw [e2]
      exact ⟨fun h' => absurd rfl h', fun _ => Int.le_refl _, fun _ => by show (0 : Int) ≤ _; omega, fun _ => by show out.length ≤ _; omega, fun _ => h.each, fun _ => Or.inl ⟨rfl, by show out.length = _ ∨ out.length + 1 = _; omega⟩⟩
    · exact ⟨fun h' => absurd rfl h', fun _ => Int.le_refl _, fun _ => by show (0 : Int) ≤ _; omega, fun _ => by show P.2.length ≤ _; omega, fun _ => e6, fun _ => Or.inl ⟨rfl, by show P.2.length = _ ∨ P.2.length + 1 = _; omega⟩⟩
  | cons t rest ih =>
    intro i s out hr hi ho h
    have hlt : i < ts.length := by
      rcases Nat.lt_or_ge i ts.length with h | h
      · exact h
      · rw [List.drop_eq_nil_of_le h] at hr; cases hr
    have ht : t = ts.getD i 0 := by
      rw [List.drop_eq_getElem_cons hlt] at hr
      injection hr with h1 _
      simp [h1, hlt]
    have hrest : rest = ts.drop (i + 1) := by
      rw [List.drop_eq_getElem_cons hlt] at hr
      injection hr
    have hcast : ((i : Int) + 1) = ((i + 1 : Nat) : Int) := by omega
    unfold shotsGo
    by_cases tb : t ≤ 1000000000
    · -- the time is permitted, or too early
      have hc := stepP_cases h hd (t := t) (by omega)
      have ho1 : (stepP s out t).1.Ok l := by
        unfold stepP; split
        · have hk : ∀ {s : RS}, s.Ok l → s.Wait l → ∀ u, (s.tick u).2.2.Ok l := by
            intro s ho hw u
            unfold RS.tick; split
            · exact ho
            · rename_i hok
              have hp := RS.pass_ok ho (t := u) (by simpa using hok)
              split
              · rename_i hs
                have := RS.pass_wait hw u hs.1
                have hq : -1000000000 ≤ (s.pass u).now := hp.now1
                exact ⟨hp.rc1, hp.rc2, hq, this, hp.len, hp.dead⟩
              · exact hp
          refine hk ho ?_ _
          intro h1
          rcases h.len with ⟨_, a, _⟩ | ⟨_, _, _, _, a, _⟩
          · rw [a] at h1; exact absurd h1 (by decide)
          · exact a
        · exact ho
      generalize hP : stepP s out t = P at *
      obtain ⟨u, o⟩ := P
      simp only at hc ho1 ⊢
      by_cases hok : u.ok t = false
      · have e : u.trip l t = (0, 12, u) := by unfold RS.trip; rw [if_pos hok]
        rw [e, if_pos (by simp)]
        exact good_bad (e := 12) (by decide)
      have hok' : u.ok t = true := by simpa using hok
      by_cases h13 : u.state = 1 ∨ u.state = 3
      · have e : u.trip l t = (0, 11, u) := by unfold RS.trip; rw [if_neg hok, if_pos h13]
        rw [e, if_pos (by simp)]
        exact good_bad (e := 11) (by decide)
      have facts : o.length = i ∧ u.att ≤ o.length ∧ Each l ts o ∧ 0 ≤ u.now := by
        rcases hc with ⟨rfl, rfl⟩ | ⟨_, e2, _, e4, e5, e6⟩
        · rcases h.len with ⟨a, b, c, d⟩ | ⟨_, a, _⟩
          · exact ⟨by rw [c, a]; rfl, h.att, h.each, by rw [d]; decide⟩
          · exact absurd (Or.inl a) h13
        · exact ⟨e2, e4, e6, e5⟩
      obtain ⟨f1, f2, f3, f4⟩ := facts
      have t0 : 0 ≤ t := by unfold RS.ok at hok'; simp at hok'; omega
      have hpa : (u.pass t).att ≤ o.length := by unfold RS.pass; split <;> simp only <;> omega
      have hpo := RS.pass_ok ho1 hok'
      have hpn : (u.pass t).now = t := by unfold RS.pass; split <;> rfl
      by_cases hfull : (u.pass t).att = l.length
      · have e : u.trip l t = (2, 0, { (u.pass t) with state := 3 }) := by unfold RS.trip; rw [if_neg hok, if_neg h13, if_pos hfull]
        rw [e, if_neg (by simp), if_pos rfl]
        exact ⟨fun h' => absurd rfl h', fun _ => by show (0 : Int) ≤ i + 1; omega, fun _ => by show (i : Int) + 1 ≤ _; omega, fun _ => by show o.length ≤ _; omega, fun _ => f3, fun _ => Or.inr ⟨by show (i : Int) + 1 ≠ 0; omega, by show (i : Int) + 1 = o.length + 1; omega, by show l.length ≤ o.length; omega⟩⟩
      · have e : u.trip l t = (0, 0, { (u.pass t) with state := 1, til := t + l.getD (u.pass t).att 0 }) := by unfold RS.trip; rw [if_neg hok, if_neg h13, if_neg hfull]
        rw [e, if_neg (by simp), if_neg (by simp), hcast]
        have ha1 := hpo.att1
        refine ih (i + 1) _ o hrest (by omega) ⟨hpo.rc1, hpo.rc2, hpo.now1, hpo.att1, hpo.len, hpo.dead⟩ ⟨Or.inr ⟨by omega, rfl, by omega, ?_, by show (u.pass t).att < l.length; omega, ?_, by show 0 ≤ (u.pass t).now; omega, by show (u.pass t).now ≤ _; omega⟩, hpa, f3⟩
        · show t + _ = ts.getD i 0 + _; rw [← ht]
        · show (u.pass t).now = ts.getD i 0; rw [hpn, ht]
    · have hno : ∀ u : RS, u.trip l t = (0, 12, u) := by
        intro u; unfold RS.trip; rw [if_pos (by unfold RS.ok; simp; omega)]
      rw [hno, if_pos (by simp)]
      exact good_bad (e := 12) (by decide)

theorem shots_good (l : List Int) (rc : Int) (ts : List Int) : Good l ts (shotsR l rc ts) := by
  unfold shotsR
  split
  · rename_i h; exact good_bad h
  split
  · exact good_bad (by decide)
  rename_i h0 _
  have h0' : recE l rc = 0 := by omega
  obtain ⟨_, _, _, _, q5⟩ := recE_ok h0'
  exact steps_good q5 ts 0 (RS.fresh rc) [] rfl (Nat.zero_le _) (RS.fresh_ok h0') ⟨Or.inl ⟨rfl, rfl, rfl, rfl⟩, Nat.zero_le _, fun k hk => by cases hk⟩
end Go.Proofs.Ytjkgkoedkphnjaa
