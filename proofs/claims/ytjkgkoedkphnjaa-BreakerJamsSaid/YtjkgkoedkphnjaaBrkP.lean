/- A breaker's state and what its methods do to it: plain. -/
import Derived.Test.YtjkgkoedkphnjaaWld
namespace Go.Proofs.Ytjkgkoedkphnjaa
open Go.RowKit

/-- A breaker's state. -/
structure BS where
  op : Int
  cl : Int
  ch : Int
  st : Int
  now : Int
  state : Int
  since : Int
  jam : Bool
  en : Int
  chd : Int

namespace BS
def arr (s : BS) : Array Value := #[.int .i64 s.op, .int .i64 s.cl, .int .i64 s.ch, .int .i64 s.st, .int .i64 s.now, .int .i64 s.state, .int .i64 s.since, .bool s.jam, .int .i64 s.en, .int .i64 s.chd]

/-- What holds of a breaker at every time. -/
structure Ok (s : BS) : Prop where
  op1 : 1 ≤ s.op
  op2 : s.op ≤ 10000
  cl1 : 1 ≤ s.cl
  cl2 : s.cl ≤ 10000
  ch1 : 1 ≤ s.ch
  ch2 : s.ch ≤ 100000
  st1 : 1 ≤ s.st
  st2 : s.st ≤ 3
  now1 : 0 ≤ s.now
  now2 : s.now ≤ 1000000000
  since1 : 0 ≤ s.since
  since2 : s.since ≤ s.now
  en1 : 0 ≤ s.en
  en2 : s.en ≤ s.st
  chd1 : 0 ≤ s.chd
  chd2 : s.chd ≤ s.now

def move (s : BS) : BS :=
  if s.state = 1 ∧ s.op ≤ s.now - s.since then { s with state := 2 }
  else if s.state = 3 ∧ s.cl ≤ s.now - s.since then { s with state := 0 }
  else s

def store1 (s : BS) (t : Int) : BS := if s.en < s.st ∧ s.ch ≤ t - s.chd then { s with en := s.en + 1, chd := s.chd + s.ch } else s
def store (s : BS) (t : Int) : BS := ((s.store1 t).store1 t).store1 t

def pass (s : BS) (t : Int) : BS :=
  let s1 := { s with now := t }
  (if s.jam then s1 else s1.move).store t

theorem move_ok {s : BS} (h : s.Ok) : s.move.Ok := by
  unfold move; split
  · exact ⟨h.1, h.2, h.3, h.4, h.5, h.6, h.7, h.8, h.9, h.10, h.11, h.12, h.13, h.14, h.15, h.16⟩
  · split
    · exact ⟨h.1, h.2, h.3, h.4, h.5, h.6, h.7, h.8, h.9, h.10, h.11, h.12, h.13, h.14, h.15, h.16⟩
    · exact h
theorem store1_ok {s : BS} (h : s.Ok) (t : Int) (ht : t = s.now) : (s.store1 t).Ok ∧ (s.store1 t).now = s.now := by
  unfold store1; split
  · rename_i c
    exact ⟨⟨h.1, h.2, h.3, h.4, h.5, h.6, h.7, h.8, h.9, h.10, h.11, h.12, by have := h.13; show 0 ≤ s.en + 1; omega, by show s.en + 1 ≤ s.st; omega, by have := h.15; have := h.5; show 0 ≤ s.chd + s.ch; omega, by show s.chd + s.ch ≤ s.now; omega⟩, rfl⟩
  · exact ⟨h, rfl⟩
theorem at_ok {s : BS} (h : s.Ok) (t : Int) (h1 : s.now ≤ t) (h2 : t ≤ 1000000000) : ({ s with now := t } : BS).Ok :=
  ⟨h.1, h.2, h.3, h.4, h.5, h.6, h.7, h.8, by have := h.9; show 0 ≤ t; omega, h2, h.11, by have := h.12; show s.since ≤ t; omega, h.13, h.14, h.15, by have := h.16; show s.chd ≤ t; omega⟩
theorem move_now (s : BS) : s.move.now = s.now := by unfold move; split <;> (try split) <;> rfl
theorem pass_ok {s : BS} (h : s.Ok) (t : Int) (h1 : s.now ≤ t) (h2 : t ≤ 1000000000) : (s.pass t).Ok ∧ (s.pass t).now = t := by
  have a := at_ok h t h1 h2
  have b : (if s.jam then ({ s with now := t } : BS) else ({ s with now := t } : BS).move).Ok ∧ (if s.jam then ({ s with now := t } : BS) else ({ s with now := t } : BS).move).now = t := by
    by_cases hj : s.jam = true
    · rw [if_pos hj]; exact ⟨a, rfl⟩
    · rw [if_neg hj]; exact ⟨move_ok a, move_now _⟩
  unfold pass
  simp only
  generalize (if s.jam then ({ s with now := t } : BS) else ({ s with now := t } : BS).move) = u at b
  obtain ⟨b1, b2⟩ := b
  obtain ⟨c1, c2⟩ := store1_ok b1 t b2.symm
  obtain ⟨d1, d2⟩ := store1_ok c1 t (by omega)
  obtain ⟨e1, e2⟩ := store1_ok d1 t (by omega)
  exact ⟨e1, by unfold store; omega⟩

/-- Nothing more can be stored. -/
theorem store1_stop {s : BS} {t : Int} (h : ¬ (s.en < s.st ∧ s.ch ≤ t - s.chd)) : s.store1 t = s := by unfold store1; rw [if_neg h]
theorem store_stop {s : BS} {t : Int} (h : ¬ (s.en < s.st ∧ s.ch ≤ t - s.chd)) : s.store t = s := by
  unfold store; rw [store1_stop h, store1_stop h, store1_stop h]
/-- After three rounds it is full. -/
theorem store_step {s : BS} (hs : s.Ok) {t : Int} (h : s.en < s.st ∧ s.ch ≤ t - s.chd) : s.store t = (s.store1 t).store t := by
  unfold store
  have e1 : (s.store1 t).en = s.en + 1 := by unfold store1; rw [if_pos h]
  have key : ∀ u : BS, (u.store1 t).st = u.st ∧ ((u.store1 t).en = u.en + 1 ∨ u.store1 t = u) := by
    intro u; unfold store1; split
    · exact ⟨rfl, Or.inl rfl⟩
    · exact ⟨rfl, Or.inr rfl⟩
  have k1 := key s
  have k2 := key (s.store1 t)
  have k3 := key ((s.store1 t).store1 t)
  have a := hs.13; have b := hs.8
  rcases k2.2 with k | k
  · rcases k3.2 with k' | k'
    · have : ((s.store1 t).store1 t).store1 t = (((s.store1 t).store1 t).store1 t).store1 t := (store1_stop (by omega)).symm
      exact this
    · rw [k', k']
  · rw [k, k, k]
end BS
end Go.Proofs.Ytjkgkoedkphnjaa
