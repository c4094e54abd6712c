/- Two automata joined: what mix makes of them. -/
import Derived.Test.YtjpdmncafacmaaaGreatDoorStart
import Derived.Test.YtjpdmncafacmaaaGreatDoorPair
set_option linter.unusedVariables false
set_option linter.unusedSimpArgs false
namespace Go.Proofs.YtjpdmncafacmaaaGreatDoor
open Go.RowKit

/-- The alternatives of a state at a symbol. -/
def Au.alts (a : Au) (q f : Nat) : List (List Nd) := (a.moves.getD q []).getD f []
def Au.zero : Au := ⟨[], 0, []⟩
def joinAt (st : List (List Nd) → List (List Nd) → List (List Nd)) (a b : Au) (f : Nat) : List (List Nd) := altSet (st (mvd id (a.alts a.start.toNat f)) (mvd (later a.n) (b.alts b.start.toNat f)))
def joinFirst (st : List (List Nd) → List (List Nd) → List (List Nd)) (a b : Au) : List (List (List Nd)) := (List.range a.ranks.length).map (joinAt st a b)
def joinA (st : List (List Nd) → List (List Nd) → List (List Nd)) (a b : Au) : Au :=
  ⟨a.ranks, a.n + b.n, (a.moves.map (·.map (mvd id)) ++ b.moves.map (·.map (mvd (later a.n)))) ++ [joinFirst st a b]⟩
def joinE (st : List (List Nd) → List (List Nd) → List (List Nd)) (a b : Au) : Int := if pairE a b = 0 then (if (joinA st a b).ok then 0 else 3) else pairE a b
def joinV (st : List (List Nd) → List (List Nd) → List (List Nd)) (a b : Au) : Au := if joinE st a b = 0 then joinA st a b else Au.zero

/-- Blocks that are new and may be written. -/
def Fresh (w w' : World) (b : Nat) : Prop := w.heap.size ≤ b ∧ b < w'.heap.size
/-- An automaton and an error are returned: in new memory that may be written. -/
def RetA (w : World) (a : Au) (er : Int) (e : Ending) (w' : World) : Prop :=
  ∃ r m, e = .returned (.tuple #[.agg #[r, .int .i64 a.start, m], .int .i64 er]) ∧ Grew w w' ∧ WR AuR (Fresh w w') w' a [r, .int .i64 a.start, m]
theorem au_zero (S : Nat → Prop) (w : World) : AuR S w Au.zero [.slice none 0 0, .int .i64 0, .slice none 0 0] :=
  ⟨_, _, rfl, ⟨_, rfl, none, 0, rfl, by simp [Au.zero], by simp [Au.zero], by simp [Au.zero]⟩, ⟨_, rfl, none, 0, rfl, by simp [Au.zero], by simp [Au.zero], by simp [Au.zero]⟩, by simp [Au.zero], by simp [Au.zero]⟩

/-- What a valid automaton bears. -/
theorem ok_parts {a : Au} (h : a.ok = true) : ranksOk a.ranks = true ∧ 1 ≤ a.moves.length ∧ a.moves.length ≤ 6 ∧ 0 ≤ a.start ∧ a.start.toNat < a.moves.length ∧
    ∀ m ∈ a.moves, m.length = a.ranks.length ∧ ∀ f (hf : f < m.length) (hr : f < a.ranks.length), symOk a.n (a.ranks[f], m[f]) = true := by
  unfold Au.ok at h
  simp only [Bool.and_eq_true, decide_eq_true_eq, List.all_eq_true] at h
  obtain ⟨⟨⟨h1, h2⟩, h3⟩, h4⟩ := h
  unfold Au.n at h2 h3
  refine ⟨h1, by omega, by omega, h3.1, by omega, fun m hm => ?_⟩
  have h5 := h4 m hm
  unfold ruleOk at h5
  simp only [Bool.and_eq_true, decide_eq_true_eq, List.all_eq_true] at h5
  refine ⟨h5.1, fun f hf hr => h5.2 _ ?_⟩
  rw [List.mem_iff_getElem]
  exact ⟨f, by simp; omega, by simp⟩
theorem ranksOk_parts {l : List Int} (h : ranksOk l = true) : l.length ≤ 24 ∧ ∀ r ∈ l, 0 ≤ r ∧ r ≤ 4 := by
  unfold ranksOk at h
  simp only [Bool.and_eq_true, decide_eq_true_eq, List.all_eq_true] at h
  exact ⟨h.2, h.1⟩
theorem symOk_parts {n : Int} {r : Int} {l : List (List Nd)} (h : symOk n (r, l) = true) : l.length ≤ 12 ∧ rise (cmpL Nd.cmp) l = true ∧ ∀ x ∈ l, x.length ≤ 24 ∧ rise Nd.cmp x = true ∧ ∀ y ∈ x, 0 ≤ y.1 ∧ y.1 < r ∧ 0 ≤ y.2 ∧ y.2 < n := by
  unfold symOk at h
  simp only [Bool.and_eq_true, decide_eq_true_eq, List.all_eq_true] at h
  refine ⟨h.1.1, h.2, fun x hx => ?_⟩
  have h1 := h.1.2 x hx
  unfold altOk at h1
  simp only [Bool.and_eq_true, decide_eq_true_eq, Bool.not_eq_true'] at h1
  refine ⟨h1.1.1, h1.2, fun y hy => ?_⟩
  have h2 := List.any_eq_false.1 h1.1.2 y hy
  simp only [badNeed, Bool.or_eq_true, decide_eq_true_eq, not_or] at h2
  omega
/-- The needs of a valid automaton are small, its lists short. -/
theorem ok_rows {a : Au} (h : a.ok = true) : a.moves.length ≤ 6 ∧ ∀ row ∈ a.moves, row.length ≤ 24 ∧ ∀ alts ∈ row, alts.length ≤ 12 ∧ ∀ l ∈ alts, l.length ≤ 24 ∧ ∀ x ∈ l, 0 ≤ x.1 ∧ x.1 < 4 ∧ 0 ≤ x.2 ∧ x.2 < 6 := by
  obtain ⟨h1, _, h3, _, _, h6⟩ := ok_parts h
  obtain ⟨hr1, hr2⟩ := ranksOk_parts h1
  refine ⟨h3, fun row hrow => ?_⟩
  obtain ⟨hl, hs⟩ := h6 row hrow
  refine ⟨by omega, fun alts halts => ?_⟩
  obtain ⟨f, hf, rfl⟩ := List.getElem_of_mem halts
  obtain ⟨q1, _, q3⟩ := symOk_parts (hs f hf (by omega))
  have hb := hr2 _ (List.getElem_mem (show f < a.ranks.length by omega))
  refine ⟨q1, fun l hl => ?_⟩
  obtain ⟨p1, _, p3⟩ := q3 l hl
  refine ⟨p1, fun x hx => ?_⟩
  have := p3 x hx
  unfold Au.n at this
  omega
end Go.Proofs.YtjpdmncafacmaaaGreatDoor
