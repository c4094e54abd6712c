/- Check's and Is's answers agree: plain law. -/
import Derived.Test.YtjpdmncafacmaaaGreatDoorRefIs
set_option linter.unusedVariables false
set_option linter.unusedSimpArgs false
namespace Go.Proofs.YtjpdmncafacmaaaGreatDoor

theorem sgn_lt (a b : Nd) : Nd.sgn a b < 0 ↔ Nd.cmp a b < 0 := by
  unfold Nd.sgn Nd.cmp
  by_cases h : a.1 = b.1
  · simp only [h, ne_eq, not_true_eq_false, if_false, true_and, Int.lt_irrefl, false_or]
    split
    · omega
    · split <;> omega
  · simp only [h, ne_eq, not_false_eq_true, if_true, false_and, or_false, if_false]
    split <;> omega
theorem sgn_zero (a b : Nd) : Nd.sgn a b = 0 ↔ Nd.cmp a b = 0 := by
  unfold Nd.sgn Nd.cmp
  by_cases h : a.1 = b.1
  · simp only [h, ne_eq, not_true_eq_false, if_false, true_and, Int.lt_irrefl, false_or]
    split
    · omega
    · split <;> omega
  · simp only [h, ne_eq, not_false_eq_true, if_true, false_and, or_false, if_false]
    split <;> omega
theorem cmpL_lt {α : Type} (f g : α → α → Int) (hl : ∀ a b, f a b < 0 ↔ g a b < 0) (hz : ∀ a b, f a b = 0 ↔ g a b = 0) : ∀ xs ys, cmpL f xs ys < 0 ↔ cmpL g xs ys < 0
  | [], [] => by simp [cmpL]
  | [], _ :: _ => by simp [cmpL]
  | _ :: _, [] => by simp [cmpL]
  | x :: xs, y :: ys => by
    unfold cmpL
    by_cases h : f x y = 0
    · rw [if_neg (by simpa using h), if_neg (by simpa using (hz x y).1 h)]
      exact cmpL_lt f g hl hz xs ys
    · rw [if_pos h, if_pos (fun e => h ((hz x y).2 e))]
      exact hl x y
theorem rise_eq {α : Type} (f g : α → α → Int) (hl : ∀ a b, f a b < 0 ↔ g a b < 0) : ∀ xs, rise f xs = rise g xs
  | [] => rfl
  | [_] => rfl
  | x :: y :: l => by
    unfold rise
    rw [rise_eq f g hl (y :: l), decide_eq_decide.2 (hl x y)]
theorem rise_len {r n : Int} (hr : r ≤ 4) (hn : n ≤ 6) : ∀ (x : Nd) (l : List Nd), (x :: l).any (badNeed r n) = false → rise Nd.cmp (x :: l) = true → 6 * x.1 + x.2 + ((x :: l).length : Int) ≤ 24
  | x, [], h, _ => by
    simp only [List.any_cons, List.any_nil, Bool.or_false, badNeed, Bool.or_eq_false_iff, decide_eq_false_iff_not] at h
    simp only [List.length_cons, List.length_nil]
    omega
  | x, y :: l, h, hs => by
    rw [List.any_cons, Bool.or_eq_false_iff] at h
    unfold rise at hs
    rw [Bool.and_eq_true, decide_eq_true_eq] at hs
    have ih := rise_len hr hn y l h.2 hs.2
    have h1 := h.1
    have h2 := h.2
    rw [List.any_cons, Bool.or_eq_false_iff] at h2
    have h3 := h2.1
    simp only [badNeed, Bool.or_eq_false_iff, decide_eq_false_iff_not] at h1 h3
    have hc := hs.1
    unfold Nd.cmp at hc
    rw [List.length_cons]
    split at hc <;> omega
theorem altOk_eq {r n : Int} (hr : r ≤ 4) (hn : n ≤ 6) (l : List Nd) : altOk r n l = altR r n l := by
  unfold altOk altR
  rw [rise_eq _ _ sgn_lt]
  cases hb : l.any (badNeed r n)
  · cases hs : rise Nd.cmp l
    · simp
    · have : l.length ≤ 24 := by
        cases l with
        | nil => simp
        | cons x l =>
          have := rise_len hr hn x l hb hs
          rw [List.any_cons, Bool.or_eq_false_iff] at hb
          have h1 := hb.1
          simp only [badNeed, Bool.or_eq_false_iff, decide_eq_false_iff_not] at h1
          omega
      simp [this]
  · simp
theorem symOk_eq {n : Int} (hn : n ≤ 6) (p : Int × List (List Nd)) (hr : p.1 ≤ 4) : symOk n p = symP n p := by
  unfold symOk symP symR
  rw [rise_eq _ _ (cmpL_lt _ _ sgn_lt sgn_zero)]
  congr 2
  exact List.all_congr rfl fun x => altOk_eq hr hn x
theorem ok_eq (a : Au) : a.ok = a.okR := by
  unfold Au.ok Au.okR
  by_cases h : ranksOk a.ranks = true ∧ a.n ≤ 6
  · congr 1
    refine List.all_congr rfl fun m => ?_
    unfold ruleOk ruleR
    congr 1
    rw [Bool.eq_iff_iff, List.all_eq_true, List.all_eq_true]
    have hk : ∀ p ∈ a.ranks.zip m, symOk a.n p = symP a.n p := fun p hp => symOk_eq h.2 p (by
      have h1 := h.1
      unfold ranksOk at h1
      simp only [Bool.and_eq_true, List.all_eq_true, decide_eq_true_eq] at h1
      exact (h1.1 _ (List.of_mem_zip hp).1).2)
    exact ⟨fun H p hp => by rw [← hk p hp]; exact H p hp, fun H p hp => by rw [hk p hp]; exact H p hp⟩
  · cases hr : ranksOk a.ranks
    · simp
    · have h6 : ¬ a.n ≤ 6 := fun h6 => h ⟨hr, h6⟩
      rw [show decide (1 ≤ a.n ∧ a.n ≤ 6) = false by (simp <;> omega)]
      simp
end Go.Proofs.YtjpdmncafacmaaaGreatDoor
