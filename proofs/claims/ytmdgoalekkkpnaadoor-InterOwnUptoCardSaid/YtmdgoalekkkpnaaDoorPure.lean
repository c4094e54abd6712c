/- The order and the strength of types, in plain Lean. -/
import Derived.Test.YtmdgoalekkkpnaaDoorBase
set_option linter.unusedVariables false
set_option linter.unusedSimpArgs false
namespace Go.Proofs.YtmdgoalekkkpnaaDoor

/-- Lists in the order of their first difference; the shorter one first. -/
def cmpL {α : Type} (f : α → α → Int) : List α → List α → Int
  | [], [] => 0
  | [], _ :: _ => -1
  | _ :: _, [] => 1
  | x :: xs, y :: ys => if f x y ≠ 0 then f x y else cmpL f xs ys

mutual
def Ty.cmp : Ty → Ty → Int
  | .mk s a, .mk s' b => if s ≠ s' then (if s < s' then -1 else 1) else Ty.cmpRows a b
def Ty.cmpRows : List (List Ty) → List (List Ty) → Int
  | [], [] => 0
  | [], _ :: _ => -1
  | _ :: _, [] => 1
  | x :: xs, y :: ys => if Ty.cmpSet x y ≠ 0 then Ty.cmpSet x y else Ty.cmpRows xs ys
def Ty.cmpSet : List Ty → List Ty → Int
  | [], [] => 0
  | [], _ :: _ => -1
  | _ :: _, [] => 1
  | x :: xs, y :: ys => if Ty.cmp x y ≠ 0 then Ty.cmp x y else Ty.cmpSet xs ys
end
theorem Ty.cmpSet_eq : ∀ a b, Ty.cmpSet a b = cmpL Ty.cmp a b
  | [], [] => by simp [Ty.cmpSet, cmpL]
  | [], _ :: _ => by simp [Ty.cmpSet, cmpL]
  | _ :: _, [] => by simp [Ty.cmpSet, cmpL]
  | x :: xs, y :: ys => by simp [Ty.cmpSet, cmpL, Ty.cmpSet_eq xs ys]
theorem Ty.cmpRows_eq : ∀ a b, Ty.cmpRows a b = cmpL (cmpL Ty.cmp) a b
  | [], [] => by simp [Ty.cmpRows, cmpL]
  | [], _ :: _ => by simp [Ty.cmpRows, cmpL]
  | _ :: _, [] => by simp [Ty.cmpRows, cmpL]
  | x :: xs, y :: ys => by simp [Ty.cmpRows, cmpL, Ty.cmpRows_eq xs ys, Ty.cmpSet_eq]
theorem Ty.cmp_mk (s s' : Int) (a b : List (List Ty)) : Ty.cmp (.mk s a) (.mk s' b) = if s ≠ s' then (if s < s' then -1 else 1) else cmpL (cmpL Ty.cmp) a b := by
  rw [Ty.cmp, Ty.cmpRows_eq]

/-- From place k on. -/
theorem cmpL_drop {α : Type} (f : α → α → Int) (xs ys : List α) (k : Nat) (h : k < xs.length) (h' : k < ys.length) :
    cmpL f (xs.drop k) (ys.drop k) = if f xs[k] ys[k] ≠ 0 then f xs[k] ys[k] else cmpL f (xs.drop (k + 1)) (ys.drop (k + 1)) := by
  rw [List.drop_eq_getElem_cons h, List.drop_eq_getElem_cons h', cmpL]
theorem cmpL_drop_short {α : Type} (f : α → α → Int) (xs ys : List α) (k : Nat) (h : k < xs.length) (h' : ys.length ≤ k) : cmpL f (xs.drop k) (ys.drop k) = 1 := by
  rw [List.drop_eq_getElem_cons h, List.drop_eq_nil_of_le h', cmpL]
theorem cmpL_drop_end {α : Type} (f : α → α → Int) (xs ys : List α) (k : Nat) (h : xs.length ≤ k) (hk : k ≤ ys.length) : cmpL f (xs.drop k) (ys.drop k) = if k < ys.length then -1 else 0 := by
  rw [List.drop_eq_nil_of_le h]
  by_cases h' : k < ys.length
  · rw [List.drop_eq_getElem_cons h', cmpL, if_pos h']
  · rw [List.drop_eq_nil_of_le (by omega), cmpL, if_neg h']

/-- More than MaxPart nodes. -/
def Ty.large (t : Ty) : Bool := decide (2000 < t.size)

/-- What Compare says. -/
def Ty.compared (x y : Ty) : Int := if x.large || y.large then 0 else Ty.cmp x y
/-! ### Strength: a is stronger than b if each type in a set of a is one than which a type in b's set is stronger -/
mutual
def Ty.strong : Ty → Ty → Bool
  | .mk s a, .mk s' b => decide (s = s') && decide (a.length = b.length) && Ty.strongRows a b
def Ty.strongRows : List (List Ty) → List (List Ty) → Bool
  | [], _ => true
  | _ :: _, [] => true
  | x :: xs, y :: ys => Ty.strongSet x y && Ty.strongRows xs ys
def Ty.strongSet : List Ty → List Ty → Bool
  | [], _ => true
  | x :: xs, ys => ys.any (Ty.weak x) && Ty.strongSet xs ys
def Ty.weak : Ty → Ty → Bool
  | .mk s a, .mk s' b => decide (s' = s) && decide (b.length = a.length) && Ty.weakRows a b
def Ty.weakRows : List (List Ty) → List (List Ty) → Bool
  | [], _ => true
  | _ :: _, [] => true
  | x :: xs, y :: ys => y.all (Ty.anyStrong x) && Ty.weakRows xs ys
def Ty.anyStrong : List Ty → Ty → Bool
  | [], _ => false
  | x :: xs, y => Ty.strong x y || Ty.anyStrong xs y
end
theorem Ty.strongSet_eq : ∀ a b, Ty.strongSet a b = a.all fun x => b.any (Ty.weak x)
  | [], b => by simp [Ty.strongSet]
  | x :: xs, b => by simp [Ty.strongSet, Ty.strongSet_eq xs b]
theorem Ty.anyStrong_eq : ∀ a y, Ty.anyStrong a y = a.any fun x => Ty.strong x y
  | [], b => by simp [Ty.anyStrong]
  | x :: xs, b => by simp [Ty.anyStrong, Ty.anyStrong_eq xs b]
theorem Ty.strongRows_iff : ∀ a b, Ty.strongRows a b = true ↔ ∀ i (h : i < a.length) (h' : i < b.length), ∀ x ∈ a[i], ∃ y ∈ b[i], Ty.weak x y = true
  | [], b => by simp [Ty.strongRows]
  | _ :: _, [] => by simp [Ty.strongRows]
  | x :: xs, y :: ys => by
    rw [Ty.strongRows, Bool.and_eq_true, Ty.strongRows_iff xs ys, Ty.strongSet_eq]
    simp only [List.all_eq_true, List.any_eq_true]
    constructor
    · rintro ⟨h1, h2⟩ i hi hi'
      match i with
      | 0 => exact h1
      | i + 1 => exact h2 i (by simpa using hi) (by simpa using hi')
    · intro h
      exact ⟨h 0 (by simp) (by simp), fun i hi hi' => h (i + 1) (by simpa using hi) (by simpa using hi')⟩
theorem Ty.weakRows_iff : ∀ a b, Ty.weakRows a b = true ↔ ∀ i (h : i < a.length) (h' : i < b.length), ∀ y ∈ b[i], ∃ x ∈ a[i], Ty.strong x y = true
  | [], b => by simp [Ty.weakRows]
  | _ :: _, [] => by simp [Ty.weakRows]
  | x :: xs, y :: ys => by
    rw [Ty.weakRows, Bool.and_eq_true, Ty.weakRows_iff xs ys]
    simp only [List.all_eq_true, List.any_eq_true, Ty.anyStrong_eq]
    constructor
    · rintro ⟨h1, h2⟩ i hi hi'
      match i with
      | 0 => exact h1
      | i + 1 => exact h2 i (by simpa using hi) (by simpa using hi')
    · intro h
      exact ⟨h 0 (by simp) (by simp), fun i hi hi' => h (i + 1) (by simpa using hi) (by simpa using hi')⟩
theorem Ty.weak_strong : ∀ a b : Ty, Ty.weak a b = Ty.strong b a ∧ Ty.strong a b = Ty.weak b a := by
  intro a
  induction a using Ty.ind with
  | h s a ih =>
    rintro ⟨s', b⟩
    constructor
    · rw [Bool.eq_iff_iff, Ty.weak, Ty.strong]
      simp only [Bool.and_eq_true, decide_eq_true_eq, Ty.weakRows_iff, Ty.strongRows_iff, and_congr_right_iff, and_imp]
      intro h1 h2
      constructor
      · intro h i hi hi' x hx
        obtain ⟨y, hy, hs⟩ := h i hi' hi x hx
        exact ⟨y, hy, ((ih _ (List.getElem_mem hi') y hy x).2).symm.trans hs⟩
      · intro h i hi hi' x hx
        obtain ⟨y, hy, hs⟩ := h i hi' hi x hx
        exact ⟨y, hy, ((ih _ (List.getElem_mem hi) y hy x).2).trans hs⟩
    · rw [Bool.eq_iff_iff, Ty.weak, Ty.strong]
      simp only [Bool.and_eq_true, decide_eq_true_eq, Ty.weakRows_iff, Ty.strongRows_iff, and_congr_right_iff, and_imp]
      intro h1 h2
      constructor
      · intro h i hi hi' x hx
        obtain ⟨y, hy, hs⟩ := h i hi' hi x hx
        exact ⟨y, hy, ((ih _ (List.getElem_mem hi') x hx y).1).symm.trans hs⟩
      · intro h i hi hi' x hx
        obtain ⟨y, hy, hs⟩ := h i hi' hi x hx
        exact ⟨y, hy, ((ih _ (List.getElem_mem hi) x hx y).1).trans hs⟩
theorem Ty.strong_iff {s s' : Int} {a b : List (List Ty)} : Ty.strong (.mk s a) (.mk s' b) = true ↔ s = s' ∧ a.length = b.length ∧
    ∀ i (h : i < a.length) (h' : i < b.length), ∀ x ∈ a[i], ∃ y ∈ b[i], Ty.strong y x = true := by
  rw [Ty.strong]
  simp only [Bool.and_eq_true, decide_eq_true_eq, Ty.strongRows_iff, and_assoc]
  simp only [(Ty.weak_strong _ _).1]
/-- What Stronger says. -/
def Ty.stronger (x y : Ty) : Bool := !x.large && !y.large && Ty.strong x y
example : Ty.strong (.mk 0 [[]]) (.mk 0 [[.mk 1 []]]) = true := by decide +kernel
end Go.Proofs.YtmdgoalekkkpnaaDoor
