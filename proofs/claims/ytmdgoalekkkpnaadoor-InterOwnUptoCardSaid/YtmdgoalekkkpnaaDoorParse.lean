/- Strings of types, read: in plain Lean. -/
import Derived.Test.YtmdgoalekkkpnaaDoorPure
set_option linter.unusedVariables false
set_option linter.unusedSimpArgs false
namespace Go.Proofs.YtmdgoalekkkpnaaDoor

/- A type behind sets that are read already; types of a set behind those that are read already. The number bounds the letters. -/
mutual
def rdT : Nat → List UInt8 → List (List Ty) → Option (Ty × List UInt8)
  | 0, _, _ => none
  | n + 1, l, acc =>
    match l with
    | [] => none
    | c :: l1 =>
      if c = 91 then
        match l1 with
        | [] => none
        | d :: l2 => if d = 93 then rdT n l2 (acc ++ [[]]) else
          match rdT n (d :: l2) [] with
          | none => none
          | some (t, l3) => match rdS n l3 [t] with
            | none => none
            | some (ts, l4) => rdT n l4 (acc ++ [ts])
      else if 48 ≤ c ∧ c ≤ 57 then some (.mk ((c.toNat : Int) - 48) acc, l1) else none
def rdS : Nat → List UInt8 → List Ty → Option (List Ty × List UInt8)
  | 0, _, _ => none
  | n + 1, l, acc =>
    match l with
    | [] => none
    | c :: l1 =>
      if c = 44 then
        match rdT n l1 [] with
        | none => none
        | some (t, l2) => rdS n l2 (acc ++ [t])
      else if c = 93 then some (acc, l1) else none
end
theorem rd_less : ∀ n, (∀ l acc t r, rdT n l acc = some (t, r) → r.length < l.length) ∧ (∀ l acc ts r, rdS n l acc = some (ts, r) → r.length < l.length) := by
  intro n
  induction n with
  | zero => exact ⟨fun l acc t r h => by simp [rdT] at h, fun l acc t r h => by simp [rdS] at h⟩
  | succ n ih =>
    constructor
    · intro l acc t r h
      match l with
      | [] => simp [rdT] at h
      | c :: l1 =>
        unfold rdT at h
        simp only at h
        split at h
        · match l1 with
          | [] => simp at h
          | d :: l2 =>
            simp only at h
            split at h
            · have := ih.1 _ _ _ _ h
              simp
              omega
            · match h1 : rdT n (d :: l2) [] with
              | none => simp [h1] at h
              | some (t1, l3) =>
                simp only [h1] at h
                match h2 : rdS n l3 [t1] with
                | none => simp [h2] at h
                | some (ts, l4) =>
                  simp only [h2] at h
                  have a := ih.1 _ _ _ _ h1
                  have b := ih.2 _ _ _ _ h2
                  have c := ih.1 _ _ _ _ h
                  simp at a ⊢
                  omega
        · split at h
          · simp only [Option.some.injEq, Prod.mk.injEq] at h
            obtain ⟨_, rfl⟩ := h
            simp
          · simp at h
    · intro l acc t r h
      match l with
      | [] => simp [rdS] at h
      | c :: l1 =>
        unfold rdS at h
        simp only at h
        split at h
        · match h1 : rdT n l1 [] with
          | none => simp [h1] at h
          | some (t1, l2) =>
            simp only [h1] at h
            have a := ih.1 _ _ _ _ h1
            have b := ih.2 _ _ _ _ h
            simp
            omega
        · split at h
          · simp only [Option.some.injEq, Prod.mk.injEq] at h
            obtain ⟨_, rfl⟩ := h
            simp
          · simp at h
/-! One step each. -/
theorem rdT_empty (n : Nat) (l : List UInt8) (acc : List (List Ty)) : rdT (n + 1) (91 :: 93 :: l) acc = rdT n l (acc ++ [[]]) := by simp [rdT]
theorem rdT_none (n : Nat) (l : List UInt8) (acc : List (List Ty)) (h : l.head? ≠ some 93) (h1 : rdT n l [] = none) : rdT (n + 1) (91 :: l) acc = none := by
  match l with
  | [] => simp [rdT]
  | d :: l => simp only [List.head?_cons, ne_eq, Option.some.injEq] at h; simp [rdT, h, h1]
theorem rdT_none2 (n : Nat) (l l3 : List UInt8) (acc : List (List Ty)) (t : Ty) (h : l.head? ≠ some 93) (h1 : rdT n l [] = some (t, l3)) (h2 : rdS n l3 [t] = none) : rdT (n + 1) (91 :: l) acc = none := by
  match l with
  | [] => simp [rdT]
  | d :: l => simp only [List.head?_cons, ne_eq, Option.some.injEq] at h; simp [rdT, h, h1, h2]
theorem rdT_set (n : Nat) (l l3 l4 : List UInt8) (acc : List (List Ty)) (t : Ty) (ts : List Ty) (h : l.head? ≠ some 93) (h1 : rdT n l [] = some (t, l3)) (h2 : rdS n l3 [t] = some (ts, l4)) :
    rdT (n + 1) (91 :: l) acc = rdT n l4 (acc ++ [ts]) := by
  match l with
  | [] => cases n <;> simp [rdT] at h1
  | d :: l => simp only [List.head?_cons, ne_eq, Option.some.injEq] at h; simp [rdT, h, h1, h2]
theorem rdT_end (n : Nat) (c : UInt8) (l : List UInt8) (acc : List (List Ty)) (h : c ≠ 91) : rdT (n + 1) (c :: l) acc = if 48 ≤ c ∧ c ≤ 57 then some (.mk ((c.toNat : Int) - 48) acc, l) else none := by simp [rdT, h]
theorem rdT_nil (n : Nat) (acc : List (List Ty)) : rdT n [] acc = none := by cases n <;> simp [rdT]
theorem rdS_nil (n : Nat) (acc : List Ty) : rdS n [] acc = none := by cases n <;> simp [rdS]
theorem rdS_comma_none (n : Nat) (l : List UInt8) (acc : List Ty) (h : rdT n l [] = none) : rdS (n + 1) (44 :: l) acc = none := by simp [rdS, h]
theorem rdS_comma (n : Nat) (l l2 : List UInt8) (acc : List Ty) (t : Ty) (h : rdT n l [] = some (t, l2)) : rdS (n + 1) (44 :: l) acc = rdS n l2 (acc ++ [t]) := by simp [rdS, h]
theorem rdS_close (n : Nat) (l : List UInt8) (acc : List Ty) : rdS (n + 1) (93 :: l) acc = some (acc, l) := by simp [rdS]
theorem rdS_other (n : Nat) (l : List UInt8) (acc : List Ty) (h : l.head? ≠ some 44) (h' : l.head? ≠ some 93) : rdS n l acc = none := by
  match n, l with
  | 0, _ => simp [rdS]
  | n + 1, [] => simp [rdS]
  | n + 1, c :: l => simp only [List.head?_cons, ne_eq, Option.some.injEq] at h h'; simp [rdS, h, h']
example : rdT 10 [91, 93, 48] [] = some (.mk 0 [[]], []) := by simp [rdT]
end Go.Proofs.YtmdgoalekkkpnaaDoor
