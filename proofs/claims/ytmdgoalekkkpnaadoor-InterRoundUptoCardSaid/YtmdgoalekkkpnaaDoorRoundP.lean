/- A type's text is read back as the type, and what is read is its text: in plain Lean. -/
import Derived.Test.YtmdgoalekkkpnaaDoorParse
import Derived.Test.YtmdgoalekkkpnaaDoorWrite
set_option linter.unusedVariables false
set_option linter.unusedSimpArgs false
namespace Go.Proofs.YtmdgoalekkkpnaaDoor

mutual
def Ty.digits : Ty → Bool
  | .mk st args => Ty.digitsRows args && (decide (0 ≤ st) && decide (st ≤ 9))
def Ty.digitsRows : List (List Ty) → Bool
  | [] => true
  | x :: r => Ty.digitsSet x && Ty.digitsRows r
def Ty.digitsSet : List Ty → Bool
  | [] => true
  | t :: r => t.digits && Ty.digitsSet r
end
theorem itoa_digit (st : Int) (h0 : 0 ≤ st) (h9 : st ≤ 9) : Lib.itoa st = [UInt8.ofNat (48 + st.toNat)] := by
  obtain ⟨u, rfl⟩ : ∃ u : Nat, st = (u : Int) := ⟨st.toNat, by omega⟩
  rw [Lib.itoa_nonneg, Lib.decDigits_one (by omega)]
  rfl
theorem digit_nat (u : Nat) (h : u ≤ 9) : (UInt8.ofNat (48 + u)).toNat = 48 + u := by
  simp
  omega
theorem rdT_digit (n : Nat) (st : Int) (rest : List UInt8) (acc : List (List Ty)) (h0 : 0 ≤ st) (h9 : st ≤ 9) : rdT (n + 1) (Lib.itoa st ++ rest) acc = some (.mk st acc, rest) := by
  rw [itoa_digit st h0 h9]
  have hd := digit_nat st.toNat (by omega)
  rw [List.singleton_append, rdT_end _ _ _ _ (by intro e; rw [e] at hd; have : (91 : UInt8).toNat = 91 := rfl; omega)]
  rw [if_pos (by simp only [UInt8.le_iff_toNat_le, hd]; exact ⟨by have : (48 : UInt8).toNat = 48 := rfl; omega, by have : (57 : UInt8).toNat = 57 := rfl; omega⟩), hd]
  congr 3
  omega
theorem text_head (t : Ty) (h : t.digits = true) (l : List UInt8) : (t.text ++ l).head? ≠ some 93 := by
  cases t with
  | mk st args =>
    cases args with
    | cons x r => simp [Ty.text, Ty.textRows]
    | nil =>
      simp only [Ty.digits, Ty.digitsRows, Bool.true_and, Bool.and_eq_true, decide_eq_true_eq] at h
      rw [Ty.text, Ty.textRows, itoa_digit st h.1 h.2]
      have hd := digit_nat st.toNat (by omega)
      simp only [List.nil_append, List.cons_append, List.head?_cons, ne_eq, Option.some.injEq]
      intro e
      rw [e] at hd
      have : (93 : UInt8).toNat = 93 := rfl
      omega
theorem text_pos (t : Ty) (h : t.digits = true) : 1 ≤ t.text.length := by
  cases t with
  | mk st args =>
    simp only [Ty.digits, Bool.and_eq_true, decide_eq_true_eq] at h
    rw [Ty.text, itoa_digit st h.2.1 h.2.2]
    simp

/-- What reading a type's text says. -/
def Reads (t : Ty) : Prop := t.digits = true → ∀ (n : Nat) (rest : List UInt8), t.text.length ≤ n → rdT n (t.text ++ rest) [] = some (t, rest)
theorem reads_tail : ∀ (ts : List Ty), (∀ t ∈ ts, Reads t) → Ty.digitsSet ts = true → ∀ (n : Nat) (rest : List UInt8) (acc : List Ty), (Ty.textTail ts).length + 1 ≤ n → rdS n (Ty.textTail ts ++ 93 :: rest) acc = some (acc ++ ts, rest)
  | [], _, _, n, rest, acc, hn => by
    obtain ⟨m, rfl⟩ : ∃ m, n = m + 1 := ⟨n - 1, by omega⟩
    simp [Ty.textTail, rdS_close]
  | t :: ts, hr, hd, n, rest, acc, hn => by
    obtain ⟨m, rfl⟩ : ∃ m, n = m + 1 := ⟨n - 1, by omega⟩
    simp only [Ty.digitsSet, Bool.and_eq_true] at hd
    simp only [Ty.textTail, List.length_cons, List.length_append] at hn
    have h1 := hr t (by simp) hd.1 m (Ty.textTail ts ++ 93 :: rest) (by omega)
    have h2 := reads_tail ts (fun t ht => hr t (by simp [ht])) hd.2 m rest (acc ++ [t]) (by omega)
    simp only [Ty.textTail, List.cons_append, List.append_assoc]
    rw [rdS_comma m _ _ acc t h1, h2]
    simp
theorem reads_rows (st : Int) (h0 : 0 ≤ st) (h9 : st ≤ 9) : ∀ (r : List (List Ty)), (∀ s ∈ r, ∀ t ∈ s, Reads t) → Ty.digitsRows r = true → ∀ (n : Nat) (rest : List UInt8) (acc : List (List Ty)), (Ty.textRows r).length + 1 ≤ n →
    rdT n (Ty.textRows r ++ (Lib.itoa st ++ rest)) acc = some (.mk st (acc ++ r), rest)
  | [], _, _, n, rest, acc, hn => by
    obtain ⟨m, rfl⟩ : ∃ m, n = m + 1 := ⟨n - 1, by omega⟩
    rw [Ty.textRows, List.nil_append, rdT_digit m st rest acc h0 h9, List.append_nil]
  | [] :: r, hr, hd, n, rest, acc, hn => by
    obtain ⟨m, rfl⟩ : ∃ m, n = m + 1 := ⟨n - 1, by omega⟩
    simp only [Ty.digitsRows, Ty.digitsSet, Bool.true_and] at hd
    simp only [Ty.textRows, Ty.textSet, List.nil_append, List.length_cons] at hn
    have h2 := reads_rows st h0 h9 r (fun s hs => hr s (by simp [hs])) hd m rest (acc ++ [[]]) (by omega)
    simp only [Ty.textRows, Ty.textSet, List.nil_append, List.cons_append]
    rw [rdT_empty, h2]
    simp
  | (t :: ts) :: r, hr, hd, n, rest, acc, hn => by
    obtain ⟨m, rfl⟩ : ∃ m, n = m + 1 := ⟨n - 1, by omega⟩
    simp only [Ty.digitsRows, Ty.digitsSet, Bool.and_eq_true] at hd
    simp only [Ty.textRows, Ty.textSet, List.length_cons, List.length_append] at hn
    have h1 := hr (t :: ts) (by simp) t (by simp) hd.1.1 m (Ty.textTail ts ++ 93 :: (Ty.textRows r ++ (Lib.itoa st ++ rest))) (by omega)
    have h3 := reads_tail ts (fun x hx => hr (t :: ts) (by simp) x (by simp [hx])) hd.1.2 m (Ty.textRows r ++ (Lib.itoa st ++ rest)) [t] (by omega)
    have h2 := reads_rows st h0 h9 r (fun s hs => hr s (by simp [hs])) hd.2 m rest (acc ++ [t :: ts]) (by omega)
    simp only [Ty.textRows, Ty.textSet, List.cons_append, List.append_assoc]
    rw [rdT_set m _ _ _ acc t _ (text_head t hd.1.1 _) h1 h3]
    simpa using h2
theorem reads_all : ∀ t : Ty, Reads t := by
  intro t
  induction t using Ty.ind with
  | h st args ih =>
    intro hd n rest hn
    simp only [Ty.digits, Bool.and_eq_true, decide_eq_true_eq] at hd
    have htx : (Ty.mk st args).text = Ty.textRows args ++ Lib.itoa st := by rw [Ty.text]
    rw [htx] at hn ⊢
    rw [itoa_digit st hd.2.1 hd.2.2] at hn
    simp only [List.length_append, List.length_cons, List.length_nil] at hn
    rw [List.append_assoc, reads_rows st hd.2.1 hd.2.2 args (fun s hs t ht => ih s hs t ht) hd.1 n rest [] (by omega)]
    rfl

/-- What is read is the text. -/
theorem read_is : ∀ n, (∀ l acc t r, rdT n l acc = some (t, r) → ∃ st args, t = .mk st (acc ++ args) ∧ l = Ty.textRows args ++ (Lib.itoa st ++ r)) ∧
    (∀ l acc ts r, rdS n l acc = some (ts, r) → ∃ us, ts = acc ++ us ∧ l = Ty.textTail us ++ 93 :: r) := by
  intro n
  induction n with
  | zero => exact ⟨fun l acc t r h => by simp [rdT] at h, fun l acc t r h => by simp [rdS] at h⟩
  | succ n ih =>
    obtain ⟨iT, iS⟩ := ih
    constructor
    · intro l acc t r h
      match l with
      | [] => simp [rdT] at h
      | c :: l1 =>
        by_cases hc : c = 91
        · subst hc
          match l1 with
          | [] => simp [rdT] at h
          | d :: l2 =>
            by_cases hd : d = 93
            · subst hd
              rw [rdT_empty] at h
              obtain ⟨st, args, rfl, rfl⟩ := iT _ _ _ _ h
              exact ⟨st, [] :: args, by simp, by simp [Ty.textRows, Ty.textSet]⟩
            · have hh : (d :: l2).head? ≠ some 93 := by simpa using hd
              cases h1 : rdT n (d :: l2) [] with
              | none => rw [rdT_none n _ _ hh h1] at h; cases h
              | some p =>
                obtain ⟨t1, l3⟩ := p
                cases h2 : rdS n l3 [t1] with
                | none => rw [rdT_none2 n _ _ _ _ hh h1 h2] at h; cases h
                | some p =>
                  obtain ⟨ts, l4⟩ := p
                  rw [rdT_set n _ _ _ _ _ _ hh h1 h2] at h
                  obtain ⟨st, args, rfl, rfl⟩ := iT _ _ _ _ h
                  obtain ⟨us, rfl, rfl⟩ := iS _ _ _ _ h2
                  obtain ⟨s1, a1, rfl, he⟩ := iT _ _ _ _ h1
                  refine ⟨st, (.mk s1 a1 :: us) :: args, by simp, ?_⟩
                  rw [he]
                  simp [Ty.textRows, Ty.textSet, Ty.text]
        · rw [rdT_end n c l1 acc hc] at h
          split at h
          · rename_i hcc
            simp only [Option.some.injEq, Prod.mk.injEq] at h
            obtain ⟨rfl, rfl⟩ := h
            simp only [UInt8.le_iff_toNat_le] at hcc
            have e1 : (48 : UInt8).toNat = 48 := rfl
            have e2 : (57 : UInt8).toNat = 57 := rfl
            refine ⟨(c.toNat : Int) - 48, [], by simp, ?_⟩
            rw [itoa_digit _ (by omega) (by omega)]
            have : UInt8.ofNat (48 + ((c.toNat : Int) - 48).toNat) = c := by
              apply UInt8.toNat_inj.1
              rw [digit_nat _ (by omega)]
              omega
            rw [this]
            rfl
          · cases h
    · intro l acc ts r h
      match l with
      | [] => simp [rdS] at h
      | c :: l1 =>
        by_cases hc : c = 44
        · subst hc
          cases h1 : rdT n l1 [] with
          | none => rw [rdS_comma_none n _ _ h1] at h; cases h
          | some p =>
            obtain ⟨t1, l2⟩ := p
            rw [rdS_comma n _ _ _ _ h1] at h
            obtain ⟨us, rfl, rfl⟩ := iS _ _ _ _ h
            obtain ⟨s1, a1, rfl, rfl⟩ := iT _ _ _ _ h1
            exact ⟨.mk s1 a1 :: us, by simp, by simp [Ty.textTail, Ty.text]⟩
        · by_cases hd : c = 93
          · subst hd
            rw [rdS_close] at h
            simp only [Option.some.injEq, Prod.mk.injEq] at h
            obtain ⟨rfl, rfl⟩ := h
            exact ⟨[], by simp, by simp [Ty.textTail]⟩
          · rw [rdS_other _ _ _ (by simpa using hc) (by simpa using hd)] at h
            cases h
theorem read_text {n : Nat} {l : List UInt8} {t : Ty} {r : List UInt8} (h : rdT n l [] = some (t, r)) : l = t.text ++ r := by
  obtain ⟨st, args, rfl, rfl⟩ := (read_is n).1 _ _ _ _ h
  rw [List.nil_append, Ty.text, List.append_assoc]
end Go.Proofs.YtmdgoalekkkpnaaDoor
