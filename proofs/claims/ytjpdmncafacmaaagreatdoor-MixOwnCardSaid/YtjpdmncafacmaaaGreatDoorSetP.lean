/- Strictly rising lists: the dedup of a sorted list, and insertion, in plain Lean. -/
import Derived.Test.YtjpdmncafacmaaaGreatDoorAuto
set_option linter.unusedVariables false
set_option linter.unusedSimpArgs false
namespace Go.Proofs.YtjpdmncafacmaaaGreatDoor

/-- Insertion into a rising list, unless it is there. -/
def insL {α : Type} (f : α → α → Int) (x : α) : List α → List α
  | [] => [x]
  | y :: l => if f y x < 0 then y :: insL f x l else if 0 < f y x then x :: y :: l else y :: l
/-- Runs of equals are struck, each element being held against the one that stood ahead of it. -/
def cptGo {α : Type} (eq : α → α → Bool) : α → List α → List α
  | _, [] => []
  | p, y :: ys => if eq y p then cptGo eq y ys else y :: cptGo eq y ys
def cpt {α : Type} (eq : α → α → Bool) : List α → List α
  | [] => []
  | x :: xs => x :: cptGo eq x xs

/-- A total order by a three-way comparison. -/
structure Ord3 {α : Type} (f : α → α → Int) : Prop where
  anti : ∀ x y, f y x = - f x y
  trans : ∀ x y z, f x y ≤ 0 → f y z ≤ 0 → f x z ≤ 0
  eq : ∀ x y, f x y = 0 → x = y

section
variable {α : Type} {f : α → α → Int}
theorem Ord3.refl (h : Ord3 f) (x : α) : f x x = 0 := by have := h.anti x x; omega
theorem Ord3.lt_trans (h : Ord3 f) {x y z : α} (h1 : f x y < 0) (h2 : f y z < 0) : f x z < 0 := by
  have h3 := h.trans x y z (by omega) (by omega)
  rcases Int.lt_or_eq_of_le h3 with h4 | h4
  · exact h4
  · have := h.eq _ _ h4
    subst this
    have := h.anti x y
    omega
theorem Ord3.le_lt (h : Ord3 f) {x y z : α} (h1 : f x y ≤ 0) (h2 : f y z < 0) : f x z < 0 := by
  rcases Int.lt_or_eq_of_le h1 with h3 | h3
  · exact h.lt_trans h3 h2
  · have := h.eq _ _ h3
    subst this
    exact h2
abbrev Rises (f : α → α → Int) (l : List α) : Prop := l.Pairwise fun x y => f x y < 0
theorem insL_mem (h : Ord3 f) (x y : α) : ∀ l : List α, y ∈ insL f x l ↔ y = x ∨ y ∈ l
  | [] => by simp [insL]
  | z :: l => by
    unfold insL
    by_cases h1 : f z x < 0
    · rw [if_pos h1, List.mem_cons, insL_mem h x y l, List.mem_cons]
      constructor
      · rintro (h | h | h) <;> simp [h]
      · rintro (h | h | h) <;> simp [h]
    · rw [if_neg h1]
      by_cases h2 : 0 < f z x
      · rw [if_pos h2]; simp
      · rw [if_neg h2]
        have := h.eq z x (by omega)
        subst this
        simp
theorem insL_rises (h : Ord3 f) (x : α) : ∀ l : List α, Rises f l → Rises f (insL f x l)
  | [], _ => by simp [insL, Rises]
  | z :: l, hl => by
    unfold insL
    have hl' := List.pairwise_cons.1 hl
    by_cases h1 : f z x < 0
    · rw [if_pos h1]
      refine List.pairwise_cons.2 ⟨fun y hy => ?_, insL_rises h x l hl'.2⟩
      rcases (insL_mem h x y l).1 hy with rfl | hy
      · exact h1
      · exact hl'.1 y hy
    · rw [if_neg h1]
      by_cases h2 : 0 < f z x
      · rw [if_pos h2]
        have hx : f x z < 0 := by have := h.anti z x; omega
        refine List.pairwise_cons.2 ⟨fun y hy => ?_, hl⟩
        rcases List.mem_cons.1 hy with rfl | hy
        · exact hx
        · exact h.lt_trans hx (hl'.1 y hy)
      · rw [if_neg h2]; exact hl
/-- The list's set, by insertion. -/
def setL (f : α → α → Int) (l : List α) : List α := l.foldl (fun o x => insL f x o) []
theorem setL_fold (h : Ord3 f) : ∀ (l o : List α), Rises f o → Rises f (l.foldl (fun o x => insL f x o) o) ∧ ∀ y, y ∈ l.foldl (fun o x => insL f x o) o ↔ y ∈ l ∨ y ∈ o
  | [], o, ho => ⟨ho, by simp⟩
  | x :: l, o, ho => by
    obtain ⟨h1, h2⟩ := setL_fold h l _ (insL_rises h x o ho)
    refine ⟨h1, fun y => ?_⟩
    rw [List.foldl_cons, h2, insL_mem h]
    simp only [List.mem_cons]
    constructor
    · rintro (h | h | h) <;> simp [h]
    · rintro ((h | h) | h) <;> simp [h]
theorem setL_rises (h : Ord3 f) (l : List α) : Rises f (setL f l) := (setL_fold h l [] .nil).1
theorem setL_mem (h : Ord3 f) (l : List α) (y : α) : y ∈ setL f l ↔ y ∈ l := by unfold setL; simpa using (setL_fold h l [] .nil).2 y

theorem cptGo_mem (h : Ord3 f) : ∀ (l : List α) (p y : α), (y = p ∨ y ∈ cptGo (fun x y => f x y == 0) p l) ↔ y = p ∨ y ∈ l
  | [], p, y => by simp [cptGo]
  | z :: l, p, y => by
    unfold cptGo
    by_cases h1 : f z p = 0
    · have := h.eq z p h1
      subst this
      rw [if_pos (by simpa using h1), cptGo_mem h l z y]
      simp only [List.mem_cons]
      constructor
      · rintro (h | h) <;> simp [h]
      · rintro (h | h | h) <;> simp [h]
    · rw [if_neg (by simpa using h1)]
      have := cptGo_mem h l z y
      simp only [List.mem_cons]
      constructor
      · rintro (h | h)
        · exact .inl h
        · exact .inr (this.1 h)
      · rintro (h | h)
        · exact .inl h
        · exact .inr (this.2 h)
theorem cptGo_rises (h : Ord3 f) : ∀ (l : List α) (p : α), (p :: l).Pairwise (fun x y => f x y ≤ 0) → Rises f (p :: cptGo (fun x y => f x y == 0) p l)
  | [], p, _ => by simp [cptGo, Rises]
  | z :: l, p, hl => by
    have h1 := List.pairwise_cons.1 hl
    unfold cptGo
    have ih := cptGo_rises h l z h1.2
    by_cases h2 : f z p = 0
    · have := h.eq z p h2
      subst this
      rw [if_pos (by simpa using h2)]
      exact ih
    · rw [if_neg (by simpa using h2)]
      have hlt : f p z < 0 := by
        have := h1.1 z (by simp)
        have := h.anti p z
        omega
      refine List.pairwise_cons.2 ⟨fun y hy => ?_, ih⟩
      rcases List.mem_cons.1 hy with rfl | hy
      · exact hlt
      · exact h.lt_trans hlt ((List.pairwise_cons.1 ih).1 y hy)
theorem cpt_rises (h : Ord3 f) {l : List α} (hl : l.Pairwise (fun x y => f x y ≤ 0)) : Rises f (cpt (fun x y => f x y == 0) l) := by
  cases l with
  | nil => simp [cpt, Rises]
  | cons x l => exact cptGo_rises h l x hl
theorem cpt_mem (h : Ord3 f) (l : List α) (y : α) : y ∈ cpt (fun x y => f x y == 0) l ↔ y ∈ l := by
  cases l with
  | nil => simp [cpt]
  | cons x l => simpa [cpt] using cptGo_mem h l x y
/-- Two rising lists of the same elements are one. -/
theorem rises_unique (h : Ord3 f) : ∀ {a b : List α}, Rises f a → Rises f b → (∀ y, y ∈ a ↔ y ∈ b) → a = b
  | [], [], _, _, _ => rfl
  | [], y :: b, _, _, hm => by simpa using (hm y).2 (by simp)
  | x :: a, [], _, _, hm => by simpa using (hm x).1 (by simp)
  | x :: a, y :: b, ha, hb, hm => by
    have ha' := List.pairwise_cons.1 ha
    have hb' := List.pairwise_cons.1 hb
    have hxy : x = y := by
      rcases List.mem_cons.1 ((hm x).1 (by simp)) with e | e
      · exact e
      · rcases List.mem_cons.1 ((hm y).2 (by simp)) with e2 | e2
        · exact e2.symm
        · have h1 := hb'.1 x e
          have h2 := ha'.1 y e2
          have := h.anti x y
          omega
    subst hxy
    have hnx : ∀ {l : List α}, (∀ z ∈ l, f x z < 0) → x ∉ l := fun hl hx => by have := hl x hx; have := h.refl x; omega
    congr 1
    refine rises_unique h ha'.2 hb'.2 fun z => ?_
    have := hm z
    simp only [List.mem_cons] at this
    constructor
    · intro hz
      rcases this.1 (.inr hz) with e | e
      · subst e; exact absurd hz (hnx ha'.1)
      · exact e
    · intro hz
      rcases this.2 (.inr hz) with e | e
      · subst e; exact absurd hz (hnx hb'.1)
      · exact e
theorem cpt_setL (h : Ord3 f) {l s : List α} (hp : s.Perm l) (hs : s.Pairwise (fun x y => f x y ≤ 0)) : cpt (fun x y => f x y == 0) s = setL f l :=
  rises_unique h (cpt_rises h hs) (setL_rises h l) fun y => by rw [cpt_mem h, setL_mem h, hp.mem_iff]
theorem setL_length (h : Ord3 f) {l s : List α} (hp : s.Perm l) (hs : s.Pairwise (fun x y => f x y ≤ 0)) : (setL f l).length ≤ l.length := by
  rw [← cpt_setL h hp hs, ← hp.length_eq]
  cases s with
  | nil => simp [cpt]
  | cons x s =>
    have : ∀ (p : α) (s : List α), (cptGo (fun x y => f x y == 0) p s).length ≤ s.length := by
      intro p s
      induction s generalizing p with
      | nil => simp [cptGo]
      | cons y s ih =>
        unfold cptGo
        split
        · exact Nat.le_trans (ih y) (by simp)
        · simpa using ih y
    simpa [cpt] using this x s
end
/-! ### Lists of needs -/
theorem cmpL_eq0 {α : Type} {f : α → α → Int} (hf : ∀ x y, f x y = 0 → x = y) : ∀ xs ys : List α, cmpL f xs ys = 0 → xs = ys
  | [], [], _ => rfl
  | [], _ :: _, h => by simp [cmpL] at h
  | _ :: _, [], h => by simp [cmpL] at h
  | x :: xs, y :: ys, h => by
    unfold cmpL at h
    by_cases h1 : f x y = 0
    · rw [if_neg (by simpa using h1)] at h
      rw [hf x y h1, cmpL_eq0 hf xs ys h]
    · rw [if_pos h1] at h
      exact absurd h h1
theorem cmpL_anti {α : Type} {f : α → α → Int} (hf : ∀ x y, f y x = - f x y) : ∀ xs ys : List α, cmpL f ys xs = - cmpL f xs ys
  | [], [] => rfl
  | [], _ :: _ => rfl
  | _ :: _, [] => rfl
  | x :: xs, y :: ys => by
    unfold cmpL
    have h := hf x y
    by_cases h1 : f x y = 0
    · rw [if_neg (show ¬ f y x ≠ 0 by omega), if_neg (show ¬ f x y ≠ 0 by omega)]
      exact cmpL_anti hf xs ys
    · rw [if_pos (show f y x ≠ 0 by omega), if_pos h1, h]
theorem cmpL_trans {α : Type} {f : α → α → Int} (hf : Ord3 f) : ∀ xs ys zs : List α, cmpL f xs ys ≤ 0 → cmpL f ys zs ≤ 0 → cmpL f xs zs ≤ 0
  | [], _, [], _, _ => by simp [cmpL]
  | [], _, _ :: _, _, _ => by simp [cmpL]
  | _ :: _, [], _, h, _ => by simp [cmpL] at h
  | _ :: _, _ :: _, [], _, h => by simp [cmpL] at h
  | x :: xs, y :: ys, z :: zs, h1, h2 => by
    unfold cmpL at h1 h2 ⊢
    by_cases e1 : f x y = 0
    · have := hf.eq _ _ e1
      subst this
      rw [if_neg (by simpa using e1)] at h1
      by_cases e2 : f x z = 0
      · rw [if_neg (by simpa using e2)] at h2 ⊢
        exact cmpL_trans hf xs ys zs h1 h2
      · rw [if_pos e2] at h2 ⊢
        exact h2
    · rw [if_pos e1] at h1
      by_cases e2 : f y z = 0
      · have := hf.eq _ _ e2
        subst this
        rw [if_pos e1]
        exact h1
      · rw [if_pos e2] at h2
        have := hf.lt_trans (show f x y < 0 by omega) (show f y z < 0 by omega)
        rw [if_pos (by omega)]
        omega
theorem ord_cmpL {α : Type} {f : α → α → Int} (hf : Ord3 f) : Ord3 (cmpL f) :=
  ⟨fun x y => cmpL_anti hf.anti x y, cmpL_trans hf, cmpL_eq0 hf.eq⟩
theorem ord_nd : Ord3 Nd.cmp := by
  refine ⟨fun x y => ?_, fun x y z h1 h2 => ?_, fun x y h => ?_⟩
  · unfold Nd.cmp
    by_cases h : x.1 = y.1
    · rw [if_neg (by simpa using h.symm), if_neg (by simpa using h)]; omega
    · rw [if_pos (fun e => h e.symm), if_pos h]; omega
  · unfold Nd.cmp at *
    by_cases e1 : x.1 = y.1 <;> by_cases e2 : y.1 = z.1 <;> by_cases e3 : x.1 = z.1 <;> simp only [ne_eq, e1, e2, e3, not_true_eq_false, not_false_eq_true, if_true, if_false] at * <;> omega
  · unfold Nd.cmp at h
    by_cases e1 : x.1 = y.1
    · rw [if_neg (by simpa using e1)] at h
      exact Prod.ext e1 (by omega)
    · rw [if_pos e1] at h; omega
theorem ord_alt : Ord3 (cmpL Nd.cmp) := ord_cmpL ord_nd
theorem rise_iff {α : Type} {f : α → α → Int} (hf : Ord3 f) : ∀ l : List α, rise f l = true ↔ Rises f l
  | [] => by simp [rise, Rises]
  | [x] => by simp [rise, Rises]
  | x :: y :: l => by
    rw [rise, Bool.and_eq_true, decide_eq_true_eq, rise_iff hf (y :: l)]
    unfold Rises
    rw [List.pairwise_cons (a := x)]
    constructor
    · rintro ⟨h1, h2⟩
      refine ⟨fun z hz => ?_, h2⟩
      rcases List.mem_cons.1 hz with rfl | hz
      · exact h1
      · exact hf.lt_trans h1 ((List.pairwise_cons.1 h2).1 z hz)
    · rintro ⟨h1, h2⟩
      exact ⟨h1 y (by simp), h2⟩
/-- A rising list is its own set. -/
theorem setL_self {α : Type} {f : α → α → Int} (hf : Ord3 f) {l : List α} (h : Rises f l) : setL f l = l :=
  rises_unique hf (setL_rises hf l) h fun y => setL_mem hf l y
/-- A needs' list in order, each once; a list of alternatives in order, each once. -/
abbrev ndSet (l : List Nd) : List Nd := setL Nd.cmp l
abbrev altSet (l : List (List Nd)) : List (List Nd) := setL (cmpL Nd.cmp) l
end Go.Proofs.YtjpdmncafacmaaaGreatDoor
