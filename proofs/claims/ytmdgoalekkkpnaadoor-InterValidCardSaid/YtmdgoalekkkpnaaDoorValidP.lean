/- Valid types: in plain Lean. -/
import Derived.Test.YtmdgoalekkkpnaaDoorFitsP
import Derived.Test.YtmdgoalekkkpnaaDoorSetL
set_option linter.unusedVariables false
set_option linter.unusedSimpArgs false
namespace Go.Proofs.YtmdgoalekkkpnaaDoor

mutual
/-- As many sets, and states below the number of states, at each place. -/
def Ty.fitsL (n : Int) : Ty → Srt → Bool
  | .mk st args, s => decide (args.length = s.args.length) && decide (0 ≤ st) && decide (st < n) && Ty.fitRowsL n args s.args
def Ty.fitRowsL (n : Int) : List (List Ty) → List Srt → Bool
  | [], _ => true
  | ts :: r, l => match l with
    | [] => true
    | s :: ss => Ty.fitElemsL n s ts && Ty.fitRowsL n r ss
def Ty.fitElemsL (n : Int) (s : Srt) : List Ty → Bool
  | [] => true
  | t :: r => Ty.fitsL n t s && Ty.fitElemsL n s r
end
def okSet (ts : List Ty) : Bool := decide (setE ts = 0) && sameL (setT ts) ts
mutual
/-- All sets are their own Set. -/
def Ty.rises : Ty → Bool
  | .mk _ args => Ty.risesRows args
def Ty.risesRows : List (List Ty) → Bool
  | [] => true
  | ts :: r => okSet ts && Ty.risesElems ts && Ty.risesRows r
def Ty.risesElems : List Ty → Bool
  | [] => true
  | t :: r => t.rises && Ty.risesElems r
end
theorem Ty.fitsL_mk (n : Int) (st : Int) (args : List (List Ty)) (s : Srt) : Ty.fitsL n (.mk st args) s = (decide (args.length = s.args.length) && decide (0 ≤ st) && decide (st < n) && Ty.fitRowsL n args s.args) := by rw [Ty.fitsL]
theorem Ty.fitRowsL_drop (n : Int) (args : List (List Ty)) (l : List Srt) (k : Nat) (h : k < args.length) (h' : k < l.length) :
    Ty.fitRowsL n (args.drop k) (l.drop k) = (Ty.fitElemsL n l[k] args[k] && Ty.fitRowsL n (args.drop (k + 1)) (l.drop (k + 1))) := by
  rw [List.drop_eq_getElem_cons h, List.drop_eq_getElem_cons h', Ty.fitRowsL]
theorem Ty.fitElemsL_drop (n : Int) (s : Srt) (ts : List Ty) (k : Nat) (h : k < ts.length) : Ty.fitElemsL n s (ts.drop k) = (Ty.fitsL n ts[k] s && Ty.fitElemsL n s (ts.drop (k + 1))) := by
  rw [List.drop_eq_getElem_cons h, Ty.fitElemsL]
theorem Ty.risesRows_drop (args : List (List Ty)) (k : Nat) (h : k < args.length) : Ty.risesRows (args.drop k) = (okSet args[k] && Ty.risesElems args[k] && Ty.risesRows (args.drop (k + 1))) := by
  rw [List.drop_eq_getElem_cons h, Ty.risesRows]
theorem Ty.risesElems_drop (ts : List Ty) (k : Nat) (h : k < ts.length) : Ty.risesElems (ts.drop k) = (ts[k].rises && Ty.risesElems (ts.drop (k + 1))) := by
  rw [List.drop_eq_getElem_cons h, Ty.risesElems]

theorem sameL_eq : ∀ a b : List Ty, sameL a b = true → a = b
  | [], [], _ => rfl
  | [], _ :: _, h => by simp [sameL] at h
  | _ :: _, [], h => by simp [sameL] at h
  | x :: a, y :: b, h => by
    rw [sameL, Bool.and_eq_true] at h
    have h1 := h.1
    unfold Ty.same at h1
    simp only [Bool.and_eq_true, beq_iff_eq] at h1
    rw [Ty.cmp_eq0 _ _ h1.2, sameL_eq a b h.2]
theorem okSet_iff {ts : List Ty} (hl : ts.length ≤ 4096) (hs : ∀ t ∈ ts, t.large = false) : okSet ts = true ↔ Rises Ty.cmp ts := by
  have hE : setE ts = 0 := by
    unfold setE
    rw [if_neg (by omega), if_neg]
    intro h
    obtain ⟨t, ht, hl⟩ := List.any_eq_true.1 h
    rw [hs t ht] at hl
    cases hl
  have hT : setT ts = setL Ty.cmp ts := by unfold setT; rw [if_pos hE]
  unfold okSet
  rw [hE, hT]
  simp only [decide_true, Bool.true_and]
  constructor
  · intro h
    have := sameL_eq _ _ h
    rw [← this]
    exact setL_rises ord_ty ts
  · intro h
    have he : setL Ty.cmp ts = ts := rises_unique ord_ty (setL_rises ord_ty ts) h fun y => setL_mem ord_ty ts y
    rw [he]
    exact sameL_self ts hs
theorem fitSet_some (n : Int) (s : Srt) : ∀ (ts : List Ty) (q : Ty), Ty.fitSet n s ts (some q) = true ↔ (∀ t ∈ ts, Ty.fits n t s = true) ∧ Rises Ty.cmp (q :: ts)
  | [], q => by simp [Ty.fitSet, Rises]
  | t :: r, q => by
    rw [Ty.fitSet]
    simp only [Bool.and_eq_true, decide_eq_true_eq, fitSet_some n s r t]
    constructor
    · rintro ⟨⟨h1, h2⟩, h3, h4⟩
      refine ⟨fun x hx => ?_, List.pairwise_cons.2 ⟨fun x hx => ?_, h4⟩⟩
      · rcases List.mem_cons.1 hx with rfl | hx
        · exact h1
        · exact h3 x hx
      · rcases List.mem_cons.1 hx with rfl | hx
        · exact h2
        · exact ord_ty.lt_trans h2 ((List.pairwise_cons.1 h4).1 x hx)
    · rintro ⟨h1, h2⟩
      have h3 := List.pairwise_cons.1 h2
      exact ⟨⟨h1 t (by simp), h3.1 t (by simp)⟩, fun x hx => h1 x (by simp [hx]), h3.2⟩
theorem fitSet_none (n : Int) (s : Srt) (ts : List Ty) : Ty.fitSet n s ts none = true ↔ (∀ t ∈ ts, Ty.fits n t s = true) ∧ Rises Ty.cmp ts := by
  cases ts with
  | nil => simp [Ty.fitSet, Rises]
  | cons t r =>
    rw [Ty.fitSet]
    simp only [Bool.and_true, Bool.and_eq_true, fitSet_some]
    constructor
    · rintro ⟨h1, h3, h4⟩
      refine ⟨fun x hx => ?_, h4⟩
      rcases List.mem_cons.1 hx with rfl | hx
      · exact h1
      · exact h3 x hx
    · rintro ⟨h1, h2⟩
      exact ⟨h1 t (by simp), fun x hx => h1 x (by simp [hx]), h2⟩
theorem fitElemsL_iff (n : Int) (s : Srt) : ∀ ts : List Ty, Ty.fitElemsL n s ts = true ↔ ∀ t ∈ ts, Ty.fitsL n t s = true
  | [] => by simp [Ty.fitElemsL]
  | t :: r => by rw [Ty.fitElemsL, Bool.and_eq_true, fitElemsL_iff n s r]; simp
theorem risesElems_iff : ∀ ts : List Ty, Ty.risesElems ts = true ↔ ∀ t ∈ ts, t.rises = true
  | [] => by simp [Ty.risesElems]
  | t :: r => by rw [Ty.risesElems, Bool.and_eq_true, risesElems_iff r]; simp
theorem sizeSet_mem : ∀ (ts : List Ty) (t : Ty), t ∈ ts → t.size ≤ Ty.sizeSet ts
  | [], t, h => by cases h
  | x :: r, t, h => by
    rw [Ty.sizeSet]
    rcases List.mem_cons.1 h with rfl | h
    · omega
    · have := sizeSet_mem r t h; omega
theorem sizeRows_mem : ∀ (a : List (List Ty)) (s : List Ty), s ∈ a → Ty.sizeSet s ≤ Ty.sizeRows a
  | [], t, h => by cases h
  | x :: r, t, h => by
    rw [Ty.sizeRows]
    rcases List.mem_cons.1 h with rfl | h
    · omega
    · have := sizeRows_mem r t h; omega
theorem len_le_sizeSet : ∀ ts : List Ty, ts.length ≤ Ty.sizeSet ts
  | [] => by simp
  | x :: r => by
    have := len_le_sizeSet r
    have := x.size_pos
    rw [Ty.sizeSet, List.length_cons]
    omega
theorem fitRows_eq (n : Int) : ∀ (a : List (List Ty)) (l : List Srt), a.length = l.length → (∀ ts ∈ a, ∀ t ∈ ts, ∀ s, Ty.fits n t s = (Ty.fitsL n t s && t.rises)) → (∀ ts ∈ a, ts.length ≤ 4096 ∧ ∀ t ∈ ts, t.large = false) →
    Ty.fitRows n a l = (Ty.fitRowsL n a l && Ty.risesRows a)
  | [], l, _, _, _ => by simp [Ty.fitRows, Ty.fitRowsL, Ty.risesRows]
  | ts :: r, [], h, _, _ => by simp at h
  | ts :: r, s :: ss, h, ih, hs => by
    rw [Ty.fitRows, Ty.fitRowsL, Ty.risesRows, fitRows_eq n r ss (by simpa using h) (fun x hx => ih x (by simp [hx])) (fun x hx => hs x (by simp [hx]))]
    have h1 : Ty.fitSet n s ts none = (Ty.fitElemsL n s ts && (okSet ts && Ty.risesElems ts)) := by
      rw [Bool.eq_iff_iff, fitSet_none, Bool.and_eq_true, Bool.and_eq_true, okSet_iff (hs ts (by simp)).1 (hs ts (by simp)).2, fitElemsL_iff, risesElems_iff]
      constructor
      · rintro ⟨a, b⟩
        have ha : ∀ t ∈ ts, Ty.fitsL n t s = true ∧ t.rises = true := fun t ht => by
          have := a t ht
          rw [ih ts (by simp) t ht, Bool.and_eq_true] at this
          exact this
        exact ⟨fun t ht => (ha t ht).1, b, fun t ht => (ha t ht).2⟩
      · rintro ⟨a, b, c⟩
        exact ⟨fun t ht => by rw [ih ts (by simp) t ht, a t ht, c t ht]; rfl, b⟩
    rw [h1]
    cases Ty.fitElemsL n s ts <;> cases okSet ts <;> cases Ty.risesElems ts <;> cases Ty.fitRowsL n r ss <;> cases Ty.risesRows r <;> rfl
theorem fits_eq (n : Int) : ∀ t : Ty, t.size ≤ 2000 → ∀ s, Ty.fits n t s = (Ty.fitsL n t s && t.rises) := by
  intro t
  induction t using Ty.ind with
  | h st a ih =>
    intro hsz s
    have hs : (Ty.mk st a).size = 1 + Ty.sizeRows a := rfl
    have hle : ∀ ts ∈ a, Ty.sizeSet ts ≤ 1999 := fun ts hts => by have := sizeRows_mem a ts hts; omega
    rw [Ty.fits_mk, Ty.fitsL_mk, Ty.rises]
    by_cases hl : a.length = s.args.length
    · rw [fitRows_eq n a s.args hl (fun ts hts t ht s => ih ts hts t ht (by have := sizeSet_mem ts t ht; have := hle ts hts; omega) s) (fun ts hts => ⟨by have := len_le_sizeSet ts; have := hle ts hts; omega, fun t ht => by
        have h1 := sizeSet_mem ts t ht
        have h2 := hle ts hts
        unfold Ty.large
        rw [decide_eq_false_iff_not]
        omega⟩)]
      simp only [hl, decide_true, Bool.and_true, Bool.true_and, Bool.and_assoc]
    · simp [hl]
end Go.Proofs.YtmdgoalekkkpnaaDoor
