/- Plain words on memory and on api.Type's trees, for the walks of layer 12; no program in sight. -/
import Derived.WalkKit
import Derived.Deep.Draws
import Derived.Deep.QuietTactic
import Derived.BigQuiet
import Derived.Lib.Hide
import Derived.Deep.LoopGhost
set_option linter.unusedVariables false
set_option linter.unusedSimpArgs false
namespace Go.Proofs.YtmdgoalekkkpnaaDoor
open Go.RowKit

/-- A slice value that reads as `xs`, each element of `k` cells read by `r`, its block being one of `S`. -/
def Sl {α : Type} (S : Nat → Prop) (w : World) (k : Nat) (r : α → List Value → Prop) (xs : List α) (v : Value) : Prop :=
  ∃ A c, v = .slice A xs.length c ∧ xs.length ≤ c ∧ xs.length ≤ 140737488351232 ∧
    (0 < xs.length → ∃ b o, A = some ⟨b, o, none⟩ ∧ S b ∧
      ∀ i (h : i < xs.length), ∃ cs, cs.length = k ∧ (∀ j, j < k → w.cell? ⟨b, o + i * k + j, none⟩ = cs[j]?) ∧ r xs[i] cs)

theorem Sl.move {α : Type} {S S' : Nat → Prop} {w w' : World} {k : Nat} {r r' : α → List Value → Prop} {xs : List α} {v : Value}
    (h : Sl S w k r xs v) (hS : ∀ b, S b → S' b) (hw : ∀ b, S b → w'.heap[b]? = w.heap[b]?) (hr : ∀ x ∈ xs, ∀ cs, r x cs → r' x cs) : Sl S' w' k r' xs v := by
  obtain ⟨A, c, rfl, hc, hm, hp⟩ := h
  refine ⟨A, c, rfl, hc, hm, fun h0 => ?_⟩
  obtain ⟨b, o, rfl, hb, hcs⟩ := hp h0
  refine ⟨b, o, rfl, hS b hb, fun i hi => ?_⟩
  obtain ⟨cs, hl, hcell, hrr⟩ := hcs i hi
  refine ⟨cs, hl, fun j hj => ?_, hr _ (List.getElem_mem hi) _ hrr⟩
  rw [← hcell j hj]
  exact World.cell?_of_block (hw b hb)

/-- Types. -/
inductive Ty where
  | mk (st : Int) (args : List (List Ty))

theorem Ty.ind {P : Ty → Prop} (h : ∀ st args, (∀ s ∈ args, ∀ t ∈ s, P t) → P (.mk st args)) : ∀ t, P t
  | .mk st args => h st args fun s hs t ht => Ty.ind h t
termination_by t => SizeOf.sizeOf t
decreasing_by
  have h1 := List.sizeOf_lt_of_mem hs
  have h2 := List.sizeOf_lt_of_mem ht
  simp
  omega

mutual
def TyR (S : Nat → Prop) (w : World) : Ty → List Value → Prop
  | .mk st args, cs => -9223372036854775808 ≤ st ∧ st ≤ 9223372036854775807 ∧ ∃ A c, cs = [.int .i64 st, .slice A args.length c] ∧ args.length ≤ c ∧ args.length ≤ 140737488351232 ∧
      (0 < args.length → ∃ b o, A = some ⟨b, o, none⟩ ∧ S b ∧ RowsR S w b o args)
def RowsR (S : Nat → Prop) (w : World) (b o : Nat) : List (List Ty) → Prop
  | [] => True
  | ts :: r => (∃ A c, w.cell? ⟨b, o, none⟩ = some (.slice A ts.length c) ∧ ts.length ≤ c ∧ ts.length ≤ 140737488351232 ∧
      (0 < ts.length → ∃ b' o', A = some ⟨b', o', none⟩ ∧ S b' ∧ ElemsR S w b' o' ts)) ∧ RowsR S w b (o + 1) r
def ElemsR (S : Nat → Prop) (w : World) (b o : Nat) : List Ty → Prop
  | [] => True
  | t :: r => (∃ v0 v1, w.cell? ⟨b, o, none⟩ = some v0 ∧ w.cell? ⟨b, o + 1, none⟩ = some v1 ∧ TyR S w t [v0, v1]) ∧ ElemsR S w b (o + 2) r
end

/-- The cells of one set. -/
def SetR (S : Nat → Prop) (w : World) (ts : List Ty) (cs : List Value) : Prop := ∃ v, cs = [v] ∧ Sl S w 2 (TyR S w) ts v

theorem TyR_len {S : Nat → Prop} {w : World} {t : Ty} {cs : List Value} (h : TyR S w t cs) : ∃ v0 v1, cs = [v0, v1] := by
  cases t
  unfold TyR at h
  obtain ⟨_, _, A, c, rfl, _⟩ := h
  exact ⟨_, _, rfl⟩

theorem ElemsR_iff {S : Nat → Prop} {w : World} {b : Nat} : ∀ {ts : List Ty} {o : Nat}, ElemsR S w b o ts ↔
    ∀ i (h : i < ts.length), ∃ cs, cs.length = 2 ∧ (∀ j, j < 2 → w.cell? ⟨b, o + i * 2 + j, none⟩ = cs[j]?) ∧ TyR S w ts[i] cs
  | [], o => by simp [ElemsR]
  | t :: r, o => by
    unfold ElemsR
    rw [ElemsR_iff]
    constructor
    · rintro ⟨⟨v0, v1, h0, h1, ht⟩, hr⟩ i hi
      match i with
      | 0 => exact ⟨[v0, v1], rfl, fun j hj => by match j with | 0 => simpa using h0 | 1 => simpa using h1, ht⟩
      | i + 1 =>
        obtain ⟨cs, hl, hc, hq⟩ := hr i (by simpa using hi)
        exact ⟨cs, hl, fun j hj => by rw [← hc j hj, show o + (i + 1) * 2 + j = o + 2 + i * 2 + j by omega], hq⟩
    · intro h
      refine ⟨?_, fun i hi => ?_⟩
      · obtain ⟨cs, hl, hc, hq⟩ := h 0 (by simp)
        obtain ⟨v0, v1, rfl⟩ := TyR_len hq
        exact ⟨v0, v1, by simpa using hc 0 (by omega), by simpa using hc 1 (by omega), hq⟩
      · obtain ⟨cs, hl, hc, hq⟩ := h (i + 1) (by simpa using hi)
        exact ⟨cs, hl, fun j hj => by rw [← hc j hj, show o + (i + 1) * 2 + j = o + 2 + i * 2 + j by omega], hq⟩

theorem RowsR_iff {S : Nat → Prop} {w : World} {b : Nat} : ∀ {ts : List (List Ty)} {o : Nat}, RowsR S w b o ts ↔
    ∀ i (h : i < ts.length), ∃ cs, cs.length = 1 ∧ (∀ j, j < 1 → w.cell? ⟨b, o + i * 1 + j, none⟩ = cs[j]?) ∧ SetR S w ts[i] cs
  | [], o => by simp [RowsR]
  | t :: r, o => by
    unfold RowsR
    rw [RowsR_iff]
    constructor
    · rintro ⟨⟨A, c, h0, hc, hm, ht⟩, hr⟩ i hi
      match i with
      | 0 => exact ⟨[_], rfl, fun j hj => by match j with | 0 => simpa using h0, _, rfl, A, c, rfl, hc, hm, fun hp => by
          obtain ⟨b', o', ha, hb, he⟩ := ht hp
          exact ⟨b', o', ha, hb, ElemsR_iff.1 he⟩⟩
      | i + 1 =>
        obtain ⟨cs, hl, hc, hq⟩ := hr i (by simpa using hi)
        exact ⟨cs, hl, fun j hj => by rw [← hc j hj, show o + (i + 1) * 1 + j = o + 1 + i * 1 + j by omega], hq⟩
    · intro h
      refine ⟨?_, fun i hi => ?_⟩
      · obtain ⟨cs, hl, hc, v, rfl, A, c, rfl, hcc, hm, hp⟩ := h 0 (by simp)
        refine ⟨A, c, by simpa using hc 0 (by omega), hcc, hm, fun h0 => ?_⟩
        obtain ⟨b', o', ha, hb, he⟩ := hp h0
        exact ⟨b', o', ha, hb, ElemsR_iff.2 he⟩
      · obtain ⟨cs, hl, hc, hq⟩ := h (i + 1) (by simpa using hi)
        exact ⟨cs, hl, fun j hj => by rw [← hc j hj, show o + (i + 1) * 1 + j = o + 1 + i * 1 + j by omega], hq⟩

theorem TyR_mk {S : Nat → Prop} {w : World} {st : Int} {args : List (List Ty)} {cs : List Value} :
    TyR S w (.mk st args) cs ↔ ∃ v, cs = [.int .i64 st, v] ∧ -9223372036854775808 ≤ st ∧ st ≤ 9223372036854775807 ∧ Sl S w 1 (SetR S w) args v := by
  unfold TyR
  constructor
  · rintro ⟨h1, h2, A, c, rfl, hc, hm, hp⟩
    refine ⟨_, rfl, h1, h2, A, c, rfl, hc, hm, fun h0 => ?_⟩
    obtain ⟨b, o, ha, hb, he⟩ := hp h0
    exact ⟨b, o, ha, hb, RowsR_iff.1 he⟩
  · rintro ⟨v, rfl, h1, h2, A, c, rfl, hc, hm, hp⟩
    refine ⟨h1, h2, A, c, rfl, hc, hm, fun h0 => ?_⟩
    obtain ⟨b, o, ha, hb, he⟩ := hp h0
    exact ⟨b, o, ha, hb, RowsR_iff.2 he⟩

theorem TyR.move {S S' : Nat → Prop} {w w' : World} (hS : ∀ b, S b → S' b) (hw : ∀ b, S b → w'.heap[b]? = w.heap[b]?) :
    ∀ {t : Ty} {cs : List Value}, TyR S w t cs → TyR S' w' t cs := by
  intro t
  induction t using Ty.ind with
  | h st args ih =>
    intro cs h
    rw [TyR_mk] at h ⊢
    obtain ⟨v, rfl, h1, h2, hs⟩ := h
    refine ⟨v, rfl, h1, h2, hs.move hS hw ?_⟩
    rintro s hs cs ⟨v, rfl, hv⟩
    exact ⟨v, rfl, hv.move hS hw fun t ht cs h => ih s hs t ht h⟩

theorem SetR.move {S S' : Nat → Prop} {w w' : World} (hS : ∀ b, S b → S' b) (hw : ∀ b, S b → w'.heap[b]? = w.heap[b]?) {ts : List Ty} {cs : List Value} (h : SetR S w ts cs) : SetR S' w' ts cs := by
  obtain ⟨v, rfl, hv⟩ := h
  exact ⟨v, rfl, hv.move hS hw fun t _ cs h => h.move hS hw⟩

theorem TyR.vals {S : Nat → Prop} {w : World} {t : Ty} {v0 v1 : Value} (h : TyR S w t [v0, v1]) : ∃ st A n c, v0 = .int .i64 st ∧ v1 = .slice A n c := by
  cases t with
  | mk st args =>
    rw [TyR_mk] at h
    obtain ⟨v, hcs, _, _, A, c, rfl, _⟩ := h
    obtain ⟨rfl, rfl⟩ : v0 = .int .i64 st ∧ v1 = .slice A args.length c := by simpa using hcs
    exact ⟨_, _, _, _, rfl, rfl⟩

/-! ### The number of nodes -/
mutual
def Ty.size : Ty → Nat
  | .mk _ args => 1 + Ty.sizeRows args
def Ty.sizeRows : List (List Ty) → Nat
  | [] => 0
  | ts :: r => Ty.sizeSet ts + Ty.sizeRows r
def Ty.sizeSet : List Ty → Nat
  | [] => 0
  | t :: r => t.size + Ty.sizeSet r
end
theorem Ty.sizeSet_append (a b : List Ty) : Ty.sizeSet (a ++ b) = Ty.sizeSet a + Ty.sizeSet b := by
  induction a with
  | nil => simp [Ty.sizeSet]
  | cons x a ih => simp [Ty.sizeSet, ih]; omega
theorem Ty.sizeRows_append (a b : List (List Ty)) : Ty.sizeRows (a ++ b) = Ty.sizeRows a + Ty.sizeRows b := by
  induction a with
  | nil => simp [Ty.sizeRows]
  | cons x a ih => simp [Ty.sizeRows, ih]; omega
theorem Ty.sizeSet_take (a : List Ty) (k : Nat) (h : k < a.length) : Ty.sizeSet (a.take (k + 1)) = Ty.sizeSet (a.take k) + (a[k]).size := by
  rw [List.take_succ_eq_append_getElem h, Ty.sizeSet_append]
  simp [Ty.sizeSet]
theorem Ty.sizeRows_take (a : List (List Ty)) (k : Nat) (h : k < a.length) : Ty.sizeRows (a.take (k + 1)) = Ty.sizeRows (a.take k) + Ty.sizeSet (a[k]) := by
  rw [List.take_succ_eq_append_getElem h, Ty.sizeRows_append]
  simp [Ty.sizeRows]
theorem Ty.sizeSet_take_le (a : List Ty) (k : Nat) : Ty.sizeSet (a.take k) ≤ Ty.sizeSet a := by
  have := Ty.sizeSet_append (a.take k) (a.drop k)
  rw [List.take_append_drop] at this
  omega
theorem Ty.sizeRows_take_le (a : List (List Ty)) (k : Nat) : Ty.sizeRows (a.take k) ≤ Ty.sizeRows a := by
  have := Ty.sizeRows_append (a.take k) (a.drop k)
  rw [List.take_append_drop] at this
  omega
theorem Ty.size_pos (t : Ty) : 1 ≤ t.size := by cases t; simp [Ty.size]

/-! ### Worlds -/
theorem frm_trans {w w1 w2 : World} {row : Option Nat} (h : w.grownBy w1 row) (h' : w1.grownBy w2 row) : w.grownBy w2 row := by
  refine ⟨h'.os.trans h.os, h'.tape.trans h.tape, h'.output.trans h.output, Nat.le_trans h.size h'.size, fun i hi hn => ?_⟩
  exact (h'.block i (Nat.lt_of_lt_of_le hi h.size) hn).trans (h.block i hi hn)
theorem frm_weak {w w1 : World} {row : Option Nat} (h : w.grownBy w1 none) : w.grownBy w1 row := ⟨h.os, h.tape, h.output, h.size, fun i hi hn => h.block i hi (by simp)⟩
theorem frm_alloc (w : World) (o : Obj) : w.grownBy (w.alloc o) none :=
  ⟨rfl, rfl, rfl, by simp, fun i hi _ => Below.heap_alloc _ _ _ hi⟩
theorem frm_drew (w : World) : w.grownBy w.drew none := ⟨rfl, rfl, rfl, Nat.le_refl _, fun i hi _ => rfl⟩
theorem frm_drewN (w : World) (n : Nat) : w.grownBy (w.drewN n) none := ⟨rfl, rfl, rfl, Nat.le_refl _, fun i hi _ => rfl⟩
theorem frm_refl (w : World) (row : Option Nat) : w.grownBy w row := ⟨rfl, rfl, rfl, Nat.le_refl _, fun i hi _ => rfl⟩

/-- A block of one cell, not frozen. -/
def OneAt (w : World) (g : Nat) (v : Value) (T : TypeId) : Prop := w.heap[g]? = some (.cells #[v] T (0, 0))
theorem OneAt.lt {w : World} {g : Nat} {v : Value} {T : TypeId} (h : OneAt w g v T) : g < w.heap.size := (Array.getElem?_eq_some_iff.1 h).1
theorem OneAt.cell {w : World} {g : Nat} {v : Value} {T : TypeId} (h : OneAt w g v T) : w.cell? ⟨g, 0, none⟩ = some v := by
  unfold OneAt at h
  simp [World.cell?, h]
theorem OneAt.free {w : World} {g : Nat} {v : Value} {T : TypeId} (h : OneAt w g v T) : w.frozen? ⟨g, 0, none⟩ = false := by
  unfold OneAt at h
  simp [World.frozen?, h]
theorem OneAt.set {w : World} {g : Nat} {v : Value} {T : TypeId} (h : OneAt w g v T) (u : Value) : OneAt (w.setCell ⟨g, 0, none⟩ u) g u T := by
  unfold OneAt at h ⊢
  simp [World.setCell, Array.getElem?_modify, h]
theorem OneAt.move {w w' : World} {g : Nat} {v : Value} {T : TypeId} (h : OneAt w g v T) (hw : w'.heap[g]? = w.heap[g]?) : OneAt w' g v T := hw.trans h
theorem OneAt.alloc {w : World} {g : Nat} {v : Value} {T : TypeId} (h : OneAt w g v T) (o : Obj) : OneAt (w.alloc o) g v T := h.move (Below.heap_alloc _ _ _ h.lt)
theorem OneAt.drew {w : World} {g : Nat} {v : Value} {T : TypeId} (h : OneAt w g v T) : OneAt w.drew g v T := h
theorem OneAt.new (w : World) (v : Value) (T : TypeId) : OneAt (w.alloc (.cells #[v] T)) w.heap.size v T := by
  show (w.heap.push _)[w.heap.size]? = _
  simp
theorem frm_set {w w1 : World} {g : Nat} (h : w.grownBy w1 (some g)) (j : Nat) (u : Value) : w.grownBy (w1.setCell ⟨g, j, none⟩ u) (some g) := by
  refine ⟨h.os, h.tape, h.output, by simpa using h.size, fun i hi hn => ?_⟩
  rw [Below.heap_setCell _ _ _ _ (by intro e; exact hn (by simp [e]))]
  exact h.block i hi hn
theorem frm_then_alloc {w w1 : World} {row : Option Nat} (h : w.grownBy w1 row) (o : Obj) : w.grownBy (w1.alloc o) row := frm_trans h (frm_weak (frm_alloc _ _))
/-- A new block (from w's end on) may be written. -/
theorem frm_set_new {w w1 : World} {g : Nat} {row : Option Nat} (h : w.grownBy w1 row) (hg : w.heap.size ≤ g) (j : Nat) (u : Value) : w.grownBy (w1.setCell ⟨g, j, none⟩ u) row := by
  refine ⟨h.os, h.tape, h.output, by simpa using h.size, fun i hi hn => ?_⟩
  rw [Below.heap_setCell _ _ _ _ (show i ≠ g by omega)]
  exact h.block i hi hn
/-- What was written is a block of the callee's caller's own. -/
theorem frm_new {w w1 w2 : World} {g : Nat} {row : Option Nat} (h : w.grownBy w1 row) (hg : w.heap.size ≤ g) (h2 : w1.grownBy w2 (some g)) : w.grownBy w2 row := by
  refine ⟨h2.os.trans h.os, h2.tape.trans h.tape, h2.output.trans h.output, Nat.le_trans h.size h2.size, fun i hi hn => ?_⟩
  exact (h2.block i (Nat.lt_of_lt_of_le hi h.size) (by intro e; injection e with e; omega)).trans (h.block i hi hn)

theorem int_eq {k : IntKind} {a b : Int} (h : a = b) : Value.int k a = .int k b := by rw [h]
theorem OneAt.eq {w : World} {g : Nat} {a b : Int} {T : TypeId} (h : OneAt w g (.int .i64 a) T) (e : a = b) : OneAt w g (.int .i64 b) T := e ▸ h

/-! ### Opening a slice at an index -/
theorem Sl.at1 {α : Type} {S : Nat → Prop} {w : World} {r : α → List Value → Prop} {xs : List α} {A : Option Addr} {n c : Nat} (h : Sl S w 1 r xs (.slice A n c)) (i : Nat) (hi : i < xs.length) :
    ∃ b o v, A = some ⟨b, o, none⟩ ∧ S b ∧ w.cell? ⟨b, o + i, none⟩ = some v ∧ r xs[i] [v] := by
  obtain ⟨A', c', he, _, _, hp⟩ := h
  injection he with h1 h2 h3
  subst h1
  obtain ⟨b, o, ha, hb, hc⟩ := hp (by omega)
  obtain ⟨cs, hl, hcell, hr⟩ := hc i hi
  match cs, hl with
  | [v], _ => exact ⟨b, o, v, ha, hb, by simpa using hcell 0 (by omega), hr⟩
theorem Sl.at2 {α : Type} {S : Nat → Prop} {w : World} {r : α → List Value → Prop} {xs : List α} {A : Option Addr} {n c : Nat} (h : Sl S w 2 r xs (.slice A n c)) (i : Nat) (hi : i < xs.length) :
    ∃ b o v0 v1, A = some ⟨b, o, none⟩ ∧ S b ∧ w.cell? ⟨b, o + i * 2, none⟩ = some v0 ∧ w.cell? ⟨b, o + i * 2 + 1, none⟩ = some v1 ∧ r xs[i] [v0, v1] := by
  obtain ⟨A', c', he, _, _, hp⟩ := h
  injection he with h1 h2 h3
  subst h1
  obtain ⟨b, o, ha, hb, hc⟩ := hp (by omega)
  obtain ⟨cs, hl, hcell, hr⟩ := hc i hi
  match cs, hl with
  | [v0, v1], _ => exact ⟨b, o, v0, v1, ha, hb, by simpa using hcell 0 (by omega), by simpa using hcell 1 (by omega), hr⟩
theorem Sl.len {α : Type} {S : Nat → Prop} {w : World} {k : Nat} {r : α → List Value → Prop} {xs : List α} {A : Option Addr} {n c : Nat} (h : Sl S w k r xs (.slice A n c)) : n = xs.length := by
  obtain ⟨A', c', he, _, _, hp⟩ := h
  injection he
/-- A slice's value, its length being the list's. -/
theorem Sl.val {α : Type} {S : Nat → Prop} {w : World} {k : Nat} {r : α → List Value → Prop} {xs : List α} {v : Value} (h : Sl S w k r xs v) : ∃ A c, v = .slice A xs.length c ∧ xs.length ≤ c ∧ xs.length ≤ 140737488351232 := by
  obtain ⟨A, c, rfl, h1, h2, _⟩ := h
  exact ⟨A, c, rfl, h1, h2⟩
/-! ### What is read of an old world -/
abbrev TyO (w : World) : Ty → List Value → Prop := TyR (fun b => b < w.heap.size) w
abbrev SetO (w : World) : List Ty → List Value → Prop := SetR (fun b => b < w.heap.size) w
/-- A slice of the world's, its elements of `k` cells read by `r`. -/
abbrev SlO {α : Type} (w : World) (k : Nat) (r : World → α → List Value → Prop) (xs : List α) (v : Value) : Prop := Sl (fun b => b < w.heap.size) w k (r w) xs v
theorem TyO_mk {w : World} {st : Int} {args : List (List Ty)} {cs : List Value} :
    TyO w (.mk st args) cs ↔ ∃ v, cs = [.int .i64 st, v] ∧ -9223372036854775808 ≤ st ∧ st ≤ 9223372036854775807 ∧ SlO w 1 SetO args v := TyR_mk
/-- A reading that lives on in every later world. -/
def Stays {α : Type} (r : World → α → List Value → Prop) : Prop := ∀ w w' x cs, w.grownBy w' none → r w x cs → r w' x cs
theorem frm_lt {w w' : World} (h : w.grownBy w' none) : ∀ b, b < w.heap.size → w'.heap[b]? = w.heap[b]? := fun b hb => h.block b hb (by simp)
theorem stays_ty : Stays TyO := fun w w' x cs h hx => hx.move (fun b hb => Nat.lt_of_lt_of_le hb h.size) (frm_lt h)
theorem stays_set : Stays SetO := fun w w' x cs h hx => hx.move (fun b hb => Nat.lt_of_lt_of_le hb h.size) (frm_lt h)
theorem Sl.frm {α : Type} {w w' : World} {k : Nat} {r : World → α → List Value → Prop} {xs : List α} {v : Value} (h : SlO w k r xs v) (hf : w.grownBy w' none) (hr : Stays r) : SlO w' k r xs v :=
  h.move (fun b hb => Nat.lt_of_lt_of_le hb hf.size) (frm_lt hf) fun x _ cs hx => hr w w' x cs hf hx
theorem frm_cell {w w' : World} (h : w.grownBy w' none) {a : Addr} {v : Value} (hc : w.cell? a = some v) : w'.cell? a = some v := h.cell hc (by simp)
theorem SetO.sl {w : World} {ts : List Ty} {v : Value} (h : SetO w ts [v]) : SlO w 2 TyO ts v := by
  obtain ⟨v', hv, h⟩ := h
  obtain rfl : v = v' := by simpa using hv
  exact h
/-- A call that returns `v` and leaves all that was there alone. -/
def Ret (w : World) (v : Value) (e : Ending) (w' : World) : Prop := e = .returned v ∧ w.grownBy w' none
end Go.Proofs.YtmdgoalekkkpnaaDoor
