/- Plain words on memory; no program in sight. -/
import Derived.WalkKit
import Derived.Deep.Draws
import Derived.Deep.QuietTactic
import Derived.BigQuiet
import Derived.Lib.Hide
import Derived.Deep.LoopGhost
set_option linter.unusedVariables false
set_option linter.unusedSimpArgs false
namespace Go.Proofs.YtjpdmncafacmaaaGreatDoor
open Go.RowKit

/-- A slice value that reads as `xs`, each element of `k` cells read by `r`, its block being one of `S`. -/
def Sl {α : Type} (S : Nat → Prop) (w : World) (k : Nat) (r : α → List Value → Prop) (xs : List α) (v : Value) : Prop :=
  ∃ A c, v = .slice A xs.length c ∧ xs.length ≤ c ∧ xs.length ≤ 140737488351232 ∧
    (0 < xs.length → ∃ b o, A = some ⟨b, o, none⟩ ∧ S b ∧
      ∀ i (h : i < xs.length), ∃ cs, cs.length = k ∧ (∀ j, j < k → w.cell? ⟨b, o + i * k + j, none⟩ = cs[j]?) ∧ r xs[i] cs)

theorem Sl.move {α : Type} {S S' : Nat → Prop} {w w' : World} {k : Nat} {r r' : α → List Value → Prop} {xs : List α} {v : Value}
    (h : Sl S w k r xs v) (hS : ∀ b, S b → S' b) (hw : ∀ b, S b → w'.heap[b]? = w.heap[b]?) (hr : ∀ x ∈ xs, ∀ cs, r x cs → r' x cs) : Sl S' w' k r' xs v := by
  obtain ⟨A, c, rfl, hc, hm, hp⟩ := h
  refine ⟨A, c, rfl, hc, hm, fun h0 => ?_⟩
  obtain ⟨b, o, rfl, hb, hcs⟩ := hp h0
  refine ⟨b, o, rfl, hS b hb, fun i hi => ?_⟩
  obtain ⟨cs, hl, hcell, hrr⟩ := hcs i hi
  refine ⟨cs, hl, fun j hj => ?_, hr _ (List.getElem_mem hi) _ hrr⟩
  rw [← hcell j hj]
  exact World.cell?_of_block (hw b hb)

/-! ### Worlds -/
theorem frm_trans {w w1 w2 : World} {row : Option Nat} (h : w.grownBy w1 row) (h' : w1.grownBy w2 row) : w.grownBy w2 row := by
  refine ⟨h'.os.trans h.os, h'.tape.trans h.tape, h'.output.trans h.output, Nat.le_trans h.size h'.size, fun i hi hn => ?_⟩
  exact (h'.block i (Nat.lt_of_lt_of_le hi h.size) hn).trans (h.block i hi hn)
theorem frm_weak {w w1 : World} {row : Option Nat} (h : w.grownBy w1 none) : w.grownBy w1 row := ⟨h.os, h.tape, h.output, h.size, fun i hi hn => h.block i hi (by simp)⟩
theorem frm_alloc (w : World) (o : Obj) : w.grownBy (w.alloc o) none :=
  ⟨rfl, rfl, rfl, by simp, fun i hi _ => Below.heap_alloc _ _ _ hi⟩
theorem frm_drew (w : World) : w.grownBy w.drew none := ⟨rfl, rfl, rfl, Nat.le_refl _, fun i hi _ => rfl⟩
theorem frm_drewN (w : World) (n : Nat) : w.grownBy (w.drewN n) none := ⟨rfl, rfl, rfl, Nat.le_refl _, fun i hi _ => rfl⟩
theorem frm_refl (w : World) (row : Option Nat) : w.grownBy w row := ⟨rfl, rfl, rfl, Nat.le_refl _, fun i hi _ => rfl⟩

/-- A block of one cell, not frozen. -/
def OneAt (w : World) (g : Nat) (v : Value) (T : TypeId) : Prop := w.heap[g]? = some (.cells #[v] T (0, 0))
theorem OneAt.lt {w : World} {g : Nat} {v : Value} {T : TypeId} (h : OneAt w g v T) : g < w.heap.size := (Array.getElem?_eq_some_iff.1 h).1
theorem OneAt.cell {w : World} {g : Nat} {v : Value} {T : TypeId} (h : OneAt w g v T) : w.cell? ⟨g, 0, none⟩ = some v := by
  unfold OneAt at h
  simp [World.cell?, h]
theorem OneAt.free {w : World} {g : Nat} {v : Value} {T : TypeId} (h : OneAt w g v T) : w.frozen? ⟨g, 0, none⟩ = false := by
  unfold OneAt at h
  simp [World.frozen?, h]
theorem OneAt.set {w : World} {g : Nat} {v : Value} {T : TypeId} (h : OneAt w g v T) (u : Value) : OneAt (w.setCell ⟨g, 0, none⟩ u) g u T := by
  unfold OneAt at h ⊢
  simp [World.setCell, Array.getElem?_modify, h]
theorem OneAt.move {w w' : World} {g : Nat} {v : Value} {T : TypeId} (h : OneAt w g v T) (hw : w'.heap[g]? = w.heap[g]?) : OneAt w' g v T := hw.trans h
theorem OneAt.alloc {w : World} {g : Nat} {v : Value} {T : TypeId} (h : OneAt w g v T) (o : Obj) : OneAt (w.alloc o) g v T := h.move (Below.heap_alloc _ _ _ h.lt)
theorem OneAt.drew {w : World} {g : Nat} {v : Value} {T : TypeId} (h : OneAt w g v T) : OneAt w.drew g v T := h
theorem OneAt.new (w : World) (v : Value) (T : TypeId) : OneAt (w.alloc (.cells #[v] T)) w.heap.size v T := by
  show (w.heap.push _)[w.heap.size]? = _
  simp
theorem frm_set {w w1 : World} {g : Nat} (h : w.grownBy w1 (some g)) (j : Nat) (u : Value) : w.grownBy (w1.setCell ⟨g, j, none⟩ u) (some g) := by
  refine ⟨h.os, h.tape, h.output, by simpa using h.size, fun i hi hn => ?_⟩
  rw [Below.heap_setCell _ _ _ _ (by intro e; exact hn (by simp [e]))]
  exact h.block i hi hn
theorem frm_then_alloc {w w1 : World} {row : Option Nat} (h : w.grownBy w1 row) (o : Obj) : w.grownBy (w1.alloc o) row := frm_trans h (frm_weak (frm_alloc _ _))
/-- A new block (from w's end on) may be written. -/
theorem frm_set_new {w w1 : World} {g : Nat} {row : Option Nat} (h : w.grownBy w1 row) (hg : w.heap.size ≤ g) (j : Nat) (u : Value) : w.grownBy (w1.setCell ⟨g, j, none⟩ u) row := by
  refine ⟨h.os, h.tape, h.output, by simpa using h.size, fun i hi hn => ?_⟩
  rw [Below.heap_setCell _ _ _ _ (show i ≠ g by omega)]
  exact h.block i hi hn
/-- What was written is a block of the callee's caller's own. -/
theorem frm_new {w w1 w2 : World} {g : Nat} {row : Option Nat} (h : w.grownBy w1 row) (hg : w.heap.size ≤ g) (h2 : w1.grownBy w2 (some g)) : w.grownBy w2 row := by
  refine ⟨h2.os.trans h.os, h2.tape.trans h.tape, h2.output.trans h.output, Nat.le_trans h.size h2.size, fun i hi hn => ?_⟩
  exact (h2.block i (Nat.lt_of_lt_of_le hi h.size) (by intro e; injection e with e; omega)).trans (h.block i hi hn)

theorem int_eq {k : IntKind} {a b : Int} (h : a = b) : Value.int k a = .int k b := by rw [h]
theorem OneAt.eq {w : World} {g : Nat} {a b : Int} {T : TypeId} (h : OneAt w g (.int .i64 a) T) (e : a = b) : OneAt w g (.int .i64 b) T := e ▸ h

/-! ### Opening a slice at an index -/
theorem Sl.at1 {α : Type} {S : Nat → Prop} {w : World} {r : α → List Value → Prop} {xs : List α} {A : Option Addr} {n c : Nat} (h : Sl S w 1 r xs (.slice A n c)) (i : Nat) (hi : i < xs.length) :
    ∃ b o v, A = some ⟨b, o, none⟩ ∧ S b ∧ w.cell? ⟨b, o + i, none⟩ = some v ∧ r xs[i] [v] := by
  obtain ⟨A', c', he, _, _, hp⟩ := h
  injection he with h1 h2 h3
  subst h1
  obtain ⟨b, o, ha, hb, hc⟩ := hp (by omega)
  obtain ⟨cs, hl, hcell, hr⟩ := hc i hi
  match cs, hl with
  | [v], _ => exact ⟨b, o, v, ha, hb, by simpa using hcell 0 (by omega), hr⟩
theorem Sl.at2 {α : Type} {S : Nat → Prop} {w : World} {r : α → List Value → Prop} {xs : List α} {A : Option Addr} {n c : Nat} (h : Sl S w 2 r xs (.slice A n c)) (i : Nat) (hi : i < xs.length) :
    ∃ b o v0 v1, A = some ⟨b, o, none⟩ ∧ S b ∧ w.cell? ⟨b, o + i * 2, none⟩ = some v0 ∧ w.cell? ⟨b, o + i * 2 + 1, none⟩ = some v1 ∧ r xs[i] [v0, v1] := by
  obtain ⟨A', c', he, _, _, hp⟩ := h
  injection he with h1 h2 h3
  subst h1
  obtain ⟨b, o, ha, hb, hc⟩ := hp (by omega)
  obtain ⟨cs, hl, hcell, hr⟩ := hc i hi
  match cs, hl with
  | [v0, v1], _ => exact ⟨b, o, v0, v1, ha, hb, by simpa using hcell 0 (by omega), by simpa using hcell 1 (by omega), hr⟩
theorem Sl.len {α : Type} {S : Nat → Prop} {w : World} {k : Nat} {r : α → List Value → Prop} {xs : List α} {A : Option Addr} {n c : Nat} (h : Sl S w k r xs (.slice A n c)) : n = xs.length := by
  obtain ⟨A', c', he, _, _, hp⟩ := h
  injection he
/-- A slice's value, its length being the list's. -/
theorem Sl.val {α : Type} {S : Nat → Prop} {w : World} {k : Nat} {r : α → List Value → Prop} {xs : List α} {v : Value} (h : Sl S w k r xs v) : ∃ A c, v = .slice A xs.length c ∧ xs.length ≤ c ∧ xs.length ≤ 140737488351232 := by
  obtain ⟨A, c, rfl, h1, h2, _⟩ := h
  exact ⟨A, c, rfl, h1, h2⟩
/-! ### What is read of an old world -/
/-- A slice of the world's, its elements of `k` cells read by `r`. -/
abbrev SlO {α : Type} (w : World) (k : Nat) (r : World → α → List Value → Prop) (xs : List α) (v : Value) : Prop := Sl (fun b => b < w.heap.size) w k (r w) xs v
/-- A reading that lives on in every later world. -/
def Stays {α : Type} (r : World → α → List Value → Prop) : Prop := ∀ w w' x cs, w.grownBy w' none → r w x cs → r w' x cs
theorem frm_lt {w w' : World} (h : w.grownBy w' none) : ∀ b, b < w.heap.size → w'.heap[b]? = w.heap[b]? := fun b hb => h.block b hb (by simp)
theorem Sl.frm {α : Type} {w w' : World} {k : Nat} {r : World → α → List Value → Prop} {xs : List α} {v : Value} (h : SlO w k r xs v) (hf : w.grownBy w' none) (hr : Stays r) : SlO w' k r xs v :=
  h.move (fun b hb => Nat.lt_of_lt_of_le hb hf.size) (frm_lt hf) fun x _ cs hx => hr w w' x cs hf hx
theorem frm_cell {w w' : World} (h : w.grownBy w' none) {a : Addr} {v : Value} (hc : w.cell? a = some v) : w'.cell? a = some v := h.cell hc (by simp)
/-- A call that returns `v` and leaves all that was there alone. -/
def Ret (w : World) (v : Value) (e : Ending) (w' : World) : Prop := e = .returned v ∧ w.grownBy w' none
end Go.Proofs.YtjpdmncafacmaaaGreatDoor
