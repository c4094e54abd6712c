/- Blocks that may be written; rows in place. -/
import Derived.Test.YtjpdmncafacmaaaGreatDoorACheck
import Derived.Test.YtjpdmncafacmaaaGreatDoorSetP
set_option linter.unusedVariables false
set_option linter.unusedSimpArgs false
namespace Go.Proofs.YtjpdmncafacmaaaGreatDoor
open Go.RowKit

/-- No cell of the block is frozen. -/
def Unf (w : World) (b : Nat) : Prop := ∀ o, w.frozen? ⟨b, o, none⟩ = false
theorem Unf.move {w w' : World} {b : Nat} (h : Unf w b) (hw : w'.heap[b]? = w.heap[b]?) : Unf w' b := fun o => by
  have := h o
  unfold World.frozen? at *
  rw [hw]
  exact this
theorem Unf.set {w : World} {b : Nat} (h : Unf w b) (a : Addr) (v : Value) : Unf (w.setCell a v) b := fun o => by rw [World.frozen?_setCell]; exact h o
theorem Unf.sets {w : World} {b : Nat} (h : Unf w b) (g o : Nat) (vs : List Value) : Unf (w.setCells g o vs) b := fun o => by rw [World.frozen?_setCells]; exact h o
/-- A reading in blocks that may be written. -/
def WR {α : Type} (r : RdS α) : RdS α := fun S w x cs => r (fun b => S b ∧ Unf w b) w x cs
theorem moves_WR {α : Type} {r : RdS α} (hr : Moves r) : Moves (WR r) := fun S S' w w' x cs hS hw h =>
  hr _ _ _ _ _ _ (fun b hb => ⟨hS b hb.1, hb.2.move (hw b hb.1)⟩) (fun b hb => hw b hb.1) h
theorem WR.rd {α : Type} {r : RdS α} (hr : Moves r) {S : Nat → Prop} {w : World} {x : α} {cs : List Value} (h : WR r S w x cs) : r S w x cs :=
  hr _ _ _ _ _ _ (fun b hb => hb.1) (fun _ _ => rfl) h
theorem Own.unf {α : Type} {r : RdS α} {w : World} {base e k : Nat} {ok : Nat → Prop} {v : Value} {xs : List α} (h : Own r w base e k ok v xs) : ∀ b, v.ownBlock = some b → Unf w b := by
  intro b hb
  obtain ⟨inner, ⟨hl, ho⟩, _⟩ := h
  rcases ho with ⟨rfl, _⟩ | ⟨g, cap, cur, rfl, _, hg, _⟩
  · cases hb
  · injection hb with hb
    subst hb
    intro o
    simp [World.frozen?, hg]
/-- A row of the call's own reads, no block being frozen. -/
theorem Own.slW {α : Type} {r : RdS α} (hr : Moves r) {w : World} {base e k : Nat} {ok : Nat → Prop} {v : Value} {xs : List α} (h : Own (WR r) w base e k ok v xs)
    (hm : xs.length ≤ 140737488351232) {S : Nat → Prop} (hS : ∀ b, ok b → b < w.heap.size → S b) (hB : ∀ b, v.ownBlock = some b → S b) : WR (RowS k r) S w xs [v] := by
  have hu := h.unf
  obtain ⟨A, c, he, hc, _, hp⟩ := h.sl2 (moves_WR hr) hm hS hB
  refine ⟨v, rfl, A, c, he, hc, hm, fun h0 => ?_⟩
  obtain ⟨b, o, ha, hb, hcs⟩ := hp h0
  exact ⟨b, o, ha, ⟨hb, hu b (by rw [he, ha]; rfl)⟩, hcs⟩

/-! ### New blocks, and writes to one row -/
def GrewR (w w' : World) (row : Option Nat) : Prop := w.grownBy w' row ∧ w.drawn ≤ w'.drawn
theorem grewR_refl (w : World) (row : Option Nat) : GrewR w w row := ⟨frm_refl _ _, Nat.le_refl _⟩
theorem grewR_trans {w w1 w2 : World} {row : Option Nat} (h : GrewR w w1 row) (h' : GrewR w1 w2 row) : GrewR w w2 row := ⟨frm_trans h.1 h'.1, Nat.le_trans h.2 h'.2⟩
theorem grewR_weak {w w1 : World} {row : Option Nat} (h : Grew w w1) : GrewR w w1 row := ⟨frm_weak h.1, h.2⟩
theorem grew_new {w w1 w2 : World} {g : Nat} (h : Grew w w1) (hg : w.heap.size ≤ g) (h2 : GrewR w1 w2 (some g)) : Grew w w2 := ⟨frm_new h.1 hg h2.1, Nat.le_trans h.2 h2.2⟩
theorem grewR_set {w w1 : World} {g : Nat} (h : GrewR w w1 (some g)) (j : Nat) (u : Value) : GrewR w (w1.setCell ⟨g, j, none⟩ u) (some g) := ⟨frm_set h.1 j u, h.2⟩
theorem heap_setCells (b b' : Nat) (hne : b' ≠ b) : ∀ (vs : List Value) (o : Nat) (w : World), (w.setCells b o vs).heap[b']? = w.heap[b']?
  | [], _, _ => rfl
  | v :: vs, o, w => by rw [World.setCells, heap_setCells b b' hne vs, Below.heap_setCell _ _ _ _ hne]
theorem frm_setCells {w w1 : World} {g : Nat} (h : w.grownBy w1 (some g)) : ∀ (vs : List Value) (o : Nat), w.grownBy (w1.setCells g o vs) (some g) := by
  intro vs
  induction vs generalizing w1 with
  | nil => intro o; exact h
  | cons v vs ih =>
    intro o
    rw [World.setCells]
    exact ih (frm_set h o v) _
theorem drawn_setCells (g : Nat) : ∀ (vs : List Value) (o : Nat) (w : World), (w.setCells g o vs).drawn = w.drawn
  | [], _, _ => rfl
  | v :: vs, o, w => by rw [World.setCells, drawn_setCells g vs]; rfl
theorem grewR_setCells {w w1 : World} {g : Nat} (h : GrewR w w1 (some g)) (o : Nat) (vs : List Value) : GrewR w (w1.setCells g o vs) (some g) := ⟨frm_setCells h.1 vs o, by rw [drawn_setCells]; exact h.2⟩
theorem grew_own {w wr w7 : World} {v : Value} (h : Grew w wr) (hl : ∀ b, v.ownBlock = some b → w.heap.size ≤ b) (hg : wr.grownBy w7 v.ownBlock) (hd : wr.drawn ≤ w7.drawn) : Grew w w7 := ⟨frm_own h.1 hl hg, Nat.le_trans h.2 hd⟩

/-! ### Rows in place -/
/-- A row in block `g`, from its head on: elements of `k` cells. -/
def RowG {α : Type} (k : Nat) (r : RdS α) (S : Nat → Prop) (w : World) (g : Nat) (xs : List α) : Prop :=
  ∀ i (h : i < xs.length), ∃ cs, cs.length = k ∧ (∀ j, j < k → w.cell? ⟨g, i * k + j, none⟩ = cs[j]?) ∧ r S w xs[i] cs
theorem RowG.move {α : Type} {k : Nat} {r : RdS α} (hr : Moves r) {S S' : Nat → Prop} {w w' : World} {g : Nat} {xs : List α} (h : RowG k r S w g xs) (hS : ∀ b, S b → S' b) (hw : ∀ b, S b → w'.heap[b]? = w.heap[b]?) (hg : w'.heap[g]? = w.heap[g]?) : RowG k r S' w' g xs := by
  intro i hi
  obtain ⟨cs, hl, hc, hx⟩ := h i hi
  exact ⟨cs, hl, fun j hj => (World.cell?_of_block hg).trans (hc j hj), hr _ _ _ _ _ _ hS hw hx⟩
theorem RowG.frm {α : Type} {k : Nat} {r : RdS α} (hr : Moves r) {S : Nat → Prop} {w w' : World} {g : Nat} {xs : List α} (h : RowG k r S w g xs) (hS : ∀ b, S b → b < w.heap.size) (hg : g < w.heap.size) (hf : w.grownBy w' none) : RowG k r S w' g xs :=
  h.move hr (fun _ hb => hb) (fun b hb => frm_lt hf b (hS b hb)) (frm_lt hf g hg)
theorem Own.rowG {α : Type} {r : RdS α} {w : World} {base e k g n c : Nat} {ok : Nat → Prop} {xs : List α} (h : Own r w base e k ok (.slice (some ⟨g, 0, none⟩) n c) xs) :
    RowG k r (Sup ok w (.slice (some ⟨g, 0, none⟩) n c)) w g xs := by
  intro i hi
  obtain ⟨inner, ⟨hl, ho⟩, h1, hx⟩ := h
  rcases ho with ⟨he, hn⟩ | ⟨g', cap, cur, he, hb, hg, hnc, hcm, hcs, htake⟩
  · cases he
  · injection he with e1 e2 e3
    injection e1 with e1
    injection e1 with e1
    subst e1
    obtain ⟨cs, hcl, hcc, hr⟩ := hx i hi
    refine ⟨cs, hcl, fun j hj => ?_, hr⟩
    have hik : i * k + j < xs.length * k := by
      have : (i + 1) * k ≤ xs.length * k := Nat.mul_le_mul_right _ hi
      rw [Nat.add_mul] at this
      omega
    rw [← hcc j hj, ← htake, List.getElem?_take, if_pos hik]
    simp [World.cell?, hg]
/-- A row of the call's own is nil and empty, or a slice from a block's head on. -/
theorem Own.cases {α : Type} {r : RdS α} {w : World} {base e k : Nat} {ok : Nat → Prop} {v : Value} {xs : List α} (h : Own r w base e k ok v xs) :
    (v = .slice none 0 0 ∧ xs = []) ∨ ∃ g c, v = .slice (some ⟨g, 0, none⟩) xs.length c ∧ xs.length ≤ c ∧ base ≤ g ∧ g < w.heap.size := by
  have hlt := h.lt
  obtain ⟨inner, ⟨hl, ho⟩, _⟩ := h
  rcases ho with ⟨h, h0⟩ | ⟨g, cap, cur, h, _, _, h3, _⟩
  · exact .inl ⟨h, List.eq_nil_of_length_eq_zero h0⟩
  · exact .inr ⟨g, cap, h, h3, hlt g (by rw [h]; rfl)⟩
/-- The row reads as a slice. -/
theorem RowG.sl {α : Type} {k : Nat} {r : RdS α} {S : Nat → Prop} {w : World} {g c : Nat} {xs : List α} (h : RowG k r S w g xs) (hc : xs.length ≤ c) (hm : xs.length ≤ 140737488351232) (hg : S g) : Sl S w k (r S w) xs (.slice (some ⟨g, 0, none⟩) xs.length c) :=
  ⟨_, c, rfl, hc, hm, fun _ => ⟨g, 0, rfl, hg, fun i hi => by simpa using h i hi⟩⟩
end Go.Proofs.YtjpdmncafacmaaaGreatDoor
