/- What the reference makes of two automata. -/
import Derived.Test.YtjpdmncafacmaaaGreatDoorRefMvs
set_option linter.unusedVariables false
set_option linter.unusedSimpArgs false
namespace Go.Proofs.YtjpdmncafacmaaaGreatDoor
open Go.RowKit

/-! ### Worlds that are as they were but for some old blocks -/
structure GrewP (Q : Nat → Prop) (w w' : World) : Prop where
  os : w'.os = w.os
  tape : w'.tape = w.tape
  output : w'.output = w.output
  size : w.heap.size ≤ w'.heap.size
  drawn : w.drawn ≤ w'.drawn
  block : ∀ b, b < w.heap.size → Q b → w'.heap[b]? = w.heap[b]?
section
variable {Q : Nat → Prop} {w w1 w2 : World}
theorem GrewP.refl (Q : Nat → Prop) (w : World) : GrewP Q w w := ⟨rfl, rfl, rfl, Nat.le_refl _, Nat.le_refl _, fun _ _ _ => rfl⟩
theorem GrewP.trans (h : GrewP Q w w1) (h' : GrewP Q w1 w2) : GrewP Q w w2 :=
  ⟨h'.os.trans h.os, h'.tape.trans h.tape, h'.output.trans h.output, Nat.le_trans h.size h'.size, Nat.le_trans h.drawn h'.drawn, fun b hb hq => (h'.block b (Nat.lt_of_lt_of_le hb h.size) hq).trans (h.block b hb hq)⟩
theorem GrewP.of (h : Grew w w1) : GrewP Q w w1 := ⟨h.1.os, h.1.tape, h.1.output, h.1.size, h.2, fun b hb _ => frm_lt h.1 b hb⟩
theorem GrewP.step (h : GrewP Q w w1) (h' : Grew w1 w2) : GrewP Q w w2 := h.trans (.of h')
theorem GrewP.row (h : GrewP Q w w1) {row : Option Nat} (h' : GrewR w1 w2 row) (hr : ∀ b, row = some b → w.heap.size ≤ b ∨ ¬ Q b) : GrewP Q w w2 :=
  ⟨h'.1.os.trans h.os, h'.1.tape.trans h.tape, h'.1.output.trans h.output, Nat.le_trans h.size h'.1.size, Nat.le_trans h.drawn h'.2, fun b hb hq => (h'.1.block b (Nat.lt_of_lt_of_le hb h.size) (fun e => by
    rcases hr b e.symm with h | h
    · omega
    · exact h hq)).trans (h.block b hb hq)⟩
theorem GrewP.set (h : GrewP Q w w1) {g : Nat} (o : Nat) (v : Value) (hg : ¬ Q g) : GrewP Q w (w1.setCell ⟨g, o, none⟩ v) :=
  ⟨h.os, h.tape, h.output, by simpa using h.size, h.drawn, fun b hb hq => (Below.heap_setCell _ _ _ _ (show b ≠ g from fun e => hg (e ▸ hq))).trans (h.block b hb hq)⟩
theorem GrewP.grew {w0 : World} (h0 : Grew w0 w) (hQ : ∀ b, b < w0.heap.size → Q b) (h : GrewP Q w w1) : Grew w0 w1 :=
  ⟨⟨h.os.trans h0.1.os, h.tape.trans h0.1.tape, h.output.trans h0.1.output, Nat.le_trans h0.1.size h.size, fun b hb hne => (h.block b (Nat.lt_of_lt_of_le hb h0.1.size) (hQ b hb)).trans (h0.1.block b hb hne)⟩, Nat.le_trans h0.2 h.drawn⟩
theorem GrewP.cell (h : GrewP Q w w1) {b o : Nat} (hq : Q b) {v : Value} (hc : w.cell? ⟨b, o, none⟩ = some v) : w1.cell? ⟨b, o, none⟩ = some v :=
  (World.cell?_of_block (h.block b (by have := World.block_lt_of_cell? _ _ hc; exact this) hq)).trans hc
end

theorem WR.mv {α : Type} {r : RdS α} (hr : Moves r) {S S' : Nat → Prop} {w w' : World} {x : α} {cs : List Value} (h : WR r S w x cs) (hS : ∀ b, S b → S' b) (hw : ∀ b, S b → w'.heap[b]? = w.heap[b]?) : WR r S' w' x cs :=
  moves_WR hr _ _ _ _ _ _ hS hw h

/-- The states' new numbers. -/
def toB (a b : Au) : List Int := (List.range b.moves.length).map fun q => a.n + (q : Nat)
def rSecond (a b : Au) (f : Nat) : List (List Nd) := rmv (toL (toB a b)) (b.alts b.start.toNat f)
def startL (and : Bool) (x y : List (List Nd)) : List (List Nd) := if and then x.flatMap fun l => y.map (uni l) else x ++ y
def rJoinAt (and : Bool) (a b : Au) (f : Nat) : List (List Nd) := altSet (startL and (a.alts a.start.toNat f) (rSecond a b f))
def rJoinA (and : Bool) (a b : Au) : Au := ⟨a.ranks, a.n + b.n, (a.moves ++ b.moves.map (·.map (rmv (toL (toB a b))))) ++ [(List.range a.ranks.length).map (rJoinAt and a b)]⟩
def rJoinE (and : Bool) (a b : Au) : Int := if a.okR = false ∨ b.okR = false then 10 else if a.ranks = b.ranks then (if (rJoinA and a b).okR then 0 else 3) else 2
def rJoinV (and : Bool) (a b : Au) : Au := if rJoinE and a b = 0 then rJoinA and a b else Au.zero
theorem ok_state {a : Au} (h : a.ok = true) : ∀ row ∈ a.moves, ∀ alts ∈ row, ∀ l ∈ alts, ∀ x ∈ l, 0 ≤ x.2 ∧ x.2 < a.moves.length := by
  intro row hrow alts halts l hl x hx
  obtain ⟨_, _, _, _, _, h6⟩ := ok_parts h
  obtain ⟨hlen, hs⟩ := h6 row hrow
  obtain ⟨f, hf, rfl⟩ := List.getElem_of_mem halts
  obtain ⟨_, _, q3⟩ := symOk_parts (hs f hf (by omega))
  have := (q3 l hl).2.2 x hx
  unfold Au.n at this
  omega
theorem alts_eq {a : Au} {q f : Nat} (hq : q < a.moves.length) (hf : f < (a.moves[q]).length) : a.alts q f = (a.moves[q])[f] := by
  unfold Au.alts
  rw [List.getD_eq_getElem?_getD, List.getD_eq_getElem?_getD, List.getElem?_eq_getElem hq, Option.getD_some, List.getElem?_eq_getElem hf, Option.getD_some]
theorem rmv_len (f : Nd → Nd) (l : List (List Nd)) : (rmv f l).length ≤ l.length := by
  have h := setL_len (cmpL Nd.cmp) (l.map fun x => ndSet (x.map f))
  rw [List.length_map] at h
  exact h
theorem rmv_each {f : Nd → Nd} {l : List (List Nd)} {n : Nat} (h : ∀ x ∈ l, x.length ≤ n) : ∀ x ∈ rmv f l, x.length ≤ n := by
  intro x hx
  have hx2 := (setL_mem ord_alt _ _).1 hx
  obtain ⟨y, hy, rfl⟩ := List.mem_map.1 hx2
  refine Nat.le_trans (ndSet_len _) ?_
  rw [List.length_map]
  exact h y hy
end Go.Proofs.YtjpdmncafacmaaaGreatDoor
