/- slices.SortFunc at alternatives: the shelf's contract, and what it leaves of a row. -/
import Derived.Test.YtjpdmncafacmaaaGreatDoorSortN
import Derived.Test.YtjpdmncafacmaaaGreatDoorSortAlt
import Derived.Shelf.SlSortCmp.Whole1
set_option linter.unusedVariables false
set_option linter.unusedSimpArgs false
namespace Go.Proofs.YtjpdmncafacmaaaGreatDoor
open Go.RowKit Go.Shelf Go.Sort

theorem size_sortWorld1 {α : Type} [Inhabited α] (enc : α → Value) (w : World) (blk off m : Nat) (dk : Array α) (os : Array Obj) : w.heap.size ≤ (sortWorld enc w blk off m dk os).heap.size := by
  unfold sortWorld
  show _ ≤ ((putRow enc (Sort.ahead w m) blk off dk).heap ++ os).size
  rw [Array.size_append]
  simp [putRow, mapBlock, Sort.ahead]
theorem sort_frame1 {α : Type} [Inhabited α] (enc : α → Value) (w : World) (blk off m : Nat) (dk : Array α) (os : Array Obj) :
    GrewR w (sortWorld enc w blk off m dk os) (some blk) ∧ ∀ b, b < w.heap.size → b ≠ blk → (sortWorld enc w blk off m dk os).heap[b]? = w.heap[b]? := by
  have key : ∀ b, b < w.heap.size → b ≠ blk → (sortWorld enc w blk off m dk os).heap[b]? = w.heap[b]? := by
    intro b hb hne
    unfold sortWorld
    have hs : (putRow enc (Sort.ahead w m) blk off dk).heap.size = w.heap.size := by simp [putRow, mapBlock, Sort.ahead]
    show ((putRow enc (Sort.ahead w m) blk off dk).heap ++ os)[b]? = _
    rw [Array.getElem?_append_left (by rw [hs]; exact hb)]
    exact heap_putRow _ _ _ _ _ b hne
  exact ⟨⟨⟨rfl, rfl, rfl, size_sortWorld1 enc w blk off m dk os, fun b hb hne => key b hb fun e => hne (by rw [e])⟩, Nat.le_add_right _ _⟩, key⟩

/-- An alternative as it lies in a row: its cell, and the needs that it reads as. -/
def SAl (S : Nat → Prop) (w : World) := {p : Value × List Nd // WR AltR S w p.2 [p.1] ∧ ∀ x ∈ p.2, Nd.small x}
def encA {S : Nat → Prop} {w : World} (x : SAl S w) : Value := x.1.1
theorem cmpLays_alt {S : Nat → Prop} {w : World} {g n : Nat} (hS : ∀ b, S b → b < w.heap.size ∧ b ≠ g) [Inhabited (SAl S w)] :
    CmpLays1 Tryz.prog 75 #[] (encA (S := S) (w := w)) (fun x y => cmpL Nd.cmp x.1.2 y.1.2) g 0 n w := by
  intro m os dk _ x y
  obtain ⟨hf, hk⟩ := sort_frame1 (encA (S := S) (w := w)) w g 0 m dk os
  have hmv : ∀ {t : List Nd} {cs : List Value}, WR AltR S w t cs → rdO AltR (sortWorld encA w g 0 m dk os) t cs := fun h =>
    WR.rd moves_alt (moves_WR moves_alt _ _ _ _ _ _ (fun b hb => Nat.lt_of_lt_of_le (hS b hb).1 hf.1.size) (fun b hb => hk b (hS b hb).1 (hS b hb).2) h)
  refine (lists_calls x.1.2 y.1.2 x.2.2 y.2.2 _ _ _ (hmv x.2.1) (hmv y.2.1)).mono ?_
  rintro e w' ⟨rfl, hg⟩
  exact ⟨rfl, grown_of_grew hg⟩

/-- A row that is sorted: a permutation of its alternatives, in order; nothing else is changed. -/
theorem sortA_calls {S : Nat → Prop} {w : World} {g cap : Nat} {xs : List (List Nd)} (hS : ∀ b, S b → b < w.heap.size ∧ b ≠ g) (hg : g < w.heap.size) (hu : Unf w g) (hr : RowG 1 (WR AltR) S w g xs) (hsm : ∀ l ∈ xs, ∀ x ∈ l, Nd.small x) (h0 : 0 < xs.length) (hlen : xs.length ≤ 140737488351232) :
    Calls Tryz.prog 86 #[.slice (some ⟨g, 0, none⟩) xs.length cap, .func (.func 75) #[] #[]] w fun e w' => e = .returned (.tuple #[]) ∧ GrewR w w' (some g) ∧ Unf w' g ∧
      ∃ xs', xs'.Perm xs ∧ xs'.Pairwise (fun x y => cmpL Nd.cmp x y ≤ 0) ∧ RowG 1 (WR AltR) S w' g xs' := by
  have hch : ∀ i : Fin xs.length, ∃ p : SAl S w, p.1.2 = xs[i] ∧ w.cell? ⟨g, i.1, none⟩ = some p.1.1 := fun i => by
    obtain ⟨cs, hl, hc, hx⟩ := hr i.1 i.2
    match cs, hl with
    | [v], _ => exact ⟨⟨(v, xs[i]), hx, hsm _ (List.getElem_mem i.2)⟩, rfl, by simpa using hc 0 (by omega)⟩
  haveI : Inhabited (SAl S w) := ⟨Classical.choose (hch ⟨0, h0⟩)⟩
  obtain ⟨d, hds, hdd⟩ : ∃ d : Array (SAl S w), d.size = xs.length ∧ ∀ i (h : i < xs.length), (d[i]!).1.2 = xs[i] ∧ w.cell? ⟨g, i, none⟩ = some (d[i]!).1.1 := by
    refine ⟨Array.ofFn fun i : Fin xs.length => Classical.choose (hch i), by simp, fun i h => ?_⟩
    have : (Array.ofFn fun i : Fin xs.length => Classical.choose (hch i))[i]! = Classical.choose (hch ⟨i, h⟩) := by
      rw [getElem!_pos _ i (by simpa using h)]
      simp
    rw [this]
    exact Classical.choose_spec (hch ⟨i, h⟩)
  have hmap : d.toList.map (fun x => x.1.2) = xs := by
    apply List.ext_getElem
    · simp [hds]
    · intro i h1 h2
      have := (hdd i h2).1
      rw [getElem!_pos _ i (by omega)] at this
      simpa using this
  have hH : Holds (encA (S := S) (w := w)) w g 0 d := by
    intro j hj
    have := (hdd j (by omega)).2
    exact ⟨by simpa [encA] using this, hu _⟩
  have hcon := Any.slices_SortFunc Tryz.sortAlt (encA (S := S) (w := w)) (fun x => by
      obtain ⟨⟨v, l⟩, h, _⟩ := x
      obtain ⟨v', he, A, c, rfl, _⟩ := h
      simp only [List.cons.injEq, and_true] at he
      subst he
      rfl) (fun x y : SAl S w => cmpL Nd.cmp x.1.2 y.1.2) (swo_of ord_alt _) 75 #[] g 0 cap d w (enters_of Tryz.func75 (by kernel_rfl) rfl) (cmpLays_alt hS) hH hg (by rw [hds]; omega)
  rw [hds] at hcon
  refine Calls.mono hcon ?_
  rintro e w' ⟨rfl, d', n, os, hp, hs, rfl⟩
  rw [← hds] at hp hs
  obtain ⟨q1, q2, q3⟩ := sorted_list ord_alt (fun x : SAl S w => x.1.2) hp hs
  obtain ⟨hf, hk⟩ := sort_frame1 (encA (S := S) (w := w)) w g 0 n d' os
  have hH' : Holds encA (sortWorld encA w g 0 n d' os) g 0 d' := holds_sortWorld encA w g 0 n d d' os hg hH (by rw [q1])
  refine ⟨rfl, hf, ?_, d'.toList.map (fun x => x.1.2), ?_, q3, ?_⟩
  · intro o
    unfold sortWorld
    rw [frozen?_grow _ _ _ (by simpa [putRow, mapBlock] using hg), frozen?_putRow]
    exact hu o
  · rw [hmap] at q2; exact q2
  · intro i hi
    have hi' : i < d'.size := by simpa using hi
    have c0 := hH' i hi'
    rw [Nat.zero_add] at c0
    refine ⟨[encA d'[i]!], rfl, fun j hj => ?_, ?_⟩
    · obtain rfl : j = 0 := by omega
      rw [Nat.mul_one, Nat.add_zero]
      exact c0.1
    · have e : (d'.toList.map (fun x => x.1.2))[i] = (d'[i]!).1.2 := by rw [getElem!_pos _ i hi']; simp
      rw [e]
      exact moves_WR moves_alt _ _ _ _ _ _ (fun b hb => hb) (fun b hb => hk b (hS b hb).1 (hS b hb).2) (d'[i]!).2.1
end Go.Proofs.YtjpdmncafacmaaaGreatDoor
