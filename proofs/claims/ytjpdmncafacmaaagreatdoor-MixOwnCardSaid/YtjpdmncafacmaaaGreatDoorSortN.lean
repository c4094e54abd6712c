/- slices.SortFunc at needs: the shelf's contract, and what it leaves of a row. -/
import Derived.Test.YtjpdmncafacmaaaGreatDoorUnf
import Derived.Test.YtjpdmncafacmaaaGreatDoorSortNd
import Derived.Shelf.SlSortCmp.WholeK
set_option linter.unusedVariables false
set_option linter.unusedSimpArgs false
namespace Go.Proofs.YtjpdmncafacmaaaGreatDoor
open Go.RowKit Go.Shelf Go.Sort

theorem heap_putRow {α : Type} [Inhabited α] (enc : α → Value) (w : World) (blk off : Nat) (d : Array α) (b : Nat) (hb : b ≠ blk) : (putRow enc w blk off d).heap[b]? = w.heap[b]? := by
  unfold putRow mapBlock
  simp only [Array.getElem?_modify]
  rw [if_neg (by omega)]
theorem sort_frameK {α : Type} [Inhabited α] (enc : α → List Value) (k : Nat) (w : World) (blk off m : Nat) (dk : Array α) (os : Array Obj) :
    GrewR w (sortWorldK enc k w blk off m dk os) (some blk) ∧ ∀ b, b < w.heap.size → b ≠ blk → (sortWorldK enc k w blk off m dk os).heap[b]? = w.heap[b]? := by
  have key : ∀ b, b < w.heap.size → b ≠ blk → (sortWorldK enc k w blk off m dk os).heap[b]? = w.heap[b]? := by
    intro b hb hne
    unfold sortWorldK
    have hs := size_putRowK enc k (Sort.ahead w m) blk off dk
    show ((putRowK enc k (Sort.ahead w m) blk off dk).heap ++ os)[b]? = _
    rw [Array.getElem?_append_left (by rw [hs]; exact hb)]
    exact heap_putRow _ _ _ _ _ b hne
  exact ⟨⟨⟨rfl, rfl, rfl, size_sortWorldK_c enc k w blk off m dk os, fun b hb hne => key b hb fun e => hne (by rw [e])⟩, Nat.le_add_right _ _⟩, key⟩
theorem grown_of_grew {w w' : World} (h : Grew w w') : ∃ q os', w' = grow (w.drewN q) os' := by
  obtain ⟨⟨h1, h2, h3, h4, h5⟩, h6⟩ := h
  refine ⟨w'.drawn - w.drawn, w'.heap.extract w.heap.size w'.heap.size, ?_⟩
  have hh : w'.heap = w.heap ++ w'.heap.extract w.heap.size w'.heap.size := by
    apply Array.ext'
    apply List.ext_getElem?
    intro i
    by_cases hi : i < w.heap.size
    · have := h5 i hi (by simp)
      simp only [Array.toList_append, Array.getElem?_toList]
      rw [List.getElem?_append_left (by simpa using hi), Array.getElem?_toList, this]
    · simp only [Array.toList_append, Array.getElem?_toList]
      rw [List.getElem?_append_right (by simpa using hi)]
      simp only [Array.length_toList, Array.getElem?_toList, Array.getElem?_extract]
      by_cases hi2 : i < w'.heap.size
      · rw [if_pos (by omega)]
        congr 1
        omega
      · rw [if_neg (by omega), Array.getElem?_eq_none (by omega)]
  obtain ⟨heap', tape', drawn', os2, out'⟩ := w'
  simp only at h1 h2 h3 h6 hh ⊢
  subst h1 h2 h3
  unfold grow
  have hd : (w.drewN (drawn' - w.drawn)) = { w with drawn := drawn' } := by
    rw [show drawn' = w.drawn + (drawn' - w.drawn) by omega]
    simp [World.drewN]
  rw [hd]
  congr 1
theorem swo_of {α β : Type} {f : α → α → Int} (h : Ord3 f) (p : β → α) : SWO (ltOf fun x y => f (p x) (p y)) where
  irrefl x := by
    show decide (f (p x) (p x) < 0) = false
    rw [h.refl]; rfl
  trans x y z h1 h2 := by
    have h1 : f (p x) (p y) < 0 := of_decide_eq_true h1
    have h2 : f (p y) (p z) < 0 := of_decide_eq_true h2
    exact decide_eq_true (h.lt_trans h1 h2)
  ntrans x y z h1 h2 := by
    have h1 : ¬ f (p x) (p y) < 0 := of_decide_eq_false h1
    have h2 : ¬ f (p y) (p z) < 0 := of_decide_eq_false h2
    refine decide_eq_false (p := f (p x) (p z) < 0) ?_
    have a1 := h.anti (p x) (p y)
    have a2 := h.anti (p y) (p z)
    have a3 := h.anti (p x) (p z)
    have := h.trans (p z) (p y) (p x) (by omega) (by omega)
    show ¬ f (p x) (p z) < 0
    omega
/-- A row that is sorted, as a list. -/
theorem sorted_list {α β : Type} [Inhabited β] {f : α → α → Int} (hO : Ord3 f) (p : β → α) {d d' : Array β} (hp : PermIn 0 d.size d d') (hs : SortedIn (ltOf fun x y => f (p x) (p y)) 0 d.size d') :
    d'.size = d.size ∧ (d'.toList.map p).Perm (d.toList.map p) ∧ (d'.toList.map p).Pairwise (fun x y => f x y ≤ 0) := by
  obtain ⟨hp1, hp2, hp3⟩ := hp
  refine ⟨hp1, ?_, ?_⟩
  · have e1 : d'.extract 0 d.size = d' := by rw [← hp1, Array.extract_size]
    have e2 : d.extract 0 d.size = d := by rw [Array.extract_size]
    rw [e1, e2] at hp3
    exact hp3.map _
  · rw [List.pairwise_iff_getElem]
    intro i j hi hj hij
    have hi' : i < d'.size := by simpa using hi
    have hj' : j < d'.size := by simpa using hj
    have h3 := hs i j (Nat.zero_le _) hij (by omega)
    have h4 : ¬ f (p d'[j]!) (p d'[i]!) < 0 := of_decide_eq_false h3
    rw [getElem!_pos _ i hi', getElem!_pos _ j hj'] at h4
    simp only [List.getElem_map, Array.getElem_toList]
    have := hO.anti (p d'[i]) (p d'[j])
    omega

/-- A small need. -/
abbrev SNd := {x : Nd // Nd.small x}
def encN (x : SNd) : List Value := [.int .i64 x.1.1, .int .i64 x.1.2]
instance : Inhabited SNd := ⟨⟨(0, 0), ⟨by decide, by decide⟩, by decide, by decide⟩⟩
theorem cmpLays_nd (w : World) (g n : Nat) : CmpLays Tryz.prog 73 #[] encN 2 (fun x y : SNd => Nd.cmp x.1 y.1) g 0 n w := by
  intro m os dk _ x y
  refine (before_calls x.1 y.1 x.2 y.2 _).mono ?_
  rintro e w' ⟨rfl, hg⟩
  exact ⟨rfl, grown_of_grew hg⟩
theorem attach_small : ∀ (xs : List Nd), (∀ x ∈ xs, Nd.small x) → ∃ d : List SNd, d.map (·.1) = xs
  | [], _ => ⟨[], rfl⟩
  | x :: xs, h => by
    obtain ⟨d, hd⟩ := attach_small xs fun y hy => h y (by simp [hy])
    exact ⟨⟨x, h x (by simp)⟩ :: d, by simp [hd]⟩

/-- A row that is sorted: a permutation of its needs, in order; nothing else is changed. -/
theorem sortN_calls {S : Nat → Prop} {w : World} {g cap : Nat} {xs : List Nd} (hg : g < w.heap.size) (hu : Unf w g) (hr : RowG 2 NdR S w g xs) (hsm : ∀ x ∈ xs, Nd.small x) (hlen : xs.length ≤ 140737488351232) :
    Calls Tryz.prog 103 #[.slice (some ⟨g, 0, none⟩) xs.length cap, .func (.func 73) #[] #[]] w fun e w' => e = .returned (.tuple #[]) ∧ GrewR w w' (some g) ∧ Unf w' g ∧
      ∃ xs', xs'.Perm xs ∧ xs'.Pairwise (fun x y => Nd.cmp x y ≤ 0) ∧ RowG 2 NdR S w' g xs' := by
  obtain ⟨dl, hdl⟩ := attach_small xs hsm
  obtain ⟨d, hd⟩ : ∃ d : Array SNd, d.toList = dl := ⟨dl.toArray, rfl⟩
  have hmap : d.toList.map (·.1) = xs := by rw [hd, hdl]
  have hds : d.size = xs.length := by rw [← hmap]; simp
  have hval : ∀ (d : Array SNd) (i : Nat) (h : i < d.size), (d[i]!).1 = (d.toList.map (·.1))[i]'(by simpa using h) := fun d i h => by
    rw [getElem!_pos _ i h]; simp
  have hH : HoldsK encN 2 w g 0 d := by
    intro j hj
    rw [size_flatK, hds] at hj
    rw [get_flatK _ _ _ _ (by rw [hds]; exact hj)]
    obtain ⟨cs, hl, hc, hx, hb⟩ := hr (j / 2) (by omega)
    have hv := hval d (j / 2) (by omega)
    have e : xs[j / 2]'(by omega) = (d[j / 2]!).1 := by rw [hv]; congr 1; exact hmap.symm
    refine ⟨?_, hu _⟩
    have := hc (j % 2) (by omega)
    rw [show j / 2 * 2 + j % 2 = j by omega] at this
    rw [Nat.zero_add, this, hx, e]
    rcases Nat.mod_two_eq_zero_or_one j with h | h <;> rw [h] <;> rfl
  have hcon := AnyQ.slices_SortFunc Tryz.sortNd 2 Tryz.isAgg80 Tryz.sizeOf80 encN (fun _ => rfl) (fun x v hv => by
      simp only [encN, List.mem_cons, List.not_mem_nil, or_false] at hv
      rcases hv with rfl | rfl <;> rfl) (fun x y : SNd => Nd.cmp x.1 y.1) (swo_of ord_nd _) 73 #[] g 0 cap d w (enters_of Tryz.func73 (by kernel_rfl) rfl) (cmpLays_nd w g d.size) hH hg (by rw [hds]; omega)
  rw [hds] at hcon
  refine Calls.mono hcon ?_
  rintro e w' ⟨rfl, d', n, os, hp, hs, rfl⟩
  rw [← hds] at hp hs
  obtain ⟨q1, q2, q3⟩ := sorted_list ord_nd (fun x : SNd => x.1) hp hs
  obtain ⟨hf, hk⟩ := sort_frameK encN 2 w g 0 n d' os
  have hH' : HoldsK encN 2 (sortWorldK encN 2 w g 0 n d' os) g 0 d' := holdsK_sortWorldK_c encN 2 w g 0 d d' n os hH hg (by rw [q1])
  refine ⟨rfl, hf, ?_, d'.toList.map (·.1), ?_, q3, ?_⟩
  · intro o
    unfold sortWorldK putRowK
    rw [frozen?_grow _ _ _ (by simpa [putRow, mapBlock] using hg), frozen?_putRow]
    exact hu o
  · rw [hmap] at q2; exact q2
  · intro i hi
    have hi' : i < d'.size := by simpa using hi
    have c0 := hH' (i * 2) (by rw [size_flatK]; omega)
    have c1 := hH' (i * 2 + 1) (by rw [size_flatK]; omega)
    rw [get_flatK _ _ _ _ (by omega), show i * 2 / 2 = i by omega, show i * 2 % 2 = 0 by omega, Nat.zero_add] at c0
    rw [get_flatK _ _ _ _ (by omega), show (i * 2 + 1) / 2 = i by omega, show (i * 2 + 1) % 2 = 1 by omega, Nat.zero_add] at c1
    have hx := hval d' i hi'
    refine ⟨encN d'[i]!, rfl, fun j hj => ?_, ?_⟩
    · match j, hj with
      | 0, _ => exact c0.1
      | 1, _ => exact c1.1
    · rw [← hx]
      have := (d'[i]!).2
      unfold Nd.small at this
      exact ⟨rfl, by omega, by omega⟩
end Go.Proofs.YtjpdmncafacmaaaGreatDoor
