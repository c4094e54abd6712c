/- slices.SortFunc at types: the shelf's contract, and what it leaves of a row. -/
import Derived.Test.YtmdgoalekkkpnaaDoorCmpD
import Derived.Test.YtmdgoalekkkpnaaDoorSetP
import Derived.Test.YtmdgoalekkkpnaaDoorOrder
import Derived.Test.YtmdgoalekkkpnaaDoorOwn
import Derived.Test.YtmdgoalekkkpnaaDoorSortShelf
import Derived.Shelf.SlSortCmp.WholeK
set_option linter.unusedVariables false
set_option linter.unusedSimpArgs false
namespace Go.Proofs.YtmdgoalekkkpnaaDoor
open Go.RowKit Go.Shelf Go.Sort

theorem ord_ty : Ord3 Ty.cmp := ⟨fun x y => Ty.cmp_anti x y, fun x y z h1 h2 => (Ty.cmp_trans x y z h1 h2).1, Ty.cmp_eq0⟩

/-- A row of types in block `g`, from its head on; the cells may be written. -/
def RowT (S : Nat → Prop) (w : World) (g : Nat) (ts : List Ty) : Prop :=
  ∀ i (h : i < ts.length), ∃ v0 v1, w.cell? ⟨g, i * 2, none⟩ = some v0 ∧ w.cell? ⟨g, i * 2 + 1, none⟩ = some v1 ∧ w.frozen? ⟨g, i * 2, none⟩ = false ∧ w.frozen? ⟨g, i * 2 + 1, none⟩ = false ∧ TyR S w ts[i] [v0, v1]

theorem Own.rowT {w : World} {base e g n c : Nat} {ok : Nat → Prop} {ts : List Ty} (h : Own TyR w base e 2 ok (.slice (some ⟨g, 0, none⟩) n c) ts) :
    RowT (Sup ok w (.slice (some ⟨g, 0, none⟩) n c)) w g ts := by
  intro i hi
  obtain ⟨inner, ⟨hl, ho⟩, h1, hx⟩ := h
  rcases ho with ⟨he, hn⟩ | ⟨g', cap, cur, he, hb, hg, hnc, hcm, hcs, htake⟩
  · omega
  · injection he with e1 e2 e3
    injection e1 with e1
    injection e1 with e1
    subst e1
    obtain ⟨cs, hcl, hcc, hr⟩ := hx i hi
    match cs, hcl with
    | [v0, v1], _ =>
      have hcell : ∀ j, j < ts.length * 2 → w.cell? ⟨g, j, none⟩ = inner[j]? := fun j hj => by
        rw [← htake, List.getElem?_take, if_pos hj]
        simp [World.cell?, hg]
      refine ⟨v0, v1, ?_, ?_, by simp [World.frozen?, hg], by simp [World.frozen?, hg], hr⟩
      · rw [hcell _ (by omega)]; simpa using hcc 0 (by omega)
      · rw [hcell _ (by omega)]; simpa using hcc 1 (by omega)

/-- An element of a row that is to be sorted: its cells, and the type that they read as. -/
def Elt (S : Nat → Prop) (w : World) := {p : (Value × Value) × Ty // TyR S w p.2 [p.1.1, p.1.2]}
def encE {S : Nat → Prop} {w : World} (x : Elt S w) : List Value := [x.1.1.1, x.1.1.2]
def cfE {S : Nat → Prop} {w : World} (x y : Elt S w) : Int := Ty.cmp x.1.2 y.1.2
theorem lt_cf {S : Nat → Prop} {w : World} (x y : Elt S w) : ltOf (cfE (S := S) (w := w)) x y = decide (Ty.cmp x.1.2 y.1.2 < 0) := rfl
theorem swo_ty {S : Nat → Prop} {w : World} : SWO (ltOf (cfE (S := S) (w := w))) where
  irrefl x := by rw [lt_cf, Ty.cmp_self]; rfl
  trans x y z h1 h2 := by
    rw [lt_cf, decide_eq_true_eq] at *
    exact ord_ty.lt_trans h1 h2
  ntrans x y z h1 h2 := by
    rw [lt_cf, decide_eq_false_iff_not] at *
    have a1 := Ty.cmp_anti x.1.2 y.1.2
    have a2 := Ty.cmp_anti y.1.2 z.1.2
    have a3 := Ty.cmp_anti x.1.2 z.1.2
    have := (Ty.cmp_trans z.1.2 y.1.2 x.1.2 (by omega) (by omega)).1
    omega

theorem heap_putRow {α : Type} [Inhabited α] (enc : α → Value) (w : World) (blk off : Nat) (d : Array α) (b : Nat) (hb : b ≠ blk) : (putRow enc w blk off d).heap[b]? = w.heap[b]? := by
  unfold putRow mapBlock
  simp only [Array.getElem?_modify]
  rw [if_neg (by omega)]
theorem sort_frame {α : Type} [Inhabited α] (enc : α → List Value) (k : Nat) (w : World) (blk off m : Nat) (dk : Array α) (os : Array Obj) :
    w.grownBy (sortWorldK enc k w blk off m dk os) (some blk) ∧ ∀ b, b < w.heap.size → b ≠ blk → (sortWorldK enc k w blk off m dk os).heap[b]? = w.heap[b]? := by
  have key : ∀ b, b < w.heap.size → b ≠ blk → (sortWorldK enc k w blk off m dk os).heap[b]? = w.heap[b]? := by
    intro b hb hne
    unfold sortWorldK
    have hs := size_putRowK enc k (Sort.ahead w m) blk off dk
    show ((putRowK enc k (Sort.ahead w m) blk off dk).heap ++ os)[b]? = _
    rw [Array.getElem?_append_left (by rw [hs]; exact hb)]
    exact heap_putRow _ _ _ _ _ b hne
  refine ⟨⟨rfl, rfl, rfl, size_sortWorldK_c enc k w blk off m dk os, fun b hb hne => key b hb fun e => hne (by rw [e])⟩, key⟩
theorem grown_of_grew {w w' : World} (h : Grew w w') : ∃ q os', w' = grow (w.drewN q) os' := by
  obtain ⟨⟨h1, h2, h3, h4, h5⟩, h6⟩ := h
  refine ⟨w'.drawn - w.drawn, w'.heap.extract w.heap.size w'.heap.size, ?_⟩
  have hh : w'.heap = w.heap ++ w'.heap.extract w.heap.size w'.heap.size := by
    apply Array.ext'
    apply List.ext_getElem?
    intro i
    by_cases hi : i < w.heap.size
    · have := h5 i hi (by simp)
      simp only [Array.toList_append, Array.getElem?_toList]
      rw [List.getElem?_append_left (by simpa using hi), Array.getElem?_toList, this]
    · simp only [Array.toList_append, Array.getElem?_toList]
      rw [List.getElem?_append_right (by simpa using hi)]
      simp only [Array.length_toList, Array.getElem?_toList, Array.getElem?_extract]
      by_cases hi2 : i < w'.heap.size
      · rw [if_pos (by omega)]
        congr 1
        omega
      · rw [if_neg (by omega), Array.getElem?_eq_none (by omega)]
  obtain ⟨heap', tape', drawn', os2, out'⟩ := w'
  simp only at h1 h2 h3 h6 hh ⊢
  subst h1 h2 h3
  unfold grow
  have hd : (w.drewN (drawn' - w.drawn)) = { w with drawn := drawn' } := by
    rw [show drawn' = w.drawn + (drawn' - w.drawn) by omega]
    simp [World.drewN]
  rw [hd]
  congr 1

theorem cmpLays_ty {S : Nat → Prop} {w : World} {g n : Nat} (hS : ∀ b, S b → b < w.heap.size ∧ b ≠ g) [Inhabited (Elt S w)] :
    CmpLays Tryd.prog 55 #[] (encE (S := S) (w := w)) 2 cfE g 0 n w := by
  intro m os dk _ x y
  obtain ⟨hf, hk⟩ := sort_frame (encE (S := S) (w := w)) 2 w g 0 m dk os
  have hmv : ∀ {t : Ty} {cs : List Value}, TyR S w t cs → TyO (sortWorldK encE 2 w g 0 m dk os) t cs := fun h => h.move (fun b hb => Nat.lt_of_lt_of_le (hS b hb).1 hf.size) (fun b hb => hk b (hS b hb).1 (hS b hb).2)
  refine (order_callsD x.1.2 y.1.2 _ _ _ _ _ (hmv x.2) (hmv y.2)).mono ?_
  rintro e w' ⟨rfl, hg⟩
  exact ⟨rfl, grown_of_grew hg⟩

/-- A row that is sorted: a permutation of its types, in order; nothing else is changed. -/
theorem sort_calls {S : Nat → Prop} {w : World} {g cap : Nat} {ts : List Ty} (hS : ∀ b, S b → b < w.heap.size ∧ b ≠ g) (hg : g < w.heap.size) (hr : RowT S w g ts) (h0 : 0 < ts.length) (hlen : ts.length ≤ 140737488351232) :
    Calls Tryd.prog 67 #[.slice (some ⟨g, 0, none⟩) ts.length cap, .func (.func 55) #[] #[]] w fun e w' => e = .returned (.tuple #[]) ∧ w.grownBy w' (some g) ∧
      ∃ ts', ts'.Perm ts ∧ ts'.Pairwise (fun x y => Ty.cmp x y ≤ 0) ∧ RowT S w' g ts' := by
  have hch : ∀ i : Fin ts.length, ∃ p : Elt S w, p.1.2 = ts[i] ∧ w.cell? ⟨g, i.1 * 2, none⟩ = some p.1.1.1 ∧ w.cell? ⟨g, i.1 * 2 + 1, none⟩ = some p.1.1.2 ∧ w.frozen? ⟨g, i.1 * 2, none⟩ = false ∧ w.frozen? ⟨g, i.1 * 2 + 1, none⟩ = false := fun i => by
    obtain ⟨v0, v1, h1, h2, h3, h4, h5⟩ := hr i.1 i.2
    exact ⟨⟨((v0, v1), ts[i]), h5⟩, rfl, h1, h2, h3, h4⟩
  haveI : Inhabited (Elt S w) := ⟨Classical.choose (hch ⟨0, h0⟩)⟩
  obtain ⟨d, hd, hdd⟩ : ∃ d : Array (Elt S w), d.size = ts.length ∧ ∀ i (h : i < ts.length), (d[i]!).1.2 = ts[i] ∧ w.cell? ⟨g, i * 2, none⟩ = some (d[i]!).1.1.1 ∧ w.cell? ⟨g, i * 2 + 1, none⟩ = some (d[i]!).1.1.2 ∧ w.frozen? ⟨g, i * 2, none⟩ = false ∧ w.frozen? ⟨g, i * 2 + 1, none⟩ = false := by
    refine ⟨Array.ofFn fun i : Fin ts.length => Classical.choose (hch i), by simp, fun i h => ?_⟩
    have : (Array.ofFn fun i : Fin ts.length => Classical.choose (hch i))[i]! = Classical.choose (hch ⟨i, h⟩) := by
      rw [getElem!_pos _ i (by simpa using h)]
      simp
    rw [this]
    exact Classical.choose_spec (hch ⟨i, h⟩)
  have hH : HoldsK (encE (S := S) (w := w)) 2 w g 0 d := by
    intro j hj
    rw [size_flatK, hd] at hj
    rw [get_flatK _ _ _ _ (by rw [hd]; exact hj)]
    obtain ⟨i, hi⟩ : ∃ i, j = i * 2 ∨ j = i * 2 + 1 := ⟨j / 2, by omega⟩
    rcases hi with rfl | rfl
    · obtain ⟨q1, q2, q3, q4, q5⟩ := hdd i (by omega)
      rw [show i * 2 / 2 = i by omega, show i * 2 % 2 = 0 by omega, Nat.zero_add]
      exact ⟨q2, q4⟩
    · obtain ⟨q1, q2, q3, q4, q5⟩ := hdd i (by omega)
      rw [show (i * 2 + 1) / 2 = i by omega, show (i * 2 + 1) % 2 = 1 by omega, Nat.zero_add]
      exact ⟨q3, q5⟩
  have hcon := AnyQ.slices_SortFunc Tryd.sortTy 2 Tryd.isAgg24 Tryd.sizeOf24 (encE (S := S) (w := w)) (fun _ => rfl) (fun x v hv => by
      obtain ⟨⟨⟨v0, v1⟩, t⟩, ht⟩ := x
      obtain ⟨st, A, n, c, rfl, rfl⟩ := TyR.vals ht
      simp only [encE, List.mem_cons, List.not_mem_nil, or_false] at hv
      rcases hv with rfl | rfl <;> rfl) cfE swo_ty 55 #[] g 0 cap d w (enters_of Tryd.func55 (by kernel_rfl) rfl) (cmpLays_ty hS) hH hg (by rw [hd]; omega)
  rw [hd] at hcon
  refine Calls.mono hcon ?_
  rintro e w' ⟨rfl, d', n, os, ⟨hp1, hp2, hp3⟩, hs, rfl⟩
  obtain ⟨hf, hk⟩ := sort_frame (encE (S := S) (w := w)) 2 w g 0 n d' os
  have hH' : HoldsK (encE (S := S) (w := w)) 2 (sortWorldK encE 2 w g 0 n d' os) g 0 d' := holdsK_sortWorldK_c encE 2 w g 0 d d' n os hH hg (by rw [hp1])
  have hd' : d'.size = ts.length := by rw [hp1, hd]
  have hperm : d'.toList.Perm d.toList := by
    have e1 : d'.extract 0 ts.length = d' := by rw [← hd', Array.extract_size]
    have e2 : d.extract 0 ts.length = d := by rw [← hd, Array.extract_size]
    rw [e1, e2] at hp3
    exact hp3
  have hmap : d.toList.map (fun x => x.1.2) = ts := by
    apply List.ext_getElem
    · simp [hd]
    · intro i h1 h2
      have := (hdd i h2).1
      rw [getElem!_pos _ i (by omega)] at this
      simpa using this
  have hget : ∀ i (h : i < (d'.toList.map (fun x => x.1.2)).length), (d'.toList.map (fun x => x.1.2))[i] = (d'[i]!).1.2 := fun i h => by
    have h' : i < d'.size := by simpa using h
    rw [getElem!_pos _ i h']
    simp
  refine ⟨rfl, hf, d'.toList.map (fun x => x.1.2), ?_, ?_, ?_⟩
  · rw [← hmap]
    exact hperm.map _
  · rw [List.pairwise_iff_getElem]
    intro i j hi hj hij
    have hj' : j < ts.length := by simpa [hd'] using hj
    have h3 := hs i j (Nat.zero_le _) hij hj'
    rw [lt_cf, decide_eq_false_iff_not] at h3
    rw [hget, hget]
    have := Ty.cmp_anti (d'[i]!).1.2 (d'[j]!).1.2
    omega
  · intro i hi
    have hi' : i < d'.size := by simpa using hi
    have c0 := hH' (i * 2) (by rw [size_flatK]; omega)
    have c1 := hH' (i * 2 + 1) (by rw [size_flatK]; omega)
    rw [get_flatK _ _ _ _ (by omega), show i * 2 / 2 = i by omega, show i * 2 % 2 = 0 by omega, Nat.zero_add] at c0
    rw [get_flatK _ _ _ _ (by omega), show (i * 2 + 1) / 2 = i by omega, show (i * 2 + 1) % 2 = 1 by omega, Nat.zero_add] at c1
    refine ⟨(d'[i]!).1.1.1, (d'[i]!).1.1.2, c0.1, c1.1, c0.2, c1.2, ?_⟩
    rw [hget]
    exact TyR.move (w := w) (fun b hb => hb) (fun b hb => hk b (hS b hb).1 (hS b hb).2) (d'[i]!).2
end Go.Proofs.YtmdgoalekkkpnaaDoor
