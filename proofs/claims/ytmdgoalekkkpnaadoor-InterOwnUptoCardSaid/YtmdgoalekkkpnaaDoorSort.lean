/- Sorts: in plain Lean, and how they lie in memory. -/
import Derived.Test.YtmdgoalekkkpnaaDoorProg
import Derived.Test.YtmdgoalekkkpnaaDoorBase
import Derived.Test.YtmdgoalekkkpnaaDoorOpen
set_option linter.unusedVariables false
set_option linter.unusedSimpArgs false
namespace Go.Proofs.YtmdgoalekkkpnaaDoor
open Go.ChangeShapes Go.WideShapes Go.RowKit

/-- Sorts. -/
inductive Srt where
  | mk (args : List Srt)
theorem Srt.ind {P : Srt → Prop} (h : ∀ args, (∀ s ∈ args, P s) → P (.mk args)) : ∀ s, P s
  | .mk args => h args fun s hs => Srt.ind h s
termination_by s => SizeOf.sizeOf s
decreasing_by
  have h1 := List.sizeOf_lt_of_mem hs
  simp
  omega
def Srt.args : Srt → List Srt
  | .mk l => l
mutual
def Srt.size : Srt → Nat
  | .mk args => 1 + Srt.sizes args
def Srt.sizes : List Srt → Nat
  | [] => 0
  | s :: r => s.size + Srt.sizes r
end
mutual
def Srt.depth : Srt → Nat
  | .mk args => Srt.depths args + 1
def Srt.depths : List Srt → Nat
  | [] => 0
  | s :: r => max s.depth (Srt.depths r)
end
mutual
def Srt.few : Srt → Bool
  | .mk args => Srt.fews args && decide (args.length ≤ 8)
def Srt.fews : List Srt → Bool
  | [] => true
  | s :: r => s.few && Srt.fews r
end
def Srt.good (s : Srt) : Bool := decide (s.size ≤ 60) && decide (s.depth ≤ 30) && s.few
theorem Srt.sizes_append (a b : List Srt) : Srt.sizes (a ++ b) = Srt.sizes a + Srt.sizes b := by
  induction a with
  | nil => simp [Srt.sizes]
  | cons x a ih => simp [Srt.sizes, ih]; omega
theorem Srt.depths_append (a b : List Srt) : Srt.depths (a ++ b) = max (Srt.depths a) (Srt.depths b) := by
  induction a with
  | nil => simp [Srt.depths]
  | cons x a ih => simp only [List.cons_append, Srt.depths, ih]; omega
theorem Srt.sizes_take (a : List Srt) (k : Nat) (h : k < a.length) : Srt.sizes (a.take (k + 1)) = Srt.sizes (a.take k) + (a[k]).size := by
  rw [List.take_succ_eq_append_getElem h, Srt.sizes_append]
  simp [Srt.sizes]
theorem Srt.depths_take (a : List Srt) (k : Nat) (h : k < a.length) : Srt.depths (a.take (k + 1)) = max (Srt.depths (a.take k)) (a[k]).depth := by
  rw [List.take_succ_eq_append_getElem h, Srt.depths_append]
  simp [Srt.depths]
theorem Srt.sizes_take_le (a : List Srt) (k : Nat) : Srt.sizes (a.take k) ≤ Srt.sizes a := by
  have := Srt.sizes_append (a.take k) (a.drop k)
  rw [List.take_append_drop] at this
  omega
theorem Srt.fews_drop (a : List Srt) (k : Nat) (h : k < a.length) : Srt.fews (a.drop k) = ((a[k]).few && Srt.fews (a.drop (k + 1))) := by
  rw [List.drop_eq_getElem_cons h]
  rfl
theorem Srt.size_pos (s : Srt) : 1 ≤ s.size := by cases s; simp [Srt.size]
theorem Srt.depth_le : ∀ s : Srt, s.depth ≤ s.size := by
  intro s
  induction s using Srt.ind with
  | h args ih =>
    have : ∀ l : List Srt, (∀ s ∈ l, s.depth ≤ s.size) → Srt.depths l ≤ Srt.sizes l := by
      intro l
      induction l with
      | nil => simp [Srt.depths, Srt.sizes]
      | cons x l ihl =>
        intro h
        have h1 := h x (by simp)
        have h2 := ihl (fun s hs => h s (by simp [hs]))
        simp only [Srt.depths, Srt.sizes]
        omega
    have := this args ih
    simp only [Srt.depth, Srt.size]
    omega

mutual
def SrtR (S : Nat → Prop) (w : World) : Srt → List Value → Prop
  | .mk args, cs => ∃ A c, cs = [.slice A args.length c] ∧ args.length ≤ c ∧ args.length ≤ 140737488351232 ∧ (0 < args.length → ∃ b o, A = some ⟨b, o, none⟩ ∧ S b ∧ SrtsR S w b o args)
def SrtsR (S : Nat → Prop) (w : World) (b o : Nat) : List Srt → Prop
  | [] => True
  | s :: r => (∃ v, w.cell? ⟨b, o, none⟩ = some v ∧ SrtR S w s [v]) ∧ SrtsR S w b (o + 1) r
end
theorem SrtR_len {S : Nat → Prop} {w : World} {t : Srt} {cs : List Value} (h : SrtR S w t cs) : ∃ A n c, cs = [.slice A n c] := by
  cases t
  unfold SrtR at h
  obtain ⟨A, c, rfl, _⟩ := h
  exact ⟨_, _, _, rfl⟩
theorem SrtsR_iff {S : Nat → Prop} {w : World} {b : Nat} : ∀ {ts : List Srt} {o : Nat}, SrtsR S w b o ts ↔
    ∀ i (h : i < ts.length), ∃ cs, cs.length = 1 ∧ (∀ j, j < 1 → w.cell? ⟨b, o + i * 1 + j, none⟩ = cs[j]?) ∧ SrtR S w ts[i] cs
  | [], o => by simp [SrtsR]
  | t :: r, o => by
    unfold SrtsR
    rw [SrtsR_iff]
    constructor
    · rintro ⟨⟨v0, h0, ht⟩, hr⟩ i hi
      match i with
      | 0 => exact ⟨[v0], rfl, fun j hj => by match j with | 0 => simpa using h0, ht⟩
      | i + 1 =>
        obtain ⟨cs, hl, hc, hq⟩ := hr i (by simpa using hi)
        exact ⟨cs, hl, fun j hj => by rw [← hc j hj, show o + (i + 1) * 1 + j = o + 1 + i * 1 + j by omega], hq⟩
    · intro h
      refine ⟨?_, fun i hi => ?_⟩
      · obtain ⟨cs, hl, hc, hq⟩ := h 0 (by simp)
        obtain ⟨_, _, _, rfl⟩ := SrtR_len hq
        exact ⟨_, by simpa using hc 0 (by omega), hq⟩
      · obtain ⟨cs, hl, hc, hq⟩ := h (i + 1) (by simpa using hi)
        exact ⟨cs, hl, fun j hj => by rw [← hc j hj, show o + (i + 1) * 1 + j = o + 1 + i * 1 + j by omega], hq⟩
theorem SrtR_mk {S : Nat → Prop} {w : World} {args : List Srt} {cs : List Value} :
    SrtR S w (.mk args) cs ↔ ∃ v, cs = [v] ∧ Sl S w 1 (SrtR S w) args v := by
  unfold SrtR
  constructor
  · rintro ⟨A, c, rfl, hc, hm, hp⟩
    refine ⟨_, rfl, A, c, rfl, hc, hm, fun h0 => ?_⟩
    obtain ⟨b, o, ha, hb, he⟩ := hp h0
    exact ⟨b, o, ha, hb, SrtsR_iff.1 he⟩
  · rintro ⟨v, rfl, A, c, rfl, hc, hm, hp⟩
    refine ⟨A, c, rfl, hc, hm, fun h0 => ?_⟩
    obtain ⟨b, o, ha, hb, he⟩ := hp h0
    exact ⟨b, o, ha, hb, SrtsR_iff.2 he⟩
theorem SrtR.move {S S' : Nat → Prop} {w w' : World} (hS : ∀ b, S b → S' b) (hw : ∀ b, S b → w'.heap[b]? = w.heap[b]?) :
    ∀ {t : Srt} {cs : List Value}, SrtR S w t cs → SrtR S' w' t cs := by
  intro t
  induction t using Srt.ind with
  | h args ih =>
    intro cs h
    rw [SrtR_mk] at h ⊢
    obtain ⟨v, rfl, hs⟩ := h
    exact ⟨v, rfl, hs.move hS hw fun t ht cs h => ih t ht h⟩
/-- A sort in memory that is there. -/
def SrtO (w : World) (s : Srt) (cs : List Value) : Prop := SrtR (fun b => b < w.heap.size) w s cs
theorem stays_srt : Stays SrtO := fun w w' s cs hf h => SrtR.move (fun b hb => Nat.lt_of_lt_of_le hb hf.size) (fun b hb => frm_lt hf b hb) h
theorem SrtO_mk {w : World} {s : Srt} {v : Value} (h : SrtO w s [v]) : SlO w 1 SrtO s.args v := by
  cases s with
  | mk args =>
    obtain ⟨v', hv, hs⟩ := SrtR_mk.1 h
    obtain rfl : v = v' := by simpa using hv
    exact hs

section
variable {H : Type} {enc : TypeId × Value → H} {W : World} {sp : Nat → Bool} {hd : Bool}
set_option maxRecDepth 100000 in
theorem cells_srt : Tryd.prog.cellsOf 43 = 1 := by kernel_rfl
theorem cells_srts : Tryd.prog.cellsOf 41 = 1 := by kernel_rfl
theorem bytes_srt : Tryd.prog.bytesOf 43 = 24 := by kernel_rfl
set_option maxRecDepth 100000 in
/-- A sort is opened. -/
theorem open_srt : ∀ (fuel : Nat) (cs : List Value) (x : DataW H × List MemPlace), DataW.trod enc Tryd.prog W 0 sp hd fuel 43 cs = some x → (∀ n ∈ x.1.weights Tryd.prog 43, n ≤ reachBytes) → ∃ t, SrtO W t cs := by
  intro fuel
  induction fuel using Nat.strongRecOn with
  | _ fuel ih =>
    intro cs x h hw
    obtain ⟨xs, n, rfl, rfl, hlen, hxl, hf⟩ := DataW.trod_struct Tryd.underlying43 h
    rw [cells_srt] at hlen
    match xs, hxl, cs, hlen with
    | [y0], _, [c0], _ =>
      have g0 := hf 0 _ rfl
      change DataW.trod enc Tryd.prog W 0 sp hd n 41 (List.take (Tryd.prog.cellsOf 41) (List.drop 0 [c0])) = [y0][0]? at g0
      rw [cells_srts] at g0
      simp only [List.drop_zero, List.drop_succ_cons, List.take_succ_cons, List.take_zero, List.getElem?_cons_zero, List.getElem?_cons_succ] at g0
      simp only [DataW.weights, Tryd.underlying43, DataW.weightsEach, List.map_cons, List.map_nil, List.append_nil, List.mem_append] at hw
      obtain ⟨l, v, hv, hsl⟩ := open_sl (r := SrtO W) Tryd.underlying41 cells_srt (by omega) bytes_srt (by omega) n (fun m hm ds z hz hwz => ih m (by omega) ds z hz hwz) _ _ g0 (fun q hq => hw q (by simpa using hq))
      obtain rfl : c0 = v := by simpa using hv
      exact ⟨.mk l, SrtR_mk.2 ⟨c0, rfl, hsl⟩⟩
theorem okWide_slice {P : Program} {w : World} {r : Reach} {base : Nat} {t e : TypeId} {v : Value} (ht : P.underlying t = some (.slice e)) (h : Value.okWide P w r base t v) : ∃ A n c, v = .slice A n c := by
  unfold Value.okWide at h
  rw [ht] at h
  simp only [] at h
  unfold Cell.okWide at h
  rw [ht] at h
  revert h
  cases v <;> simp [Cell.ok, ht]
set_option maxRecDepth 100000 in
theorem arg_sort {base : Nat} {r : Reach} {v : Value} {d : DataW H} {p : List MemPlace} (hv : Value.okWide Tryd.prog W r base 43 v) (h : DataW.Trod enc Tryd.prog W 0 sp hd 43 v d p)
    (hw : ∀ n ∈ d.weights Tryd.prog 43, n ≤ reachBytes) : ∃ t v0, v = .agg #[v0] ∧ SrtO W t [v0] := by
  obtain ⟨cs, rfl⟩ := okWide_agg Tryd.underlying43 hv
  obtain ⟨fuel, hf⟩ := h
  obtain ⟨t, ht⟩ := open_srt fuel _ _ hf hw
  obtain ⟨A, n, c, hc⟩ := SrtR_len ht
  have hc2 : cs.toList = [.slice A n c] := by simpa [Value.cells] using hc
  obtain rfl : cs = #[.slice A n c] := by
    cases cs
    simp_all
  exact ⟨t, _, rfl, by simpa [Value.cells] using ht⟩
set_option maxRecDepth 100000 in
/-- A list of types, as an argument. -/
theorem arg_tys {base : Nat} {r : Reach} {v : Value} {d : DataW H} {p : List MemPlace} (hv : Value.okWide Tryd.prog W r base 36 v) (h : DataW.Trod enc Tryd.prog W 0 sp hd 36 v d p)
    (hw : ∀ n ∈ d.weights Tryd.prog 36, n ≤ reachBytes) : ∃ l, SetO W l [v] := by
  obtain ⟨fuel, hf⟩ := h
  obtain ⟨l, hl⟩ := open_tys fuel _ _ hf hw
  refine ⟨l, ?_⟩
  obtain ⟨A, n, c, rfl⟩ := okWide_slice Tryd.underlying36 hv
  exact hl
end
end Go.Proofs.YtmdgoalekkkpnaaDoor
