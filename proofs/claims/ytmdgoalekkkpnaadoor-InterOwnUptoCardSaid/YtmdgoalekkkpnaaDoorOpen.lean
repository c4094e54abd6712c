/- What a row's reading of its arguments gives the walks. -/
import Derived.Test.YtmdgoalekkkpnaaDoorProg
import Derived.Test.YtmdgoalekkkpnaaDoorBase
import Derived.ProofKit
import Derived.OpenShut
import Derived.SizedLaws
set_option linter.unusedVariables false
set_option linter.unusedSimpArgs false
namespace Go.Proofs.YtmdgoalekkkpnaaDoor
open Go.ChangeShapes Go.WideShapes Go.RowKit

/-- The listed package-level variables, laid. -/
def laidHeap (h : Array Obj) : Array Obj :=
  h
    |>.modify 0 (fun | .cells _ t frozen => .cells #[.int .u64 1, .int .u64 10, .int .u64 100, .int .u64 1000, .int .u64 10000, .int .u64 100000, .int .u64 1000000, .int .u64 10000000, .int .u64 100000000, .int .u64 1000000000, .int .u64 10000000000, .int .u64 100000000000, .int .u64 1000000000000, .int .u64 10000000000000, .int .u64 100000000000000, .int .u64 1000000000000000, .int .u64 10000000000000000, .int .u64 100000000000000000, .int .u64 1000000000000000000, .int .u64 10000000000000000000] t frozen | o => o)
    |>.modify 1 (fun | .cells _ t frozen => .cells #[.int .u8 0, .int .u8 1, .int .u8 28, .int .u8 2, .int .u8 29, .int .u8 14, .int .u8 24, .int .u8 3, .int .u8 30, .int .u8 22, .int .u8 20, .int .u8 15, .int .u8 25, .int .u8 17, .int .u8 4, .int .u8 8, .int .u8 31, .int .u8 27, .int .u8 13, .int .u8 23, .int .u8 21, .int .u8 19, .int .u8 16, .int .u8 7, .int .u8 26, .int .u8 12, .int .u8 18, .int .u8 6, .int .u8 11, .int .u8 5, .int .u8 10, .int .u8 9] t frozen | o => o)
    |>.modify 2 (fun | .cells _ t frozen => .cells #[.int .u8 0, .int .u8 1, .int .u8 56, .int .u8 2, .int .u8 57, .int .u8 49, .int .u8 28, .int .u8 3, .int .u8 61, .int .u8 58, .int .u8 42, .int .u8 50, .int .u8 38, .int .u8 29, .int .u8 17, .int .u8 4, .int .u8 62, .int .u8 47, .int .u8 59, .int .u8 36, .int .u8 45, .int .u8 43, .int .u8 51, .int .u8 22, .int .u8 53, .int .u8 39, .int .u8 33, .int .u8 30, .int .u8 24, .int .u8 18, .int .u8 12, .int .u8 5, .int .u8 63, .int .u8 55, .int .u8 48, .int .u8 27, .int .u8 60, .int .u8 41, .int .u8 37, .int .u8 16, .int .u8 46, .int .u8 35, .int .u8 44, .int .u8 21, .int .u8 52, .int .u8 32, .int .u8 23, .int .u8 11, .int .u8 54, .int .u8 26, .int .u8 40, .int .u8 15, .int .u8 34, .int .u8 20, .int .u8 31, .int .u8 10, .int .u8 25, .int .u8 14, .int .u8 19, .int .u8 9, .int .u8 13, .int .u8 8, .int .u8 7, .int .u8 6] t frozen | o => o)

section
variable {H : Type} {enc : TypeId × Value → H} {P : Program} {W : World} {sp : Nat → Bool} {hd : Bool}

/-- A slice is opened, if its elements are. -/
theorem open_sl {α : Type} {t e : TypeId} {k bytes : Nat} {r : α → List Value → Prop} (ht : P.underlying t = some (.slice e)) (hk : P.cellsOf e = k) (hk0 : 0 < k) (hb : P.bytesOf e = bytes) (hb0 : 0 < bytes) (fuel : Nat)
    (hel : ∀ m, m < fuel → ∀ cs (x : DataW H × List MemPlace), DataW.trod enc P W 0 sp hd m e cs = some x → (∀ n ∈ x.1.weights P e, n ≤ reachBytes) → ∃ a, r a cs)
    (cs : List Value) (x : DataW H × List MemPlace) (h : DataW.trod enc P W 0 sp hd fuel t cs = some x) (hw : ∀ n ∈ x.1.weights P t, n ≤ reachBytes) :
    ∃ (l : List α) (v : Value), cs = [v] ∧ Sl (fun b => b < W.heap.size) W k r l v := by
  rcases DataW.trod_slice ht h with ⟨rfl, rfl⟩ | ⟨a, len, cap, elems, rest, n, rfl, rfl, rfl, _, hlc, _, hlen, hcell, _, _⟩
  · exact ⟨[], _, rfl, none, 0, rfl, by simp, by simp, by simp⟩
  · have hw1 : (elems.length + rest.length) * P.bytesOf e ≤ reachBytes := hw _ (by simp [DataW.weights, ht])
    have hlen2 : len ≤ 140737488351232 := by
      rw [hb] at hw1
      have h1 : (elems.length + rest.length) * 1 ≤ (elems.length + rest.length) * bytes := Nat.mul_le_mul_left _ hb0
      simp only [reachBytes] at hw1
      omega
    have hall : ∀ i, i < len → ∃ (y : α) (ds : List Value), ds.length = k ∧ (∀ j, j < k → W.cell? ((a.add (i * k)).add j) = ds[j]?) ∧ r y ds := by
      intro i hi
      have hc := hcell i hi
      rw [List.getElem?_eq_getElem (by omega)] at hc
      obtain ⟨ds, h1, h2⟩ := Option.bind_eq_some_iff.1 hc
      rw [hk] at h1
      obtain ⟨_, h3, h4⟩ := World.cells?_some h1
      obtain ⟨y, hy⟩ := hel n (by omega) ds _ h2 (fun q hq => hw q (by
        simp only [DataW.weights, ht, List.mem_cons, List.mem_append]
        right; left
        have hm : elems[i].1 ∈ elems.map (·.1) := List.mem_map_of_mem (List.getElem_mem (by omega))
        clear hw hc h2 hcell h
        generalize elems.map (·.1) = L at *
        induction L with
        | nil => cases hm
        | cons z L ihL =>
          simp only [DataW.weightsAll, List.mem_append]
          rcases List.mem_cons.1 hm with rfl | hm
          · exact .inl hq
          · exact .inr (ihL hm)))
      exact ⟨y, ds, h3, h4, hy⟩
    obtain ⟨l, hl, hlall⟩ : ∃ l : List α, l.length = len ∧ ∀ i (h : i < l.length), ∃ ds, ds.length = k ∧ (∀ j, j < k → W.cell? ((a.add (i * k)).add j) = ds[j]?) ∧ r l[i] ds := by
      refine ⟨List.ofFn fun i : Fin len => Classical.choose (hall i.1 i.2), by simp, fun i hi => ?_⟩
      simp only [List.getElem_ofFn]
      exact Classical.choose_spec (hall i (by simpa using hi))
    refine ⟨l, _, rfl, some a, cap, by rw [hl], by omega, by omega, fun h0 => ?_⟩
    obtain ⟨b, o, spot⟩ := a
    obtain ⟨ds, h1, h2, _⟩ := hlall 0 h0
    have hc0 := h2 0 hk0
    rw [List.getElem?_eq_getElem (by omega)] at hc0
    have hs : spot = none := by simpa [Addr.add] using World.cell?_spot hc0
    subst hs
    refine ⟨b, o, rfl, ?_, fun i hi => ?_⟩
    · have := World.block_lt_of_cell? _ _ hc0
      simpa [Addr.add] using this
    · obtain ⟨ds, h1, h2, h3⟩ := hlall i hi
      refine ⟨ds, h1, fun j hj => ?_, h3⟩
      rw [← h2 j hj, Addr.add_lit, Addr.add_lit]

/-- An int of 64 bits is opened. -/
theorem open_i64 {t : TypeId} (ht : P.underlying t = some (.int .i64)) (fuel : Nat) (cs : List Value) (x : DataW H × List MemPlace) (h : DataW.trod enc P W 0 sp hd fuel t cs = some x) :
    ∃ n : Int, cs = [.int .i64 n] ∧ -9223372036854775808 ≤ n ∧ n ≤ 9223372036854775807 := by
  obtain ⟨n, rfl, _, hwf⟩ := DataW.trod_int ht h
  refine ⟨n, rfl, ?_⟩
  simp [Lit.wf, IntKind.min, IntKind.max, IntKind.signed, IntKind.bits] at hwf
  omega
end

section
variable {H : Type} {enc : TypeId × Value → H} {W : World} {sp : Nat → Bool} {hd : Bool}
set_option maxRecDepth 100000 in
theorem cells_ty : Tryd.prog.cellsOf 24 = 2 := by kernel_rfl
theorem cells_set : Tryd.prog.cellsOf 36 = 1 := by kernel_rfl
theorem cells_sets : Tryd.prog.cellsOf 22 = 1 := by kernel_rfl
theorem cells_int : Tryd.prog.cellsOf 3 = 1 := by kernel_rfl
theorem bytes_ty : Tryd.prog.bytesOf 24 = 32 := by kernel_rfl
theorem bytes_set : Tryd.prog.bytesOf 36 = 24 := by kernel_rfl

set_option maxRecDepth 100000 in
/-- A type is opened. -/
theorem open_ty : ∀ (fuel : Nat) (cs : List Value) (x : DataW H × List MemPlace), DataW.trod enc Tryd.prog W 0 sp hd fuel 24 cs = some x → (∀ n ∈ x.1.weights Tryd.prog 24, n ≤ reachBytes) → ∃ t, TyO W t cs := by
  intro fuel
  induction fuel using Nat.strongRecOn with
  | _ fuel ih =>
    intro cs x h hw
    obtain ⟨xs, n, rfl, rfl, hlen, hxl, hf⟩ := DataW.trod_struct Tryd.underlying24 h
    rw [cells_ty] at hlen
    match xs, hxl, cs, hlen with
    | [y0, y1], _, [c0, c1], _ =>
      have g0 := hf 0 _ rfl
      have g1 := hf 1 _ rfl
      change DataW.trod enc Tryd.prog W 0 sp hd n 3 (List.take (Tryd.prog.cellsOf 3) (List.drop 0 [c0, c1])) = [y0, y1][0]? at g0
      change DataW.trod enc Tryd.prog W 0 sp hd n 22 (List.take (Tryd.prog.cellsOf 22) (List.drop 1 [c0, c1])) = [y0, y1][1]? at g1
      rw [cells_int] at g0
      rw [cells_sets] at g1
      simp only [List.drop_zero, List.drop_succ_cons, List.take_succ_cons, List.take_zero, List.getElem?_cons_zero, List.getElem?_cons_succ] at g0 g1
      obtain ⟨s, hs, hs1, hs2⟩ := open_i64 Tryd.underlying3 n _ _ g0
      obtain rfl : c0 = .int .i64 s := by simpa using hs
      simp only [DataW.weights, Tryd.underlying24, DataW.weightsEach, List.map_cons, List.map_nil, List.append_nil, List.mem_append] at hw
      obtain ⟨l, v, hv, hsl⟩ := open_sl (r := SetO W) Tryd.underlying22 cells_set (by omega) bytes_set (by omega) n (fun m hm ds z hz hwz => by
        obtain ⟨l2, v2, rfl, h2⟩ := open_sl (r := TyO W) Tryd.underlying36 cells_ty (by omega) bytes_ty (by omega) m (fun m2 hm2 ds2 z2 hz2 hw2 => ih m2 (by omega) ds2 z2 hz2 hw2) ds z hz hwz
        exact ⟨l2, v2, rfl, h2⟩) _ _ g1 (fun q hq => hw q (.inr hq))
      obtain rfl : c1 = v := by simpa using hv
      exact ⟨.mk s l, TyO_mk.2 ⟨c1, rfl, hs1, hs2, hsl⟩⟩
/-- A list of types is opened. -/
theorem open_tys (fuel : Nat) (cs : List Value) (x : DataW H × List MemPlace) (h : DataW.trod enc Tryd.prog W 0 sp hd fuel 36 cs = some x) (hw : ∀ n ∈ x.1.weights Tryd.prog 36, n ≤ reachBytes) :
    ∃ l, SetO W l cs := by
  obtain ⟨l2, v2, rfl, h2⟩ := open_sl (r := TyO W) Tryd.underlying36 cells_ty (by omega) bytes_ty (by omega) fuel (fun m2 hm2 ds2 z2 hz2 hw2 => open_ty m2 ds2 z2 hz2 hw2) cs x h hw
  exact ⟨l2, v2, rfl, h2⟩

/-- A struct argument is an aggregate. -/
theorem okWide_agg {P : Program} {w : World} {r : Reach} {base : Nat} {t : TypeId} {v : Value} {fs : Array Field} (ht : P.underlying t = some (.struct fs)) (h : Value.okWide P w r base t v) : ∃ cs, v = .agg cs := by
  unfold Value.okWide at h
  rw [ht] at h
  obtain ⟨cs, rfl, _⟩ := h
  exact ⟨cs, rfl⟩
set_option maxRecDepth 100000 in
theorem arg_ty {base : Nat} {r : Reach} {v : Value} {d : DataW H} {p : List MemPlace} (hv : Value.okWide Tryd.prog W r base 24 v) (h : DataW.Trod enc Tryd.prog W 0 sp hd 24 v d p)
    (hw : ∀ n ∈ d.weights Tryd.prog 24, n ≤ reachBytes) : ∃ t v0 v1, v = .agg #[v0, v1] ∧ TyO W t [v0, v1] := by
  obtain ⟨cs, rfl⟩ := okWide_agg Tryd.underlying24 hv
  obtain ⟨fuel, hf⟩ := h
  obtain ⟨t, ht⟩ := open_ty fuel _ _ hf hw
  obtain ⟨v0, v1, hc⟩ := TyR_len ht
  have hc2 : cs.toList = [v0, v1] := by simpa [Value.cells] using hc
  obtain rfl : cs = #[v0, v1] := by
    cases cs
    simp_all
  exact ⟨t, v0, v1, rfl, by simpa [Value.cells] using ht⟩
end
end Go.Proofs.YtmdgoalekkkpnaaDoor
