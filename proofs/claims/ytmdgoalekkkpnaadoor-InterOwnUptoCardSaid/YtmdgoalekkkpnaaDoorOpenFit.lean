/- What a row's reading says more of a type: its rows' lengths in bytes, and its text's length against the reading's bulk. -/
import Derived.Test.YtmdgoalekkkpnaaDoorOpen
import Derived.Test.YtmdgoalekkkpnaaDoorRows
import Derived.Test.YtmdgoalekkkpnaaDoorWrite
import Derived.Lib.ItoaLen
set_option linter.unusedVariables false
set_option linter.unusedSimpArgs false
namespace Go.Proofs.YtmdgoalekkkpnaaDoor
open Go.ChangeShapes Go.WideShapes Go.RowKit

/-- No row of the type takes more bytes than there are. -/
inductive Ty.Fit : Ty → Prop
  | mk (st : Int) (args : List (List Ty)) (h1 : args.length * 24 ≤ 140737488351232) (h2 : ∀ s ∈ args, s.length * 32 ≤ 140737488351232) (h3 : ∀ s ∈ args, ∀ t ∈ s, Ty.Fit t) : Ty.Fit (.mk st args)

section
variable {H : Type} {enc : TypeId × Value → H} {P : Program} {W : World} {sp : Nat → Bool} {hd : Bool}
/-- A slice is opened, with what is said of its elements and their readings. -/
theorem open_sl2 {α : Type} {t e : TypeId} {k bytes : Nat} {r : α → List Value → Prop} {q : α → DataW H → Prop} (ht : P.underlying t = some (.slice e)) (hk : P.cellsOf e = k) (hk0 : 0 < k) (hb : P.bytesOf e = bytes) (hb0 : 0 < bytes) (fuel : Nat)
    (hel : ∀ m, m < fuel → ∀ cs (x : DataW H × List MemPlace), DataW.trod enc P W 0 sp hd m e cs = some x → (∀ n ∈ x.1.weights P e, n ≤ reachBytes) → ∃ a, r a cs ∧ q a x.1)
    (cs : List Value) (x : DataW H × List MemPlace) (h : DataW.trod enc P W 0 sp hd fuel t cs = some x) (hw : ∀ n ∈ x.1.weights P t, n ≤ reachBytes) :
    ∃ (l : List α) (v : Value), cs = [v] ∧ Sl (fun b => b < W.heap.size) W k r l v ∧ l.length * bytes ≤ 140737488351232 ∧
      ((l = [] ∧ x.1 = .nil) ∨ ∃ ds spare, x.1 = .slice ds spare ∧ l.length = ds.length ∧ ∀ i (h : i < l.length) (h' : i < ds.length), q l[i] ds[i]) := by
  rcases DataW.trod_slice ht h with ⟨rfl, rfl⟩ | ⟨a, len, cap, elems, rest, n, rfl, rfl, rfl, _, hlc, _, hlen, hcell, _, _⟩
  · exact ⟨[], _, rfl, ⟨none, 0, rfl, by simp, by simp, by simp⟩, by simp, .inl ⟨rfl, rfl⟩⟩
  · have hw1 : (elems.length + rest.length) * P.bytesOf e ≤ reachBytes := hw _ (by simp [DataW.weights, ht])
    have hlenb : len * bytes ≤ 140737488351232 := by
      rw [hb] at hw1
      have h1 : len * bytes ≤ (elems.length + rest.length) * bytes := Nat.mul_le_mul_right _ (by omega)
      simp only [reachBytes] at hw1
      omega
    have hlen2 : len ≤ 140737488351232 := by
      have h1 : len * 1 ≤ len * bytes := Nat.mul_le_mul_left _ hb0
      omega
    have hall : ∀ i (hi : i < len) (hi' : i < elems.length), ∃ (y : α) (ds : List Value), ds.length = k ∧ (∀ j, j < k → W.cell? ((a.add (i * k)).add j) = ds[j]?) ∧ r y ds ∧ q y elems[i].1 := by
      intro i hi hi'
      have hc := hcell i hi
      rw [List.getElem?_eq_getElem (by omega)] at hc
      obtain ⟨ds, h1, h2⟩ := Option.bind_eq_some_iff.1 hc
      rw [hk] at h1
      obtain ⟨_, h3, h4⟩ := World.cells?_some h1
      obtain ⟨y, hy, hq⟩ := hel n (by omega) ds _ h2 (fun q hq => hw q (by
        simp only [DataW.weights, ht, List.mem_cons, List.mem_append]
        right; left
        have hm : elems[i].1 ∈ elems.map (·.1) := List.mem_map_of_mem (List.getElem_mem (by omega))
        clear hw hc h2 hcell h
        generalize elems.map (·.1) = L at *
        induction L with
        | nil => cases hm
        | cons z L ihL =>
          simp only [DataW.weightsAll, List.mem_append]
          rcases List.mem_cons.1 hm with rfl | hm
          · exact .inl hq
          · exact .inr (ihL hm)))
      exact ⟨y, ds, h3, h4, hy, hq⟩
    obtain ⟨l, hl, hlall⟩ : ∃ l : List α, l.length = len ∧ ∀ i (h : i < l.length) (h' : i < elems.length), (∃ ds, ds.length = k ∧ (∀ j, j < k → W.cell? ((a.add (i * k)).add j) = ds[j]?) ∧ r l[i] ds) ∧ q l[i] elems[i].1 := by
      refine ⟨List.ofFn fun i : Fin len => Classical.choose (hall i.1 i.2 (by omega)), by simp, fun i hi hi' => ?_⟩
      simp only [List.getElem_ofFn]
      obtain ⟨ds, h1, h2, h3, h4⟩ := Classical.choose_spec (hall i (by simpa using hi) hi')
      exact ⟨⟨ds, h1, h2, h3⟩, h4⟩
    refine ⟨l, _, rfl, ⟨some a, cap, by rw [hl], by omega, by omega, fun h0 => ?_⟩, by rw [hl]; exact hlenb, .inr ⟨_, _, rfl, by simp [hl, hlen], fun i h1 h2 => by simpa using (hlall i h1 (by omega)).2⟩⟩
    obtain ⟨b, o, spot⟩ := a
    obtain ⟨⟨ds, h1, h2, _⟩, _⟩ := hlall 0 h0 (by omega)
    have hc0 := h2 0 hk0
    rw [List.getElem?_eq_getElem (by omega)] at hc0
    have hs : spot = none := by simpa [Addr.add] using World.cell?_spot hc0
    subst hs
    refine ⟨b, o, rfl, ?_, fun i hi => ?_⟩
    · have := World.block_lt_of_cell? _ _ hc0
      simpa [Addr.add] using this
    · obtain ⟨⟨ds, h1, h2, h3⟩, _⟩ := hlall i hi (by omega)
      refine ⟨ds, h1, fun j hj => ?_, h3⟩
      rw [← h2 j hj, Addr.add_lit, Addr.add_lit]
end

section
variable {H : Type} {enc : TypeId × Value → H} {W : World} {sp : Nat → Bool} {hd : Bool}
/-- What is said of a type and its reading. -/
def TyD (t : Ty) (d : DataW H) : Prop := t.Fit ∧ t.text.length + 1 ≤ 22 * Rows.uptoBulk d
def SetD (s : List Ty) (d : DataW H) : Prop := s.length * 32 ≤ 140737488351232 ∧ (∀ t ∈ s, t.Fit) ∧ (Ty.textSet s).length + 2 ≤ 22 * Rows.uptoBulk d

theorem bulk_first {d : DataW H} {r : List (DataW H)} (h : Rows.uptoSmall H (d :: r) = true) : Rows.uptoBulk d ≤ 1048576 := by
  have := of_decide_eq_true h
  simp only [Rows.uptoBulkAll] at this
  omega
theorem bulk_pos (d : DataW H) : 1 ≤ Rows.uptoBulk d := by
  cases d with
  | lit z => cases z <;> (unfold Rows.uptoBulk; omega)
  | _ => unfold Rows.uptoBulk; omega
theorem set_bulk : ∀ (l : List Ty) (ds : List (DataW H)), l.length = ds.length → (∀ i (h : i < l.length) (h' : i < ds.length), TyD l[i] ds[i]) → (Ty.textTail l).length ≤ 22 * Rows.uptoBulkAll ds ∧ (Ty.textSet l).length ≤ 22 * Rows.uptoBulkAll ds ∧ (∀ t ∈ l, t.Fit)
  | [], _, _, _ => by simp [Ty.textTail, Ty.textSet]
  | x :: l, [], h, _ => by simp at h
  | x :: l, d :: ds, h, hq => by
    obtain ⟨h1, h2, h3⟩ := set_bulk l ds (by simpa using h) (fun i h h' => hq (i + 1) (by simpa using h) (by simpa using h'))
    obtain ⟨g1, g2⟩ := hq 0 (by simp) (by simp)
    simp only [List.getElem_cons_zero] at g1 g2
    refine ⟨?_, ?_, ?_⟩
    · simp only [Ty.textTail, List.length_cons, List.length_append, Rows.uptoBulkAll]
      omega
    · simp only [Ty.textSet, List.length_append, Rows.uptoBulkAll]
      omega
    · intro t ht
      rcases List.mem_cons.1 ht with rfl | ht
      · exact g1
      · exact h3 t ht
theorem rows_bulk : ∀ (l : List (List Ty)) (ds : List (DataW H)), l.length = ds.length → (∀ i (h : i < l.length) (h' : i < ds.length), SetD l[i] ds[i]) → (Ty.textRows l).length ≤ 22 * Rows.uptoBulkAll ds ∧ (∀ s ∈ l, s.length * 32 ≤ 140737488351232) ∧ (∀ s ∈ l, ∀ t ∈ s, t.Fit)
  | [], _, _, _ => by simp [Ty.textRows]
  | x :: l, [], h, _ => by simp at h
  | x :: l, d :: ds, h, hq => by
    obtain ⟨h1, h2, h3⟩ := rows_bulk l ds (by simpa using h) (fun i h h' => hq (i + 1) (by simpa using h) (by simpa using h'))
    obtain ⟨g1, g2, g3⟩ := hq 0 (by simp) (by simp)
    simp only [List.getElem_cons_zero] at g1 g2 g3
    refine ⟨?_, ?_, ?_⟩
    · simp only [Ty.textRows, List.length_cons, List.length_append, Rows.uptoBulkAll]
      omega
    · intro s hs
      rcases List.mem_cons.1 hs with rfl | hs
      · exact g1
      · exact h2 s hs
    · intro s hs
      rcases List.mem_cons.1 hs with rfl | hs
      · exact g2
      · exact h3 s hs

set_option maxRecDepth 100000 in
/-- A type is opened. -/
theorem open_ty2 : ∀ (fuel : Nat) (cs : List Value) (x : DataW H × List MemPlace), DataW.trod enc Tryd.prog W 0 sp hd fuel 24 cs = some x → (∀ n ∈ x.1.weights Tryd.prog 24, n ≤ reachBytes) → ∃ t, TyO W t cs ∧ TyD t x.1 := by
  intro fuel
  induction fuel using Nat.strongRecOn with
  | _ fuel ih =>
    intro cs x h hw
    obtain ⟨xs, n, rfl, rfl, hlen, hxl, hf⟩ := DataW.trod_struct Tryd.underlying24 h
    rw [cells_ty] at hlen
    match xs, hxl, cs, hlen with
    | [y0, y1], _, [c0, c1], _ =>
      have g0 := hf 0 _ rfl
      have g1 := hf 1 _ rfl
      change DataW.trod enc Tryd.prog W 0 sp hd n 3 (List.take (Tryd.prog.cellsOf 3) (List.drop 0 [c0, c1])) = [y0, y1][0]? at g0
      change DataW.trod enc Tryd.prog W 0 sp hd n 22 (List.take (Tryd.prog.cellsOf 22) (List.drop 1 [c0, c1])) = [y0, y1][1]? at g1
      rw [cells_int] at g0
      rw [cells_sets] at g1
      simp only [List.drop_zero, List.drop_succ_cons, List.take_succ_cons, List.take_zero, List.getElem?_cons_zero, List.getElem?_cons_succ] at g0 g1
      obtain ⟨s, hs, hs1, hs2⟩ := open_i64 Tryd.underlying3 n _ _ g0
      obtain rfl : c0 = .int .i64 s := by simpa using hs
      simp only [DataW.weights, Tryd.underlying24, DataW.weightsEach, List.map_cons, List.map_nil, List.append_nil, List.mem_append] at hw
      obtain ⟨l, v, hv, hsl, hby, hq⟩ := open_sl2 (r := SetO W) (q := SetD) Tryd.underlying22 cells_set (by omega) bytes_set (by omega) n (fun m hm ds z hz hwz => by
        obtain ⟨l2, v2, rfl, h2, hby2, hq2⟩ := open_sl2 (r := TyO W) (q := TyD) Tryd.underlying36 cells_ty (by omega) bytes_ty (by omega) m (fun m2 hm2 ds2 z2 hz2 hw2 => ih m2 (by omega) ds2 z2 hz2 hw2) ds z hz hwz
        refine ⟨l2, ⟨v2, rfl, h2⟩, hby2, ?_, ?_⟩
        · rcases hq2 with ⟨rfl, _⟩ | ⟨ds, spare, _, hln, hqq⟩
          · simp
          · exact (set_bulk l2 ds hln hqq).2.2
        · rcases hq2 with ⟨rfl, he⟩ | ⟨ds, spare, he, hln, hqq⟩
          · rw [he]
            simp [Ty.textSet, Rows.uptoBulk]
          · have := (set_bulk l2 ds hln hqq).2.1
            rw [he]
            simp only [Rows.uptoBulk]
            omega) _ _ g1 (fun q hq => hw q (.inr hq))
      obtain rfl : c1 = v := by simpa using hv
      refine ⟨.mk s l, TyO_mk.2 ⟨c1, rfl, hs1, hs2, hsl⟩, ?_, ?_⟩
      · rcases hq with ⟨rfl, _⟩ | ⟨ds, spare, _, hln, hqq⟩
        · exact .mk _ _ (by simp) (by simp) (by simp)
        · have := rows_bulk l ds hln hqq
          exact .mk _ _ hby this.2.1 this.2.2
      · have hit := Lib.itoa_length_le s hs1 hs2
        have hp : 1 ≤ Rows.uptoBulk y1.1 := bulk_pos _
        have hp0 : 1 ≤ Rows.uptoBulk y0.1 := bulk_pos _
        simp only [List.map_cons, List.map_nil, Rows.uptoBulk, Rows.uptoBulkAll, Ty.text, List.length_append]
        rcases hq with ⟨rfl, _⟩ | ⟨ds, spare, he, hln, hqq⟩
        · simp only [Ty.textRows, List.length_nil]
          omega
        · have := (rows_bulk l ds hln hqq).1
          rw [he]
          simp only [Rows.uptoBulk]
          omega
set_option maxRecDepth 100000 in
theorem arg_ty2 {base : Nat} {r : Reach} {v : Value} {d : DataW H} {p : List MemPlace} (hv : Value.okWide Tryd.prog W r base 24 v) (h : DataW.Trod enc Tryd.prog W 0 sp hd 24 v d p)
    (hw : ∀ n ∈ d.weights Tryd.prog 24, n ≤ reachBytes) : ∃ t v0 v1, v = .agg #[v0, v1] ∧ TyO W t [v0, v1] ∧ t.Fit ∧ t.text.length + 1 ≤ 22 * Rows.uptoBulk d := by
  obtain ⟨cs, rfl⟩ := okWide_agg Tryd.underlying24 hv
  obtain ⟨fuel, hf⟩ := h
  obtain ⟨t, ht, hd⟩ := open_ty2 fuel _ _ hf hw
  obtain ⟨v0, v1, hc⟩ := TyR_len ht
  have hc2 : cs.toList = [v0, v1] := by simpa [Value.cells] using hc
  obtain rfl : cs = #[v0, v1] := by
    cases cs
    simp_all
  exact ⟨t, v0, v1, rfl, by simpa [Value.cells] using ht, hd⟩
end
end Go.Proofs.YtmdgoalekkkpnaaDoor
