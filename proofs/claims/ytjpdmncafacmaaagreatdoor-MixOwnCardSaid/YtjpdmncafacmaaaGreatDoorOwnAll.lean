/- A row appended to a row of the call's own. -/
import Derived.Test.YtjpdmncafacmaaaGreatDoorOwnRun
import Derived.Laws.OwnMore
set_option linter.unusedVariables false
set_option linter.unusedSimpArgs false
namespace Go.Proofs.YtjpdmncafacmaaaGreatDoor
open Go.RowKit

/-- The cells of a block from an index on. -/
def rowCells (w : World) (b o n : Nat) : List Value := (List.range n).map fun j => (w.cell? ⟨b, o + j, none⟩).getD (.bool false)
theorem rowCells_len (w : World) (b o n : Nat) : (rowCells w b o n).length = n := by simp [rowCells]
theorem rowCells_get (w : World) (b o n j : Nat) : (rowCells w b o n)[j]? = if j < n then some ((w.cell? ⟨b, o + j, none⟩).getD (.bool false)) else none := by
  unfold rowCells
  by_cases h : j < n <;> simp [h]
theorem Sl.cellAny {α : Type} {S : Nat → Prop} {w : World} {k : Nat} {r : α → List Value → Prop} {xs : List α} {b o n c : Nat} (h : Sl S w k r xs (.slice (some ⟨b, o, none⟩) n c)) (hk : 0 < k) :
    ∀ q, q < xs.length * k → ∃ cs i, ∃ hi : i < xs.length, r xs[i] cs ∧ cs.length = k ∧ q / k = i ∧ w.cell? ⟨b, o + q, none⟩ = cs[q % k]? := by
  intro q hq
  have hi : q / k < xs.length := (Nat.div_lt_iff_lt_mul hk).2 hq
  obtain ⟨A', c', he, _, _, hp⟩ := h
  injection he with h1 h2 h3
  obtain ⟨b', o', ha, hb, hc⟩ := hp (Nat.lt_of_le_of_lt (Nat.zero_le _) hi)
  rw [← h1] at ha
  injection ha with ha
  injection ha with hb' ho' _
  subst hb' ho'
  obtain ⟨cs, hl, hcell, hr⟩ := hc _ hi
  refine ⟨cs, _, hi, hr, hl, rfl, ?_⟩
  rw [← hcell (q % k) (Nat.mod_lt _ hk)]
  congr 2
  have := Nat.div_add_mod q k
  rw [Nat.mul_comm] at this
  omega

theorem run_append_none_any {P : Program} {w : World} (base : Nat) (t ty e : TypeId) (i : TypeInfo) (size c : Nat) (ht : P.underlying t = some (.slice e)) (hi : P.info? e = some i)
    (v : Value) (n : Nat) (xs : List Value) (hown : w.ownsRow base e size v n xs) :
    (Builtin.append_ #[t, t] ty #[v, .slice none 0 c]).run P w = .ok v w := by
  rcases hown.2 with ⟨rfl, rfl⟩ | ⟨g, cap, cur, rfl, _, _, hnc, _⟩
  · simp [Builtin.append_, run_underlying ht, sizeOf, typeInfo, hi, Builtin.lenOf, Builtin.firstCells]
  · simp [Builtin.append_, run_underlying ht, sizeOf, typeInfo, hi, Builtin.lenOf, Builtin.firstCells, hnc, storeCells]
/-- A slice appended, as a run. -/
theorem Own.append_sl {α : Type} {r : RdS α} (hr : Moves r) {P : Program} {w : World} {t e k bytes : Nat} (HI : ElemInfo P t e k bytes) {base : Nat} {ok : Nat → Prop} {v : Value} {xs : List α} (H : Own r w base e k ok v xs) (ty : TypeId)
    {S : Nat → Prop} {ys : List α} {A : Option Addr} {m c : Nat} (hy : Sl S w k (r S w) ys (.slice A m c)) (hS : ∀ b, S b → Sup ok w v b) (h1 : ∀ x cs, r S w x cs → ∀ u ∈ cs, u.oneCell' = true)
    (hbytes : (xs.length + ys.length) * bytes ≤ 140737488355328) (hb0 : 0 < bytes) (hbase : base ≤ w.heap.size) :
    ∃ v' w', (Builtin.append_ #[t, t] ty #[v, .slice A m c]).run P w = .ok v' w' ∧ Own r w' base e k ok v' (xs ++ ys) ∧ w.grownBy w' v.ownBlock := by
  obtain ⟨inner, hown, hone, hxx⟩ := H
  obtain ⟨i, z, hi, hz, hsz, hby, hzs⟩ := HI.info
  have hm := hy.len
  subst hm
  cases A with
  | none =>
    have h0 : ys.length = 0 := by
      rcases Nat.eq_zero_or_pos ys.length with h | h
      · exact h
      · obtain ⟨A', c', he, _, _, hp⟩ := hy
        obtain ⟨b, o, ha, _⟩ := hp h
        injection he with e1 _ _
        rw [← e1] at ha
        cases ha
    have hys : ys = [] := List.eq_nil_of_length_eq_zero h0
    subst hys
    refine ⟨v, w, run_append_none_any (w := w) (P := P) base t ty e i k c HI.under hi v xs.length inner hown, ⟨inner, by simpa using hown, hone, fun i hi => ?_⟩, frm_weak (frm_refl _ _)⟩
    obtain ⟨cs, q1, q2, q3⟩ := hxx i (by simpa using hi)
    exact ⟨cs, q1, q2, by simpa using q3⟩
  | some a =>
    have hcell : ys.length = 0 ∨ (∃ b o, a = ⟨b, o, none⟩) := by
      rcases Nat.eq_zero_or_pos ys.length with h | h
      · exact .inl h
      · obtain ⟨A', c', he, _, _, hp⟩ := hy
        obtain ⟨b, o, ha, _⟩ := hp h
        injection he with e1 _ _
        rw [← e1] at ha
        injection ha with ha
        exact .inr ⟨b, o, ha⟩
    obtain ⟨news, hl, hnews, hn1, hget⟩ : ∃ news : List Value, news.length = ys.length * k ∧ (∀ j u, news[j]? = some u → w.cell? (a.add j) = some u) ∧ (∀ u ∈ news, u.oneCell' = true) ∧
        ∀ i (h : i < ys.length), ∃ cs, cs.length = k ∧ (∀ j, j < k → news[i * k + j]? = cs[j]?) ∧ r S w ys[i] cs := by
      rcases hcell with h | ⟨b, o, rfl⟩
      · exact ⟨[], by simp [h], by simp, by simp, fun i hi => by omega⟩
      · have hc := hy.cellAny HI.pos
        have hsome : ∀ q, q < ys.length * k → ∃ u, w.cell? ⟨b, o + q, none⟩ = some u ∧ u.oneCell' = true := fun q hq => by
          obtain ⟨cs, i, hi, hr', hcl, _, hcc⟩ := hc q hq
          have hlt : q % k < cs.length := by rw [hcl]; exact Nat.mod_lt _ HI.pos
          rw [List.getElem?_eq_getElem hlt] at hcc
          exact ⟨_, hcc, h1 _ _ hr' _ (List.getElem_mem hlt)⟩
        refine ⟨rowCells w b o (ys.length * k), rowCells_len _ _ _ _, fun j u hj => ?_, fun u hu => ?_, fun i hi => ?_⟩
        · rw [rowCells_get] at hj
          by_cases hlt : j < ys.length * k
          · rw [if_pos hlt] at hj
            obtain ⟨u', hu', _⟩ := hsome j hlt
            rw [hu'] at hj
            rw [Addr.add_lit, hu']
            exact hj
          · rw [if_neg hlt] at hj; cases hj
        · simp only [rowCells, List.mem_map, List.mem_range] at hu
          obtain ⟨j, hj, rfl⟩ := hu
          obtain ⟨u', hu', h1'⟩ := hsome j hj
          rw [hu']
          exact h1'
        · obtain ⟨A', c', he, _, _, hp⟩ := hy
          obtain ⟨b', o', ha, _, hcs⟩ := hp (by omega)
          injection he with e1 _ _
          rw [← e1] at ha
          injection ha with ha
          injection ha with e2 e3 _
          subst e2 e3
          obtain ⟨cs, hcl, hcc, hrr⟩ := hcs i hi
          refine ⟨cs, hcl, fun j hj => ?_, hrr⟩
          have hq : i * k + j < ys.length * k := by
            have : (i + 1) * k ≤ ys.length * k := Nat.mul_le_mul_right _ hi
            rw [Nat.add_mul] at this
            omega
          rw [rowCells_get, if_pos hq, ← hcc j hj]
          obtain ⟨u, hu, _⟩ := hsome _ hq
          rw [← Nat.add_assoc] at hu
          rw [← Nat.add_assoc, hu]
          rfl
    have h63 : xs.length + ys.length ≤ maxLen := by
      have : (xs.length + ys.length) * 1 ≤ (xs.length + ys.length) * bytes := Nat.mul_le_mul_left _ hb0
      simp only [maxLen]
      omega
    obtain ⟨v', w', hrun, hown', hgrow, hnil2⟩ := run_append_own (P := P) w base t ty e i z k bytes HI.under hi hz hsz hby hzs HI.pos v xs.length inner hown a ys.length c news hl hnews hn1 h63 hbytes hbase
    have hlt := hown.lt
    -- the new row's place
    have hplace : v'.ownBlock = v.ownBlock ∨ ∀ b, v'.ownBlock = some b → w.heap.size ≤ b := by
      rcases hown.2 with ⟨rfl, h0⟩ | ⟨g0, cap, cur, rfl, hb, hg, hnc, hcm, hcs, htake⟩
      · by_cases hy0 : ys.length = 0
        · exact .inl (by rw [hnil2.2 ⟨rfl, hy0⟩])
        · have hr2 := run_append_nil (P := P) w t ty e i z HI.under hi hz a ys.length c news (by rw [hl, hsz]) hnews (by omega) (by simp only [maxLen] at h63; omega) (by rw [hby]; have : ys.length * bytes ≤ (xs.length + ys.length) * bytes := Nat.mul_le_mul_right _ (by omega); omega)
          rw [hr2] at hrun
          injection hrun with e1 _
          subst e1
          exact .inr fun b hb => by have h9 : some w.heap.size = some b := hb; injection h9 with h9; omega
      · by_cases hroom : xs.length + ys.length ≤ cap
        · have hfit : xs.length * i.size + news.length ≤ cur.size := by
            rw [hl, hcs, hsz]
            have := Nat.mul_le_mul_right k hroom
            rw [Nat.add_mul] at this
            omega
          have hr2 := run_append_room (P := P) w t ty e i HI.under hi g0 xs.length cap cur hg a ys.length c news (by rw [hl, hsz]) hnews hn1 hroom hfit
          rw [hr2] at hrun
          injection hrun with e1 _
          subst e1
          exact .inl rfl
        · have holds : ∀ j u, inner[j]? = some u → w.cell? ((⟨g0, 0, none⟩ : Addr).add j) = some u := hown.cells (g := g0) rfl
          have hr2 := run_append_grow (P := P) w t ty e i z HI.under hi hz ⟨g0, 0, none⟩ xs.length cap inner (by rw [hown.1, hsz]) holds a ys.length c news (by rw [hl, hsz]) hnews (by omega) (by simp only [maxLen] at h63; omega) (growslice_fits (by omega) (by rw [hby]; exact hbytes))
          rw [hr2] at hrun
          injection hrun with e1 _
          subst e1
          exact .inr fun b hb => by have h9 : some w.heap.size = some b := hb; injection h9 with h9; omega
    have hsup : ∀ b, Sup ok w v b → Sup ok w' v' b := fun b hb => ⟨hb.1, Nat.lt_of_lt_of_le hb.2.1 hgrow.size, by
      rcases hplace with e | e
      · rw [e]; exact hb.2.2
      · intro e2
        have := e b e2.symm
        have := hb.2.1
        omega⟩
    have hmv : ∀ b, Sup ok w v b → w'.heap[b]? = w.heap[b]? := fun b hb => hgrow.block b hb.2.1 hb.2.2
    refine ⟨v', w', hrun, ⟨inner ++ news, by simpa using hown', fun u hu => (List.mem_append.1 hu).elim (hone u) (hn1 u), fun i hi => ?_⟩, hgrow⟩
    by_cases hlast : i < xs.length
    · obtain ⟨ds, hdl, hdc, hdr⟩ := hxx i hlast
      refine ⟨ds, hdl, fun j hj => ?_, ?_⟩
      · have hik : i * k + j < inner.length := by
          rw [hown.1]
          have : (i + 1) * k ≤ xs.length * k := Nat.mul_le_mul_right _ hlast
          rw [Nat.add_mul] at this
          omega
        rw [List.getElem?_append_left hik]
        exact hdc j hj
      · rw [List.getElem_append_left hlast]
        exact hr _ _ _ _ _ _ hsup hmv hdr
    · have hi' : i - xs.length < ys.length := by simp at hi; omega
      obtain ⟨cs, hcl, hcc, hrr⟩ := hget _ hi'
      refine ⟨cs, hcl, fun j hj => ?_, ?_⟩
      · rw [List.getElem?_append_right (by rw [hown.1]; have : xs.length * k ≤ i * k := Nat.mul_le_mul_right _ (by omega); omega), hown.1, ← hcc j hj]
        congr 1
        have : i * k = (i - xs.length) * k + xs.length * k := by rw [← Nat.add_mul]; congr 1; omega
        omega
      · rw [List.getElem_append_right (by omega)]
        exact hr _ _ _ _ _ _ (fun b hb => hsup b (hS b hb)) (fun b hb => hmv b (hS b hb)) hrr
end Go.Proofs.YtjpdmncafacmaaaGreatDoor
