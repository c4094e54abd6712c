/- Append to a row of the call's own, as a run (for a drawn region). -/
import Derived.Test.YtjpdmncafacmaaaGreatDoorOwn
import Derived.Test.YtjpdmncafacmaaaGreatDoorHeld
set_option linter.unusedVariables false
set_option linter.unusedSimpArgs false
namespace Go.Proofs.YtjpdmncafacmaaaGreatDoor
open Go.RowKit

/-- One element appended, as a run. -/
theorem Own.append_run {α : Type} {r : RdS α} (hr : Moves r) {P : Program} {w : World}
    {t e k bytes : Nat} (HI : ElemInfo P t e k bytes) {base : Nat} {ok : Nat → Prop} {v : Value} {xs : List α} (H : Own r w base e k ok v xs) (ty : TypeId)
    {g : Nat} (y : α) (cs : List Value) (hl : cs.length = k) (hc : ∀ j u, cs[j]? = some u → w.cell? ⟨g, j, none⟩ = some u)
    (h1 : ∀ u ∈ cs, u.oneCell' = true) (hy : r (Sup ok w v) w y cs) (hbytes : (xs.length + 1) * bytes ≤ 140737488355328) (hb0 : 0 < bytes) (hbase : base ≤ w.heap.size) :
    ∃ v' w', (Builtin.append_ #[t, t] ty #[v, .slice (some ⟨g, 0, none⟩) 1 1]).run P w = .ok v' w' ∧ Own r w' base e k ok v' (xs ++ [y]) ∧ w.grownBy w' v.ownBlock ∧ (v'.ownBlock = v.ownBlock ∨ v'.ownBlock = some w.heap.size) := by
  obtain ⟨inner, hown, hone, hxx⟩ := H
  obtain ⟨i, z, hi, hz, hsz, hby, hzs⟩ := HI.info
  have hlt := hown.lt
  have h63 : xs.length + 1 ≤ maxLen := by
    have : (xs.length + 1) * 1 ≤ (xs.length + 1) * bytes := Nat.mul_le_mul_left _ hb0
    simp only [maxLen]
    omega
  -- where the new row lies
  have hrun := run_append_own (P := P) w base t ty e i z k bytes HI.under hi hz hsz hby hzs HI.pos v xs.length inner hown ⟨g, 0, none⟩ 1 1 cs (by omega)
    (fun j u hj => by rw [addr_add]; exact hc j u hj) h1 h63 hbytes hbase
  obtain ⟨v', w', hrun, hown', hgrow, hnil⟩ := hrun
  have hplace : v'.ownBlock = v.ownBlock ∨ v'.ownBlock = some w.heap.size := by
    rcases hown.2 with ⟨rfl, h0⟩ | ⟨g0, cap, cur, rfl, hb, hg, hnc, hcm, hcs, htake⟩
    · have hr2 := run_append_nil (P := P) w t ty e i z HI.under hi hz ⟨g, 0, none⟩ 1 1 cs (by omega)
        (fun j u hj => by rw [addr_add]; exact hc j u hj) (by omega) (by first | omega | (simp only [maxLen]; omega)) (by rw [hby]; have : (0 + 1) * bytes ≤ (xs.length + 1) * bytes := Nat.mul_le_mul_right _ (by omega); omega)
      rw [hr2] at hrun
      injection hrun with e1 _
      subst e1
      exact .inr rfl
    · by_cases hroom : xs.length + 1 ≤ cap
      · have hfit : xs.length * i.size + cs.length ≤ cur.size := by
          rw [hl, hcs, hsz]
          have := Nat.mul_le_mul_right k hroom
          rw [Nat.add_mul] at this
          omega
        have hr2 := run_append_room (P := P) w t ty e i HI.under hi g0 xs.length cap cur hg ⟨g, 0, none⟩ 1 1 cs (by omega)
          (fun j u hj => by rw [addr_add]; exact hc j u hj) h1 hroom hfit
        rw [hr2] at hrun
        injection hrun with e1 _
        subst e1
        exact .inl rfl
      · have holds : ∀ j u, inner[j]? = some u → w.cell? ((⟨g0, 0, none⟩ : Addr).add j) = some u := hown.cells (g := g0) rfl
        have hr2 := run_append_grow (P := P) w t ty e i z HI.under hi hz ⟨g0, 0, none⟩ xs.length cap inner (by rw [hown.1, hsz]) holds ⟨g, 0, none⟩ 1 1 cs (by omega)
          (fun j u hj => by rw [addr_add]; exact hc j u hj) (by omega) (by simp only [maxLen] at h63; omega) (growslice_fits (by omega) (by rw [hby]; exact hbytes))
        rw [hr2] at hrun
        injection hrun with e1 _
        subst e1
        exact .inr rfl
  have hsup : ∀ b, Sup ok w v b → Sup ok w' v' b := fun b hb => ⟨hb.1, Nat.lt_of_lt_of_le hb.2.1 hgrow.size, by
    rcases hplace with e | e
    · rw [e]; exact hb.2.2
    · rw [e]
      intro e2
      injection e2 with e2
      have := hb.2.1
      omega⟩
  have hmv : ∀ b, Sup ok w v b → w'.heap[b]? = w.heap[b]? := fun b hb => hgrow.block b hb.2.1 hb.2.2
  have hO : Own r w' base e k ok v' (xs ++ [y]) := by
    refine ⟨inner ++ cs, by simpa using hown', fun u hu => (List.mem_append.1 hu).elim (hone u) (h1 u), fun i hi => ?_⟩
    by_cases hlast : i < xs.length
    · obtain ⟨ds, hdl, hdc, hdr⟩ := hxx i hlast
      refine ⟨ds, hdl, fun j hj => ?_, ?_⟩
      · have hik : i * k + j < inner.length := by
          rw [hown.1]
          have : (i + 1) * k ≤ xs.length * k := Nat.mul_le_mul_right _ hlast
          rw [Nat.add_mul] at this
          omega
        rw [List.getElem?_append_left hik]
        exact hdc j hj
      · rw [List.getElem_append_left hlast]
        exact hr _ _ _ _ _ _ hsup hmv hdr
    · obtain rfl : i = xs.length := by simp at hi; omega
      refine ⟨cs, hl, fun j hj => ?_, ?_⟩
      · rw [List.getElem?_append_right (by rw [hown.1]; omega), hown.1]
        congr 1
        omega
      · rw [List.getElem_append_right (by omega)]
        simpa using hr _ _ _ _ _ _ hsup hmv hy
  exact ⟨v', w', hrun, hO, hgrow, hplace⟩
end Go.Proofs.YtjpdmncafacmaaaGreatDoor
