/- Appends to a row of the call's own, with what they draw. -/
import Derived.Test.YtjpdmncafacmaaaGreatDoorOrdered
set_option linter.unusedVariables false
set_option linter.unusedSimpArgs false
namespace Go.Proofs.YtjpdmncafacmaaaGreatDoor
open Go.RowKit

/-- An append draws forward. -/
theorem append_drawn {P : Program} {w w' : World} {t e k bytes base m c n : Nat} {ty : TypeId} (HI : ElemInfo P t e k bytes) {v v' : Value} {inner : List Value} (hown : w.ownsRow base e k v n inner)
    (a : Addr) (news : List Value) (hl : news.length = m * k) (hc : ∀ j u, news[j]? = some u → w.cell? (a.add j) = some u) (h1 : ∀ u ∈ news, u.oneCell' = true)
    (hbytes : (n + m) * bytes ≤ 140737488355328) (hb0 : 0 < bytes) (hm : 0 < m)
    (hrun : (Builtin.append_ #[t, t] ty #[v, .slice (some a) m c]).run P w = .ok v' w') : w.drawn ≤ w'.drawn := by
  obtain ⟨i, z, hi, hz, hsz, hby, hzs⟩ := HI.info
  have h63 : n + m ≤ maxLen := by
    have : (n + m) * 1 ≤ (n + m) * bytes := Nat.mul_le_mul_left _ hb0
    simp only [maxLen]
    omega
  rcases hown.2 with ⟨rfl, h0⟩ | ⟨g0, cap, cur, rfl, hb, hg, hnc, hcm, hcs, htake⟩
  · have hr2 := run_append_nil (P := P) w t ty e i z HI.under hi hz a m c news (by rw [hl, hsz]) hc hm (by simp only [maxLen] at h63; omega) (by rw [hby]; have : m * bytes ≤ (n + m) * bytes := Nat.mul_le_mul_right _ (by omega); omega)
    rw [hr2] at hrun
    injection hrun with _ e2
    subst e2
    exact Nat.le_succ _
  · by_cases hroom : n + m ≤ cap
    · have hfit : n * i.size + news.length ≤ cur.size := by
        rw [hl, hcs, hsz]
        have := Nat.mul_le_mul_right k hroom
        rw [Nat.add_mul] at this
        omega
      have hr2 := run_append_room (P := P) w t ty e i HI.under hi g0 n cap cur hg a m c news (by rw [hl, hsz]) hc h1 hroom hfit
      rw [hr2] at hrun
      injection hrun with _ e2
      subst e2
      exact Nat.le_refl _
    · have holds : ∀ j u, inner[j]? = some u → w.cell? ((⟨g0, 0, none⟩ : Addr).add j) = some u := hown.cells (g := g0) rfl
      have hr2 := run_append_grow (P := P) w t ty e i z HI.under hi hz ⟨g0, 0, none⟩ n cap inner (by rw [hown.1, hsz]) holds a m c news (by rw [hl, hsz]) hc (by omega) (by simp only [maxLen] at h63; omega) (growslice_fits (by omega) (by rw [hby]; exact hbytes))
      rw [hr2] at hrun
      injection hrun with _ e2
      subst e2
      exact Nat.le_succ _

/-- One element appended, as a run. -/
theorem Own.app_run {α : Type} {r : RdS α} (hr : Moves r) {P : Program} {w : World}
    {t e k bytes : Nat} (HI : ElemInfo P t e k bytes) {base : Nat} {ok : Nat → Prop} {v : Value} {xs : List α} (H : Own r w base e k ok v xs) (ty : TypeId)
    {g : Nat} (y : α) (cs : List Value) (hl : cs.length = k) (hc : ∀ j u, cs[j]? = some u → w.cell? ⟨g, j, none⟩ = some u)
    (h1 : ∀ u ∈ cs, u.oneCell' = true) (hy : r (Sup ok w v) w y cs) (hbytes : (xs.length + 1) * bytes ≤ 140737488355328) (hb0 : 0 < bytes) (hbase : base ≤ w.heap.size) :
    ∃ v' w', (Builtin.append_ #[t, t] ty #[v, .slice (some ⟨g, 0, none⟩) 1 1]).run P w = .ok v' w' ∧ Own r w' base e k ok v' (xs ++ [y]) ∧ GrewR w w' v.ownBlock ∧ (v'.ownBlock = v.ownBlock ∨ v'.ownBlock = some w.heap.size) := by
  obtain ⟨v', w', hrun, h2, h3, h4⟩ := Own.append_run hr HI H ty y cs hl hc h1 hy hbytes hb0 hbase
  obtain ⟨inner, hown, _⟩ := H
  refine ⟨v', w', hrun, h2, ⟨h3, ?_⟩, h4⟩
  exact append_drawn HI hown ⟨g, 0, none⟩ cs (by omega) (fun j u hj => by rw [addr_add]; exact hc j u hj) h1 hbytes hb0 (by omega) hrun
/-- One element appended, at the operation. -/
theorem Own.app1 {α : Type} {r : RdS α} (hr : Moves r) {P : Program} {ops : Array Oper} {rest : List Oper} {o : Oper} {a : Act} {Q : Exit → Act → World → Prop} {w : World}
    {t e k bytes : Nat} (HI : ElemInfo P t e k bytes) {base : Nat} {ok : Nat → Prop} {v : Value} {xs : List α} (H : Own r w base e k ok v xs)
    (hgd : o.guard = none) (s x : Operand) (ho : o.op = .call { callee := .builtin .append, args := #[s, x], argTypes := #[t, t] }) (hs : a.eval s = v)
    {g : Nat} (hx : a.eval x = .slice (some ⟨g, 0, none⟩) 1 1) (y : α) (cs : List Value) (hl : cs.length = k) (hc : ∀ j u, cs[j]? = some u → w.cell? ⟨g, j, none⟩ = some u)
    (h1 : ∀ u ∈ cs, u.oneCell' = true) (hy : r (Sup ok w v) w y cs) (hbytes : (xs.length + 1) * bytes ≤ 140737488355328) (hb0 : 0 < bytes) (hbase : base ≤ w.heap.size)
    (h : ∀ v' w', Own r w' base e k ok v' (xs ++ [y]) → GrewR w w' v.ownBlock → (v'.ownBlock = v.ownBlock ∨ v'.ownBlock = some w.heap.size) → wpList P ops Q rest (a.put o.dst v') w') :
    wpList P ops Q (o :: rest) a w := by
  obtain ⟨v', w', hrun, h2, h3, h4⟩ := Own.app_run hr HI H o.type y cs hl hc h1 hy hbytes hb0 hbase
  exact append_list s x hgd ho hs hx hrun (h v' w' h2 h3 h4)

/-- A slice appended, as a run. -/
theorem Own.app_sl {α : Type} {r : RdS α} (hr : Moves r) {P : Program} {w : World} {t e k bytes : Nat} (HI : ElemInfo P t e k bytes) {base : Nat} {ok : Nat → Prop} {v : Value} {xs : List α} (H : Own r w base e k ok v xs) (ty : TypeId)
    {S : Nat → Prop} {ys : List α} {u : Value} (hy : Sl S w k (r S w) ys u) (hS : ∀ b, S b → Sup ok w v b) (h1 : ∀ x cs, r S w x cs → ∀ u ∈ cs, u.oneCell' = true)
    (hbytes : (xs.length + ys.length) * bytes ≤ 140737488355328) (hb0 : 0 < bytes) (hbase : base ≤ w.heap.size) :
    ∃ v' w', (Builtin.append_ #[t, t] ty #[v, u]).run P w = .ok v' w' ∧ Own r w' base e k ok v' (xs ++ ys) ∧ GrewR w w' v.ownBlock ∧ (v'.ownBlock = v.ownBlock ∨ v'.ownBlock = some w.heap.size) := by
  obtain ⟨A, c, rfl, hcap, hlen⟩ := hy.val
  obtain ⟨v', w', hrun, h2, h3⟩ := Own.append_sl hr HI H ty hy hS h1 hbytes hb0 hbase
  obtain ⟨inner, hown, _⟩ := H
  obtain ⟨i, z, hi, hz, hsz, hby, hzs⟩ := HI.info
  suffices hd : w.drawn ≤ w'.drawn ∧ (v'.ownBlock = v.ownBlock ∨ v'.ownBlock = some w.heap.size) from ⟨v', w', hrun, h2, ⟨h3, hd.1⟩, hd.2⟩
  rcases Nat.eq_zero_or_pos ys.length with h0 | hm
  · have hys : ys = [] := List.eq_nil_of_length_eq_zero h0
    subst hys
    rw [show ([] : List α).length = 0 from rfl] at hrun
    cases A with
    | none =>
      rw [run_append_none_any (P := P) base t ty e i k c HI.under hi v xs.length inner hown] at hrun
      injection hrun with e1 e2
      subst e1 e2
      exact ⟨Nat.le_refl _, .inl rfl⟩
    | some a =>
      have hz2 := run_append_zero2 (P := P) (ty := ty) HI.under hi hown a c
      rw [hz2] at hrun
      injection hrun with e1 e2
      subst e1 e2
      exact ⟨Nat.le_refl _, .inl rfl⟩
  · obtain ⟨A', c', he, _, _, hp⟩ := hy
    injection he with e1 _ _
    subst e1
    obtain ⟨b, o, rfl, hb, hx⟩ := hp hm
    obtain ⟨news, hl, hnews, hn1⟩ : ∃ news : List Value, news.length = ys.length * k ∧ (∀ j u, news[j]? = some u → w.cell? ((⟨b, o, none⟩ : Addr).add j) = some u) ∧ (∀ u ∈ news, u.oneCell' = true) := by
      have hsome : ∀ q, q < ys.length * k → ∃ u, w.cell? ⟨b, o + q, none⟩ = some u ∧ u.oneCell' = true := fun q hq => by
        have hi : q / k < ys.length := (Nat.div_lt_iff_lt_mul HI.pos).2 hq
        obtain ⟨cs, hcl, hcc, hr'⟩ := hx _ hi
        have hlt : q % k < cs.length := by rw [hcl]; exact Nat.mod_lt _ HI.pos
        have h5 := hcc _ (Nat.mod_lt q HI.pos)
        rw [List.getElem?_eq_getElem hlt, show o + q / k * k + q % k = o + q by have := Nat.div_add_mod q k; rw [Nat.mul_comm] at this; omega] at h5
        exact ⟨_, h5, h1 _ _ hr' _ (List.getElem_mem hlt)⟩
      refine ⟨rowCells w b o (ys.length * k), rowCells_len _ _ _ _, fun j u hj => ?_, fun u hu => ?_⟩
      · rw [rowCells_get] at hj
        by_cases hlt : j < ys.length * k
        · rw [if_pos hlt] at hj
          obtain ⟨u', hu', _⟩ := hsome j hlt
          rw [hu'] at hj
          rw [Addr.add_lit, hu']
          exact hj
        · rw [if_neg hlt] at hj; cases hj
      · simp only [rowCells, List.mem_map, List.mem_range] at hu
        obtain ⟨j, hj, rfl⟩ := hu
        obtain ⟨u', hu', h1'⟩ := hsome j hj
        rw [hu']
        exact h1'
    refine ⟨append_drawn HI hown _ news hl hnews hn1 hbytes hb0 hm hrun, ?_⟩
    have h63 : xs.length + ys.length ≤ maxLen := by
      have : (xs.length + ys.length) * 1 ≤ (xs.length + ys.length) * bytes := Nat.mul_le_mul_left _ hb0
      simp only [maxLen]
      omega
    rcases hown.2 with ⟨rfl, h0⟩ | ⟨g0, cap, cur, rfl, hb, hg, hnc, hcm, hcs, htake⟩
    · have hr2 := run_append_nil (P := P) w t ty e i z HI.under hi hz ⟨b, o, none⟩ ys.length c news (by rw [hl, hsz]) hnews hm (by simp only [maxLen] at h63; omega) (by rw [hby]; have : ys.length * bytes ≤ (xs.length + ys.length) * bytes := Nat.mul_le_mul_right _ (by omega); omega)
      rw [hr2] at hrun
      injection hrun with e1 _
      subst e1
      exact .inr rfl
    · by_cases hroom : xs.length + ys.length ≤ cap
      · have hfit : xs.length * i.size + news.length ≤ cur.size := by
          rw [hl, hcs, hsz]
          have := Nat.mul_le_mul_right k hroom
          rw [Nat.add_mul] at this
          omega
        have hr2 := run_append_room (P := P) w t ty e i HI.under hi g0 xs.length cap cur hg ⟨b, o, none⟩ ys.length c news (by rw [hl, hsz]) hnews hn1 hroom hfit
        rw [hr2] at hrun
        injection hrun with e1 _
        subst e1
        exact .inl rfl
      · have holds : ∀ j u, inner[j]? = some u → w.cell? ((⟨g0, 0, none⟩ : Addr).add j) = some u := hown.cells (g := g0) rfl
        have hr2 := run_append_grow (P := P) w t ty e i z HI.under hi hz ⟨g0, 0, none⟩ xs.length cap inner (by rw [hown.1, hsz]) holds ⟨b, o, none⟩ ys.length c news (by rw [hl, hsz]) hnews (by omega) (by simp only [maxLen] at h63; omega) (growslice_fits (by omega) (by rw [hby]; exact hbytes))
        rw [hr2] at hrun
        injection hrun with e1 _
        subst e1
        exact .inr rfl
end Go.Proofs.YtjpdmncafacmaaaGreatDoor
