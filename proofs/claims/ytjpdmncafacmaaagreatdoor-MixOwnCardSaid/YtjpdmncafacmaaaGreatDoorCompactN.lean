/- slices.Compact at needs: runs of equals are struck. -/
import Derived.Test.YtjpdmncafacmaaaGreatDoorSortN
import Derived.StillTailTactics
import Derived.Laws.IdiomCopy
import Derived.IntWalk
set_option linter.unusedVariables false
set_option linter.unusedSimpArgs false
namespace Go.Proofs.YtjpdmncafacmaaaGreatDoor
open Go.RowKit

/-- One element more. -/
theorem cptGo_snoc {α : Type} (eq : α → α → Bool) (y : α) : ∀ (l : List α) (p : α), cptGo eq p (l ++ [y]) = cptGo eq p l ++ (if eq y ((p :: l).getLast (by simp)) then [] else [y])
  | [], p => by cases h : eq y p <;> simp [cptGo, h]
  | z :: l, p => by
    rw [List.cons_append]
    unfold cptGo
    have ih := cptGo_snoc eq y l z
    rw [List.getLast_cons (by simp)]
    by_cases h : eq z p = true
    · rw [if_pos h, if_pos h, ih]
    · rw [if_neg h, if_neg h, ih, List.cons_append]
theorem cpt_snoc {α : Type} (eq : α → α → Bool) (ts : List α) (m : Nat) (h : m + 1 < ts.length) : cpt eq (ts.take (m + 2)) = cpt eq (ts.take (m + 1)) ++ (if eq ts[m + 1] ts[m] then [] else [ts[m + 1]]) := by
  have e1 : ts.take (m + 2) = ts.take (m + 1) ++ [ts[m + 1]] := List.take_succ_eq_append_getElem h
  have hne : ts.take (m + 1) ≠ [] := by
    intro e
    have h2 := congrArg List.length e
    rw [List.length_take, List.length_nil] at h2
    omega
  rw [e1]
  obtain ⟨p, l, hpl⟩ := List.exists_cons_of_ne_nil hne
  rw [hpl]
  show p :: cptGo eq p (l ++ [ts[m + 1]]) = (p :: cptGo eq p l) ++ _
  rw [cptGo_snoc, List.cons_append]
  have : (p :: l).getLast (by simp) = ts[m] := by
    have h2 : (p :: l)[m]? = some ts[m] := by rw [← hpl, List.getElem?_take, if_pos (by omega), List.getElem?_eq_getElem (by omega)]
    have h3 : (p :: l).length = m + 1 := by rw [← hpl, List.length_take]; omega
    rw [List.getLast_eq_getElem]
    have h4 : (p :: l).length - 1 = m := by omega
    simp only [h4]
    exact (List.getElem?_eq_some_iff.1 h2).2
  rw [this]
theorem cpt_length_le {α : Type} (eq : α → α → Bool) (l : List α) : (cpt eq l).length ≤ l.length := by
  have key : ∀ (l : List α) (p : α), (cptGo eq p l).length ≤ l.length := by
    intro l
    induction l with
    | nil => simp [cptGo]
    | cons y s ih =>
      intro p
      unfold cptGo
      split
      · exact Nat.le_trans (ih y) (by simp)
      · simpa using ih y
  cases l with
  | nil => simp [cpt]
  | cons x l => simpa [cpt] using key l x

/-- clear of the end of a row of types. -/
theorem run_clear2 {w : World} {P : Program} {t e ty : TypeId} {z : Value} (ht : P.underlying t = some (.slice e)) (hv : ∀ w, (zeroValue e).run P w = .ok z w) (hz2 : z.cells.size = 2) (h1 : ∀ u ∈ z.cells, u.oneCell' = true) (b o n c : Nat) (hn : 0 < n)
    (hc : ∀ j, j < n * 2 → (w.cell? ⟨b, o + j, none⟩).isSome = true) (hf : ∀ j, j < n * 2 → w.frozen? ⟨b, o + j, none⟩ = false) :
    ∃ vs : List Value, vs.length = n * 2 ∧ (Builtin.clear_ #[t] ty #[.slice (some ⟨b, o, none⟩) n c]).run P w = .ok (.tuple #[]) (w.setCells b o vs) := by
  have hl : (Builtin.zeroCells z.cells n).toList.length = n * 2 := by simp [Builtin.zeroCells, hz2]
  have hst := run_storeCells_cells (P := P) b o (Builtin.zeroCells z.cells n).toList 0 w (by rw [hl]; simpa using hc) (by rw [hl]; simpa using hf) (by
    intro v hv'
    simp only [Builtin.zeroCells, Array.mem_toList_iff, Array.mem_map] at hv'
    obtain ⟨i, _, rfl⟩ := hv'
    refine h1 _ ?_
    have hm : i % z.cells.size < z.cells.size := Nat.mod_lt _ (by omega)
    rw [getElem!_pos z.cells (i % z.cells.size) hm]
    exact Array.getElem_mem hm)
  simp only [Nat.add_zero] at hst
  obtain ⟨m, rfl⟩ : ∃ m, n = m + 1 := ⟨n - 1, by omega⟩
  exact ⟨_, hl, by simp [Builtin.clear_, run_underlying ht, hv, hst]⟩


def eqN (x y : Nd) : Bool := Nd.cmp x y == 0
theorem eqN_eq (x y : Nd) : eqN x y = (x.1 == y.1 && x.2 == y.2) := by
  unfold eqN
  rw [Bool.eq_iff_iff]
  simp only [beq_iff_eq, Bool.and_eq_true]
  constructor
  · intro h
    have := ord_nd.eq _ _ h
    subst this
    exact ⟨rfl, rfl⟩
  · rintro ⟨h1, h2⟩
    have : x = y := Prod.ext h1 h2
    subst this
    exact ord_nd.refl _
/-- Go's own comparison of two needs. -/
theorem run_eqN (x y : Nd) (w : World) : (binOp .eql 80 (.agg #[.int .i64 x.1, .int .i64 x.2]) (.agg #[.int .i64 y.1, .int .i64 y.2])).run Tryz.prog w = .ok (.bool (eqN x y)) w := by
  rw [eqN_eq]
  have hu := Tryz.underlying80
  have hi := Tryz.underlying3
  have hs : Tryz.prog.stoodInHeld 80 = false := by kernel_rfl
  have h1 : (x.1 == y.1) = true ∨ (x.1 == y.1) = false := by cases (x.1 == y.1) <;> simp
  have h2 : (x.2 == y.2) = true ∨ (x.2 == y.2) = false := by cases (x.2 == y.2) <;> simp
  rcases h1 with h1 | h1 <;> rcases h2 with h2 | h2 <;> simp [h1, h2, go_sem, hu, hi, hs] <;> simpa using h2
theorem run_neN (x y : Nd) (w : World) : (binOp .neq 80 (.agg #[.int .i64 x.1, .int .i64 x.2]) (.agg #[.int .i64 y.1, .int .i64 y.2])).run Tryz.prog w = .ok (.bool (!eqN x y)) w := by
  rw [eqN_eq]
  have hu := Tryz.underlying80
  have hi := Tryz.underlying3
  have hs : Tryz.prog.stoodInHeld 80 = false := by kernel_rfl
  have h1 : (x.1 == y.1) = true ∨ (x.1 == y.1) = false := by cases (x.1 == y.1) <;> simp
  have h2 : (x.2 == y.2) = true ∨ (x.2 == y.2) = false := by cases (x.2 == y.2) <;> simp
  rcases h1 with h1 | h1 <;> rcases h2 with h2 | h2 <;> simp [h1, h2, go_sem, hu, hi, hs] <;> simpa using h2
/-- The needs' cells in a row. -/
theorem RowG.nd {S : Nat → Prop} {w : World} {g : Nat} {xs : List Nd} (h : RowG 2 NdR S w g xs) (i : Nat) (hi : i < xs.length) :
    w.cell? ⟨g, i * 2, none⟩ = some (.int .i64 xs[i].1) ∧ w.cell? ⟨g, i * 2 + 1, none⟩ = some (.int .i64 xs[i].2) ∧ NdR S w xs[i] [.int .i64 xs[i].1, .int .i64 xs[i].2] := by
  obtain ⟨cs, hl, hc, hx⟩ := h i hi
  obtain ⟨rfl, hb⟩ := id hx
  exact ⟨hc 0 (by omega), hc 1 (by omega), hx⟩
theorem RowG.setN {S : Nat → Prop} {w : World} {g : Nat} {xs : List Nd} (h : RowG 2 NdR S w g xs) {k : Nat} (hk : k < xs.length) {x : Nd} (hx : NdR S w x [.int .i64 x.1, .int .i64 x.2]) :
    RowG 2 NdR S ((w.setCell ⟨g, k * 2, none⟩ (.int .i64 x.1)).setCell ⟨g, k * 2 + 1, none⟩ (.int .i64 x.2)) g (xs.set k x) := by
  intro i hi
  rw [List.length_set] at hi
  obtain ⟨c0, c1, ht⟩ := h.nd i hi
  by_cases e : k = i
  · subst e
    refine ⟨[.int .i64 x.1, .int .i64 x.2], rfl, fun j hj => ?_, ?_⟩
    · match j, hj with
      | 0, _ =>
        show World.cell? _ ⟨g, k * 2, none⟩ = _
        rw [World.cell?_setCell_other _ _ _ _ (by intro h; injection h with _ h _; omega)]
        exact World.cell?_setCell_same _ _ _ c0
      | 1, _ => exact World.cell?_setCell_same _ _ _ ((World.cell?_setCell_other _ _ _ _ (by intro h; injection h with _ h _; omega)).trans c1)
    · rw [List.getElem_set_self]; exact hx
  · refine ⟨[.int .i64 xs[i].1, .int .i64 xs[i].2], rfl, fun j hj => ?_, ?_⟩
    · match j, hj with
      | 0, _ =>
        show World.cell? _ ⟨g, i * 2, none⟩ = _
        rw [World.cell?_setCell_other _ _ _ _ (by intro h; injection h with _ h _; omega), World.cell?_setCell_other _ _ _ _ (by intro h; injection h with _ h _; omega)]
        exact c0
      | 1, _ =>
        rw [World.cell?_setCell_other _ _ _ _ (by intro h; injection h with _ h _; omega), World.cell?_setCell_other _ _ _ _ (by intro h; injection h with _ h _; omega)]
        exact c1
    · rw [List.getElem_set_ne e]; exact ht

/-- The inner loop: from `k0` on, `k2` elements are held; `k` elements are kept. -/
def InN (S : Nat → Prop) (w : World) (g : Nat) (ts : List Nd) (k0 k2 k : Nat) (wr : World) : Prop :=
  ∃ cur, GrewR w wr (some g) ∧ Unf wr g ∧ RowG 2 NdR S wr g cur ∧ cur.length = ts.length ∧ (∀ j, k ≤ j → cur[j]? = ts[j]?) ∧ cur.take k = cpt eqN (ts.take (k0 + k2)) ∧ k < k0 + k2 ∧ 1 ≤ k

set_option maxRecDepth 100000 in
set_option maxHeartbeats 1000000 in
theorem compactN_calls {S : Nat → Prop} {w : World} {g cap : Nat} {ts : List Nd} (hg : g < w.heap.size) (hu : Unf w g) (hr : RowG 2 NdR S w g ts) (hlen : ts.length ≤ 140737488351232) (hcap : ts.length ≤ cap) :
    Calls Tryz.prog 104 #[.slice (some ⟨g, 0, none⟩) ts.length cap] w fun e w' => e = .returned (.slice (some ⟨g, 0, none⟩) (cpt eqN ts).length cap) ∧ GrewR w w' (some g) ∧ Unf w' g ∧ RowG 2 NdR S w' g (cpt eqN ts) := by
  by_cases h2 : ts.length < 2
  · have hc : Hid (cpt eqN ts = ts) := by
      match ts, h2 with
      | [], _ => rfl
      | [x], _ => rfl
    have HU := Lib.hid hu
    clear hu
    go_enter Tryz.func104, Tryz.ntmps104
    go_wp2_with fail
    refine bodyPost_ret (results_tmp rfl _ _ _) rfl ⟨?_, grewR_refl _ _, HU.out, ?_⟩
    · rw [hc.out]; rfl
    · rw [hc.out]; exact hr
  have HR := Lib.hid hr
  have HU := Lib.hid hu
  clear hr hu
  go_enter Tryz.func104, Tryz.ntmps104
  go_wp2_with fail
  go_loopw [3] (fun i wr => ∃ k q : Nat, 1 ≤ k ∧ k ≤ ts.length ∧ i = .int .i64 k ∧ wr = w.drewN q ∧ Hid (cpt eqN (ts.take k) = ts.take k)) (fun i _ => ts.length - (intOf i).toNat)
  case atStart => exact ⟨1, 0, Nat.le_refl _, by omega, rfl, rfl, by
    match ts, h2 with
    | x :: l, _ => rfl⟩
  case round =>
    obtain ⟨k, q, hk1, hk, rfl, rfl, HC⟩ := hrel
    by_cases hlt : k < ts.length
    · obtain ⟨k0, hk0⟩ : ∃ m, k = m + 1 := ⟨k - 1, by omega⟩
      obtain ⟨hp0, hp1, _⟩ := HR.out.nd k hlt
      obtain ⟨hq0, hq1, -⟩ := HR.out.nd k0 (by omega)
      have hsn : Hid (cpt eqN (ts.take (k + 1)) = cpt eqN (ts.take k) ++ (if eqN ts[k] ts[k0] then [] else [ts[k]])) := by subst hk0; exact cpt_snoc eqN ts k0 hlt
      have htk := Lib.hid (List.take_succ_eq_append_getElem hlt)
      generalize hx : ts[k] = x at *
      generalize hy : ts[k0] = y at *
      have HK0 := Lib.hid hk0
      clear hx hy
      have hi1 : (1 : Int) ≤ k := by omega
      have hi2 : IntKind.i64.wrap ((k : Int) - 1) = (k : Int) - 1 := IntWalk.i64_in _ (by omega)
      have hi3 : ((k : Int) - 1).toNat = k0 := by omega
      have hi4 : (k : Int) - 1 < ts.length := by omega
      have hi5 : (0 : Int) ≤ (k : Int) := by omega
      have hi6 : (k : Int) < ts.length := by omega
      clear hk0
      cases heq : eqN x y
      · have HN : Hid (cpt eqN (ts.take (k + 1)) = ts.take (k + 1)) := by
          unfold Hid
          rw [hsn.out, heq, if_neg (by simp), HC.out, htk.out]
        have hrun : ∀ w : World, (binOp .eql 80 (.agg #[.int .i64 x.1, .int .i64 x.2]) (.agg #[.int .i64 y.1, .int .i64 y.2])).run Tryz.prog w = .ok (.bool false) w := fun w => by rw [run_eqN, heq]
        clear heq
        go_wp2_with fail
        go_quiet (fail)
        go_wp2_with fail
        exact ⟨⟨k + 1, q + nq, by omega, by omega, by go_num, rfl, HN⟩, by simp [intOf]; omega⟩
      · have HN : Hid (cpt eqN (ts.take (k + 1)) = ts.take k) := by
          unfold Hid
          rw [hsn.out, heq, if_pos rfl, HC.out, List.append_nil]
        have hrun : ∀ w : World, (binOp .eql 80 (.agg #[.int .i64 x.1, .int .i64 x.2]) (.agg #[.int .i64 y.1, .int .i64 y.2])).run Tryz.prog w = .ok (.bool true) w := fun w => by rw [run_eqN, heq]
        clear heq
        go_wp2_with fail
        go_quiet (fail)
        have HF1 : Hid (GrewR w ((w.drewN q).drewN nq) (some g)) := grewR_weak (grew_trans ⟨frm_drewN _ _, Nat.le_add_right _ _⟩ ⟨frm_drewN _ _, Nat.le_add_right _ _⟩)
        have HR1 : Hid (RowG 2 NdR S ((w.drewN q).drewN nq) g ts) := HR.out.move moves_nd (fun _ h => h) (fun _ _ => rfl) rfl
        have HU1 : Hid (Unf ((w.drewN q).drewN nq) g) := HU.out
        clear hrun hp0 hp1 hq0 hq1 hi2 hi3 hi4
        generalize (w.drewN q).drewN nq = wo at *
        go_wp2_with fail
        obtain ⟨m, hm⟩ : ∃ m, m = ts.length - k := ⟨_, rfl⟩
        have hmk : k + m = ts.length := by omega
        rw [← hm]
        clear hm
        have HMK := Lib.hid hmk
        have hm1 : 1 ≤ m := by omega
        have hml : m ≤ 140737488351232 := by omega
        clear hmk
        go_loopw [3, 5] (fun i i2 wq => ∃ kk k2 : Nat, i = .int .i64 kk ∧ i2 = .int .i64 k2 ∧ 1 ≤ k2 ∧ k2 ≤ m ∧ kk < k + k2 ∧ 1 ≤ kk ∧ InN S w g ts k k2 kk wq) (fun _ i2 _ => m - (intOf i2).toNat)
        case atStart => exact ⟨k, 1, rfl, rfl, by omega, by omega, by omega, by omega, ts, HF1.out, HU1.out, HR1.out, rfl, fun _ _ => rfl, HN.out.symm, by omega, by omega⟩
        case round =>
          obtain ⟨kk, k2, rfl, rfl, hk21, hk2l, hkk, hkk1, cur, hfq, huq, hrq, hcl, hcr, hct, _, _⟩ := hrel
          have hMK := HMK.out
          have HCR := Lib.hid hcr
          have HCT := Lib.hid hct
          have HCL := Lib.hid hcl
          have HUQ := Lib.hid huq
          clear hcr hct huq
          by_cases hlt2 : k2 < m
          · obtain ⟨k3, hk3⟩ : ∃ j, k2 = j + 1 := ⟨k2 - 1, by omega⟩
            obtain ⟨hp0, hp1, hpt⟩ := hrq.nd (k + k2) (by omega)
            obtain ⟨hq0, hq1, -⟩ := hrq.nd (k + k3) (by omega)
            obtain ⟨z, hr0, hr1⟩ : ∃ z : Nd, wr.cell? ⟨g, kk * 2, none⟩ = some (.int .i64 z.1) ∧ wr.cell? ⟨g, kk * 2 + 1, none⟩ = some (.int .i64 z.2) := by
              obtain ⟨h1, h2, -⟩ := hrq.nd kk (by omega)
              exact ⟨_, h1, h2⟩
            have e1 : cur[k + k2]'(by omega) = ts[k + k2]'(by omega) := by
              have := HCR.out (k + k2) (by omega)
              rw [List.getElem?_eq_getElem (by omega), List.getElem?_eq_getElem (by omega)] at this
              exact Option.some.inj this
            have e2 : cur[k + k3]'(by omega) = ts[k + k3]'(by omega) := by
              have := HCR.out (k + k3) (by omega)
              rw [List.getElem?_eq_getElem (by omega), List.getElem?_eq_getElem (by omega)] at this
              exact Option.some.inj this
            rw [e1] at hp0 hp1 hpt
            rw [e2] at hq0 hq1
            clear e1 e2
            have hsn2 : Hid (cpt eqN (ts.take (k + (k2 + 1))) = cpt eqN (ts.take (k + k2)) ++ (if eqN (ts[k + k2]'(by omega)) (ts[k + k3]'(by omega)) then [] else [ts[k + k2]'(by omega)])) := by
              subst hk3
              exact cpt_snoc eqN ts (k + k3) (by omega)
            have HRQ := Lib.hid hrq
            have HPT := Lib.hid hpt
            clear hpt hrq
            generalize hx : ts[k + k2]'(by omega) = x2 at *
            generalize hy : ts[k + k3]'(by omega) = y2 at *
            clear hx hy
            rw [Nat.add_mul] at hp0 hp1 hq0 hq1
            have hj1 : (1 : Int) ≤ k2 := by omega
            have hj2 : IntKind.i64.wrap ((k2 : Int) - 1) = (k2 : Int) - 1 := IntWalk.i64_in _ (by omega)
            have hj3 : ((k2 : Int) - 1).toNat = k3 := by omega
            have hj4 : (k2 : Int) - 1 < m := by omega
            have hj5 : (0 : Int) ≤ (k2 : Int) := by omega
            have hj6 : (k2 : Int) < m := by omega
            have hz0 := HUQ.out (kk * 2)
            have hz1 := HUQ.out (kk * 2 + 1)
            have hkl : kk < ts.length := by omega
            have HK3 := Lib.hid hk3
            have HG := Lib.hid hMK
            clear hk3 hMK hcl
            cases heq : eqN x2 y2
            · have HN2 : Hid (cpt eqN (ts.take (k + (k2 + 1))) = cpt eqN (ts.take (k + k2)) ++ [x2]) := by
                unfold Hid
                rw [hsn2.out, heq, if_neg (by simp)]
              have hrun : ∀ w : World, (binOp .neq 80 (.agg #[.int .i64 x2.1, .int .i64 x2.2]) (.agg #[.int .i64 y2.1, .int .i64 y2.2])).run Tryz.prog w = .ok (.bool true) w := fun w => by rw [run_neN, heq]; rfl
              clear heq
              go_wp2_with fail
              go_quiet (fail)
              go_wp2_with fail
              have hcl := HCL.out
              refine ⟨⟨kk + 1, k2 + 1, by go_num, by go_num, by omega, by omega, by omega, by omega, cur.set kk x2, grewR_set (grewR_set (grewR_trans hfq (grewR_weak ⟨frm_drewN _ nq, Nat.le_add_right _ _⟩)) _ _) _ _, ((Unf.move HUQ.out rfl).set _ _).set _ _, RowG.setN (w := wr.drewN nq) HRQ.out (by omega) HPT.out, by rw [List.length_set]; exact hcl, fun j hj => ?_, ?_, by omega, by omega⟩, by simp [intOf]; omega⟩
              · rw [List.getElem?_set_ne (by omega)]
                exact HCR.out j (by omega)
              · rw [HN2.out, ← HCT.out, List.take_succ_eq_append_getElem (by rw [List.length_set]; omega), List.getElem_set_self]
                congr 1
                apply List.ext_getElem?
                intro j
                rw [List.getElem?_take, List.getElem?_take]
                split
                · rw [List.getElem?_set_ne (by omega)]
                · rfl
            · have HN2 : Hid (cpt eqN (ts.take (k + (k2 + 1))) = cpt eqN (ts.take (k + k2))) := by
                unfold Hid
                rw [hsn2.out, heq, if_pos rfl, List.append_nil]
              have hrun : ∀ w : World, (binOp .neq 80 (.agg #[.int .i64 x2.1, .int .i64 x2.2]) (.agg #[.int .i64 y2.1, .int .i64 y2.2])).run Tryz.prog w = .ok (.bool false) w := fun w => by rw [run_neN, heq]; rfl
              clear heq
              go_wp2_with fail
              go_quiet (fail)
              go_wp2_with fail
              refine ⟨⟨kk, k2 + 1, rfl, by go_num, by omega, by omega, by omega, by omega, cur, grewR_trans hfq (grewR_weak ⟨frm_drewN _ nq, Nat.le_add_right _ _⟩), HUQ.out, HRQ.out, HCL.out, HCR.out, HCT.out.trans HN2.out.symm, by omega, by omega⟩, by simp [intOf]; omega⟩
          · obtain rfl : k2 = m := by omega
            have hct2 := HCT.out
            rw [hMK, List.take_length] at hct2
            have hkl : kk < ts.length := by omega
            have hkn : (kk : Int) ≤ ts.length := by omega
            have hkc : kk ≤ cap := by omega
            have hclen : (cpt eqN ts).length = kk := by rw [← hct2, List.length_take]; omega
            have hcells : ∀ j, j < cur.length * 2 → (wr.cell? ⟨g, j, none⟩).isSome = true := fun j hj => by
              obtain ⟨c0, c1, _⟩ := hrq.nd (j / 2) (by omega)
              rcases Nat.mod_two_eq_zero_or_one j with h | h
              · rw [show j / 2 * 2 = j by omega] at c0
                rw [c0]; rfl
              · rw [show j / 2 * 2 + 1 = j by omega] at c1
                rw [c1]; rfl
            obtain ⟨vs, hvl, hclear⟩ := run_clear2 (P := Tryz.prog) (w := wr) (ty := 0) (z := .agg #[.int .i64 0, .int .i64 0]) Tryz.underlying76 Tryz.zeroValue80 (by kernel_rfl) (by
                intro u hu
                have h : u = .int .i64 0 ∨ u = .int .i64 0 := by simpa [Value.cells] using hu
                rcases h with rfl | rfl <;> rfl) g (kk * 2) (ts.length - kk) (cap - kk) (by omega)
              (fun j hj => hcells _ (by omega)) (fun j hj => HUQ.out _)
            have HQ := Lib.hid hrq
            have HCTT := Lib.hid hct2
            have HLEN := Lib.hid hclen
            clear hcells hrq hct2 hclen hMK hcl
            go_wp2_with fail
            have hct3 := HCTT.out
            refine bodyPost_ret (results_tmp rfl _ _ _) rfl ⟨?_, grewR_setCells hfq _ vs, HUQ.out.sets _ _ _, fun i hi => ?_⟩
            · rw [HLEN.out]; rfl
            · have hik : i < kk := by rw [HLEN.out] at hi; exact hi
              have hcl := HCL.out
              obtain ⟨c0, c1, ht⟩ := HQ.out.nd i (by omega)
              have he : (cpt eqN ts)[i] = cur[i]'(by omega) := by
                have h1 : (cur.take kk)[i]? = (cpt eqN ts)[i]? := by rw [hct3]
                rw [List.getElem?_take, if_pos hik, List.getElem?_eq_getElem (by omega), List.getElem?_eq_getElem hi] at h1
                exact (Option.some.inj h1).symm
              rw [he]
              refine ⟨_, rfl, fun j hj => ?_, ht⟩
              rw [World.cell?_setCells_out g vs (kk * 2) wr ⟨g, i * 2 + j, none⟩ (fun _ _ => .inl (by show i * 2 + j < kk * 2; omega))]
              match j, hj with
              | 0, _ => exact c0
              | 1, _ => exact c1
    · obtain rfl : k = ts.length := by omega
      have HE := HC.out
      rw [List.take_length] at HE
      have HE2 := Lib.hid HE
      clear HE
      go_wp2_with fail
      refine bodyPost_ret (results_tmp rfl _ _ _) rfl ⟨?_, grewR_weak ⟨frm_drewN _ _, Nat.le_add_right _ _⟩, HU.out, ?_⟩
      · rw [HE2.out]; rfl
      · rw [HE2.out]; exact HR.out
end Go.Proofs.YtjpdmncafacmaaaGreatDoor
