/- slices.CompactFunc at types: runs of equals are struck. -/
import Derived.Test.YtmdgoalekkkpnaaDoorSetS
import Derived.Test.YtmdgoalekkkpnaaDoorSame
import Derived.StillTailTactics
import Derived.Laws.IdiomCopy
import Derived.IntWalk
set_option linter.unusedVariables false
set_option linter.unusedSimpArgs false
namespace Go.Proofs.YtmdgoalekkkpnaaDoor
open Go.RowKit

def eqT (x y : Ty) : Bool := Ty.cmp x y == 0
/-- One element more. -/
theorem cptGo_snoc {α : Type} (eq : α → α → Bool) (y : α) : ∀ (l : List α) (p : α), cptGo eq p (l ++ [y]) = cptGo eq p l ++ (if eq y ((p :: l).getLast (by simp)) then [] else [y])
  | [], p => by cases h : eq y p <;> simp [cptGo, h]
  | z :: l, p => by
    rw [List.cons_append]
    unfold cptGo
    have ih := cptGo_snoc eq y l z
    rw [List.getLast_cons (by simp)]
    by_cases h : eq z p = true
    · rw [if_pos h, if_pos h, ih]
    · rw [if_neg h, if_neg h, ih, List.cons_append]
theorem cpt_snoc {α : Type} (eq : α → α → Bool) (ts : List α) (m : Nat) (h : m + 1 < ts.length) : cpt eq (ts.take (m + 2)) = cpt eq (ts.take (m + 1)) ++ (if eq ts[m + 1] ts[m] then [] else [ts[m + 1]]) := by
  have e1 : ts.take (m + 2) = ts.take (m + 1) ++ [ts[m + 1]] := List.take_succ_eq_append_getElem h
  have hne : ts.take (m + 1) ≠ [] := by
    intro e
    have h2 := congrArg List.length e
    rw [List.length_take, List.length_nil] at h2
    omega
  rw [e1]
  obtain ⟨p, l, hpl⟩ := List.exists_cons_of_ne_nil hne
  rw [hpl]
  show p :: cptGo eq p (l ++ [ts[m + 1]]) = (p :: cptGo eq p l) ++ _
  rw [cptGo_snoc, List.cons_append]
  have : (p :: l).getLast (by simp) = ts[m] := by
    have h2 : (p :: l)[m]? = some ts[m] := by rw [← hpl, List.getElem?_take, if_pos (by omega), List.getElem?_eq_getElem (by omega)]
    have h3 : (p :: l).length = m + 1 := by rw [← hpl, List.length_take]; omega
    rw [List.getLast_eq_getElem]
    have h4 : (p :: l).length - 1 = m := by omega
    simp only [h4]
    exact (List.getElem?_eq_some_iff.1 h2).2
  rw [this]
theorem cpt_length_le {α : Type} (eq : α → α → Bool) (l : List α) : (cpt eq l).length ≤ l.length := by
  have key : ∀ (l : List α) (p : α), (cptGo eq p l).length ≤ l.length := by
    intro l
    induction l with
    | nil => simp [cptGo]
    | cons y s ih =>
      intro p
      unfold cptGo
      split
      · exact Nat.le_trans (ih y) (by simp)
      · simpa using ih y
  cases l with
  | nil => simp [cpt]
  | cons x l => simpa [cpt] using key l x

/-- The row is read. -/
theorem RowT.at {S : Nat → Prop} {w : World} {g : Nat} {ts : List Ty} (h : RowT S w g ts) (i : Nat) (hi : i < ts.length) :
    ∃ v0 v1, w.cell? ⟨g, i * 2, none⟩ = some v0 ∧ w.cell? ⟨g, i * 2 + 1, none⟩ = some v1 ∧ w.frozen? ⟨g, i * 2, none⟩ = false ∧ w.frozen? ⟨g, i * 2 + 1, none⟩ = false ∧ TyR S w ts[i] [v0, v1] := h i hi
theorem RowT.move {S : Nat → Prop} {w w' : World} {g : Nat} {ts : List Ty} (h : RowT S w g ts) (hS : ∀ b, S b → w'.heap[b]? = w.heap[b]?) (hg : w'.heap[g]? = w.heap[g]?) : RowT S w' g ts := by
  intro i hi
  obtain ⟨v0, v1, h1, h2, h3, h4, h5⟩ := h i hi
  refine ⟨v0, v1, (World.cell?_of_block hg).trans h1, (World.cell?_of_block hg).trans h2, ?_, ?_, h5.move (fun b hb => hb) hS⟩
  · unfold World.frozen? at *; rw [hg]; exact h3
  · unfold World.frozen? at *; rw [hg]; exact h4
theorem RowT.frm {S : Nat → Prop} {w w' : World} {g : Nat} {ts : List Ty} (h : RowT S w g ts) (hS : ∀ b, S b → b < w.heap.size ∧ b ≠ g) (hg : g < w.heap.size) (hf : w.grownBy w' none) : RowT S w' g ts :=
  h.move (fun b hb => frm_lt hf b (hS b hb).1) (frm_lt hf g hg)
/-- An element is stored. -/
theorem RowT.set {S : Nat → Prop} {w : World} {g : Nat} {ts : List Ty} (h : RowT S w g ts) (hS : ∀ b, S b → b ≠ g) {k : Nat} (hk : k < ts.length) {t : Ty} {v0 v1 : Value} (ht : TyR S w t [v0, v1]) :
    RowT S ((w.setCell ⟨g, k * 2, none⟩ v0).setCell ⟨g, k * 2 + 1, none⟩ v1) g (ts.set k t) := by
  have hset : ∀ b, S b → ((w.setCell ⟨g, k * 2, none⟩ v0).setCell ⟨g, k * 2 + 1, none⟩ v1).heap[b]? = w.heap[b]? := fun b hb => by
    rw [Below.heap_setCell _ _ _ _ (hS b hb), Below.heap_setCell _ _ _ _ (hS b hb)]
  intro i hi
  rw [List.length_set] at hi
  obtain ⟨u0, u1, h1, h2, h3, h4, h5⟩ := h i hi
  by_cases e : k = i
  · subst e
    refine ⟨v0, v1, ?_, ?_, by simpa using h3, by simpa using h4, ?_⟩
    · rw [World.cell?_setCell_other _ _ _ _ (by intro h; injection h with _ h _; omega)]
      exact World.cell?_setCell_same _ _ _ h1
    · exact World.cell?_setCell_same _ _ _ ((World.cell?_setCell_other _ _ _ _ (by intro h; injection h with _ h _; omega)).trans h2)
    · rw [List.getElem_set_self]
      exact ht.move (fun b hb => hb) hset
  · refine ⟨u0, u1, ?_, ?_, by simpa using h3, by simpa using h4, ?_⟩
    · rw [World.cell?_setCell_other _ _ _ _ (by intro h; injection h with _ h _; omega), World.cell?_setCell_other _ _ _ _ (by intro h; injection h with _ h _; omega)]
      exact h1
    · rw [World.cell?_setCell_other _ _ _ _ (by intro h; injection h with _ h _; omega), World.cell?_setCell_other _ _ _ _ (by intro h; injection h with _ h _; omega)]
      exact h2
    · rw [List.getElem_set_ne e]
      exact h5.move (fun b hb => hb) hset
theorem heap_setCells (b b' : Nat) (hne : b' ≠ b) : ∀ (vs : List Value) (o : Nat) (w : World), (w.setCells b o vs).heap[b']? = w.heap[b']?
  | [], _, _ => rfl
  | v :: vs, o, w => by rw [World.setCells, heap_setCells b b' hne vs, Below.heap_setCell _ _ _ _ hne]
theorem frm_setCells {w w1 : World} {g : Nat} (h : w.grownBy w1 (some g)) : ∀ (vs : List Value) (o : Nat), w.grownBy (w1.setCells g o vs) (some g) := by
  intro vs
  induction vs generalizing w1 with
  | nil => intro o; exact h
  | cons v vs ih =>
    intro o
    rw [World.setCells]
    exact ih (frm_set h o v) _
/-- clear of the end of a row of types. -/
theorem run_clear2 {w : World} {P : Program} {t e ty : TypeId} {z : Value} (ht : P.underlying t = some (.slice e)) (hv : ∀ w, (zeroValue e).run P w = .ok z w) (hz2 : z.cells.size = 2) (h1 : ∀ u ∈ z.cells, u.oneCell' = true) (b o n c : Nat) (hn : 0 < n)
    (hc : ∀ j, j < n * 2 → (w.cell? ⟨b, o + j, none⟩).isSome = true) (hf : ∀ j, j < n * 2 → w.frozen? ⟨b, o + j, none⟩ = false) :
    ∃ vs : List Value, vs.length = n * 2 ∧ (Builtin.clear_ #[t] ty #[.slice (some ⟨b, o, none⟩) n c]).run P w = .ok (.tuple #[]) (w.setCells b o vs) := by
  have hl : (Builtin.zeroCells z.cells n).toList.length = n * 2 := by simp [Builtin.zeroCells, hz2]
  have hst := run_storeCells_cells (P := P) b o (Builtin.zeroCells z.cells n).toList 0 w (by rw [hl]; simpa using hc) (by rw [hl]; simpa using hf) (by
    intro v hv'
    simp only [Builtin.zeroCells, Array.mem_toList_iff, Array.mem_map] at hv'
    obtain ⟨i, _, rfl⟩ := hv'
    refine h1 _ ?_
    have hm : i % z.cells.size < z.cells.size := Nat.mod_lt _ (by omega)
    rw [getElem!_pos z.cells (i % z.cells.size) hm]
    exact Array.getElem_mem hm)
  simp only [Nat.add_zero] at hst
  obtain ⟨m, rfl⟩ : ∃ m, n = m + 1 := ⟨n - 1, by omega⟩
  exact ⟨_, hl, by simp [Builtin.clear_, run_underlying ht, hv, hst]⟩

/-- The inner loop: from `k0` on, `k2` elements are held; `k` elements are kept. -/
def InRel (S : Nat → Prop) (w : World) (g : Nat) (ts : List Ty) (k0 k2 k : Nat) (wr : World) : Prop :=
  ∃ cur, w.grownBy wr (some g) ∧ RowT S wr g cur ∧ cur.length = ts.length ∧ (∀ j, k ≤ j → cur[j]? = ts[j]?) ∧ cur.take k = cpt eqT (ts.take (k0 + k2)) ∧ k < k0 + k2 ∧ 1 ≤ k

set_option maxRecDepth 100000 in
set_option maxHeartbeats 1000000 in
theorem compact_calls {S : Nat → Prop} {w : World} {g cap : Nat} {ts : List Ty} (hS : ∀ b, S b → b < w.heap.size ∧ b ≠ g) (hg : g < w.heap.size) (hr : RowT S w g ts) (hlen : ts.length ≤ 140737488351232) (hcap : ts.length ≤ cap) :
    Calls Tryd.prog 68 #[.slice (some ⟨g, 0, none⟩) ts.length cap, .func (.func 54) #[] #[]] w fun e w' => e = .returned (.slice (some ⟨g, 0, none⟩) (cpt eqT ts).length cap) ∧ w.grownBy w' (some g) ∧ RowT S w' g (cpt eqT ts) := by
  by_cases h2 : ts.length < 2
  · have hc : Hid (cpt eqT ts = ts) := by
      match ts, h2 with
      | [], _ => rfl
      | [x], _ => rfl
    go_enter Tryd.func68, Tryd.ntmps68
    go_wp2_with fail
    refine bodyPost_ret (results_tmp rfl _ _ _) rfl ⟨?_, frm_weak (frm_refl _ _), ?_⟩
    · rw [hc.out]; rfl
    · rw [hc.out]; exact hr
  have HR := Lib.hid hr
  have HSS := Lib.hid hS
  clear hr hS
  go_enter Tryd.func68, Tryd.ntmps68
  go_wp2_with fail
  go_loopw [5] (fun i wr => ∃ k : Nat, 1 ≤ k ∧ k ≤ ts.length ∧ i = .int .i64 k ∧ w.grownBy wr none ∧ Hid (cpt eqT (ts.take k) = ts.take k)) (fun i _ => ts.length - (intOf i).toNat)
  case atStart => exact ⟨1, Nat.le_refl _, by omega, rfl, frm_refl _ _, by
    match ts, h2 with
    | x :: l, _ => rfl⟩
  case round =>
    obtain ⟨k, hk1, hk, rfl, hfr, HC⟩ := hrel
    have hrw := HR.out.frm HSS.out hg hfr
    by_cases hlt : k < ts.length
    · obtain ⟨k0, hk0⟩ : ∃ m, k = m + 1 := ⟨k - 1, by omega⟩
      obtain ⟨p0, p1, hp0, hp1, _, _, hpt⟩ := hrw.at k hlt
      obtain ⟨q0, q1, hq0, hq1, _, _, hqt⟩ := hrw.at k0 (by omega)
      obtain ⟨s1, A1, n1, c1, rfl, rfl⟩ := hpt.vals
      obtain ⟨s2, A2, n2, c2, rfl, rfl⟩ := hqt.vals
      have hsn : Hid (cpt eqT (ts.take (k + 1)) = cpt eqT (ts.take k) ++ (if eqT ts[k] ts[k0] then [] else [ts[k]])) := by subst hk0; exact cpt_snoc eqT ts k0 hlt
      have htk := Lib.hid (List.take_succ_eq_append_getElem hlt)
      have HRW := Lib.hid hrw
      clear hrw
      have sw := hfr.size
      have HP := Lib.hid (TyR.move (w := wr) (S' := fun b => b < wr.drew.heap.size) (w' := wr.drew) (fun b hb => Nat.lt_of_lt_of_le (HSS.out b hb).1 sw) (fun b hb => rfl) hpt)
      have HQ := Lib.hid (TyR.move (w := wr) (S' := fun b => b < wr.drew.heap.size) (w' := wr.drew) (fun b hb => Nat.lt_of_lt_of_le (HSS.out b hb).1 sw) (fun b hb => rfl) hqt)
      clear hpt hqt
      generalize hx : ts[k] = x at *
      generalize hy : ts[k0] = y at *
      have HK0 := Lib.hid hk0
      clear hx hy
      have hi1 : (1 : Int) ≤ k := by omega
      have hi2 : IntKind.i64.wrap ((k : Int) - 1) = (k : Int) - 1 := IntWalk.i64_in _ (by omega)
      have hi3 : ((k : Int) - 1).toNat = k0 := by omega
      have hi4 : (k : Int) - 1 < ts.length := by omega
      clear hk0
      go_wp2_with fail
      go_still_tail 10, (by kernel_rfl)
      go_wp2_with fail
      refine (equal_calls x y _ _ _ _ _ HP.out HQ.out).mono ?_
      rintro e w1 ⟨rfl, hg1⟩
      have hfr1 := frm_trans hfr (frm_trans (frm_drew _) hg1)
      clear hp0 hp1 hq0 hq1 hi2 hi3 hi4
      cases heq : (Ty.cmp x y == 0)
      · have hne : eqT x y = false := heq
        have HN : Hid (cpt eqT (ts.take (k + 1)) = ts.take (k + 1)) := by
          unfold Hid
          rw [hsn.out, hne, if_neg (by simp), HC.out, htk.out]
        clear heq hne
        go_wp2_with fail
        exact ⟨⟨k + 1, by omega, by omega, by go_num, hfr1, HN⟩, by simp [intOf]; omega⟩
      · have hne : eqT x y = true := heq
        have HN : Hid (cpt eqT (ts.take (k + 1)) = ts.take k) := by
          unfold Hid
          rw [hsn.out, hne, if_pos rfl, HC.out, List.append_nil]
        clear heq hne
        have HR1 := Lib.hid (HR.out.frm HSS.out hg hfr1)
        go_wp2_with fail
        clear hfr hg1
        obtain ⟨wo, hwo⟩ : ∃ wo : World, wo = w1 := ⟨_, rfl⟩
        subst hwo
        obtain ⟨m, hm⟩ : ∃ m, m = ts.length - k := ⟨_, rfl⟩
        have HM := Lib.hid hm
        have hmk : k + m = ts.length := by omega
        rw [← hm]
        clear hm
        have HMK := Lib.hid hmk
        have hm1 : 1 ≤ m := by omega
        have hml : m ≤ 140737488351232 := by omega
        clear hmk
        go_loopw [5, 7] (fun i i2 wq => ∃ kk k2 : Nat, i = .int .i64 kk ∧ i2 = .int .i64 k2 ∧ 1 ≤ k2 ∧ k2 ≤ m ∧ kk < k + k2 ∧ 1 ≤ kk ∧ InRel S w g ts k k2 kk wq) (fun _ i2 _ => m - (intOf i2).toNat)
        case atStart => exact ⟨k, 1, rfl, rfl, by omega, by omega, by omega, by omega, ts, frm_weak hfr1, HR1.out, rfl, fun _ _ => rfl, HN.out.symm, by omega, by omega⟩
        case round =>
          obtain ⟨kk, k2, rfl, rfl, hk21, hk2l, hkk, hkk1, cur, hfq, hrq, hcl, hcr, hct, _, _⟩ := hrel
          have hMK := HMK.out
          have HCR := Lib.hid hcr
          have HCT := Lib.hid hct
          have HCL := Lib.hid hcl
          clear hcr hct
          by_cases hlt2 : k2 < m
          · obtain ⟨k3, hk3⟩ : ∃ j, k2 = j + 1 := ⟨k2 - 1, by omega⟩
            obtain ⟨p0, p1, hp0, hp1, _, _, hpt⟩ := hrq.at (k + k2) (by omega)
            obtain ⟨q0, q1, hq0, hq1, _, _, hqt⟩ := hrq.at (k + k3) (by omega)
            obtain ⟨r0, r1, hr0, hr1, hz0, hz1, hrt⟩ := hrq.at kk (by omega)
            clear hrt
            have e1 : cur[k + k2]'(by omega) = ts[k + k2]'(by omega) := by
              have := HCR.out (k + k2) (by omega)
              rw [List.getElem?_eq_getElem (by omega), List.getElem?_eq_getElem (by omega)] at this
              exact Option.some.inj this
            have e2 : cur[k + k3]'(by omega) = ts[k + k3]'(by omega) := by
              have := HCR.out (k + k3) (by omega)
              rw [List.getElem?_eq_getElem (by omega), List.getElem?_eq_getElem (by omega)] at this
              exact Option.some.inj this
            rw [e1] at hpt
            rw [e2] at hqt
            clear e1 e2
            obtain ⟨s3, A3, n3, c3, rfl, rfl⟩ := hpt.vals
            obtain ⟨s4, A4, n4, c4, rfl, rfl⟩ := hqt.vals
            have hsn2 : Hid (cpt eqT (ts.take (k + (k2 + 1))) = cpt eqT (ts.take (k + k2)) ++ (if eqT (ts[k + k2]'(by omega)) (ts[k + k3]'(by omega)) then [] else [ts[k + k2]'(by omega)])) := by
              subst hk3
              exact cpt_snoc eqT ts (k + k3) (by omega)
            have HRQ := Lib.hid hrq
            have sw := hfq.size
            have HP2 := Lib.hid (TyR.move (w := wr) (S' := fun b => b < wr.drew.heap.size) (w' := wr.drew) (fun b hb => Nat.lt_of_lt_of_le (HSS.out b hb).1 sw) (fun b hb => rfl) hpt)
            have HQ2 := Lib.hid (TyR.move (w := wr) (S' := fun b => b < wr.drew.heap.size) (w' := wr.drew) (fun b hb => Nat.lt_of_lt_of_le (HSS.out b hb).1 sw) (fun b hb => rfl) hqt)
            have HPT := Lib.hid hpt
            clear hpt hqt hrq
            generalize hx : ts[k + k2]'(by omega) = x2 at *
            generalize hy : ts[k + k3]'(by omega) = y2 at *
            clear hx hy
            rw [Nat.add_mul] at hp0 hp1 hq0 hq1
            have hj1 : (1 : Int) ≤ k2 := by omega
            have hj2 : IntKind.i64.wrap ((k2 : Int) - 1) = (k2 : Int) - 1 := IntWalk.i64_in _ (by omega)
            have hj3 : ((k2 : Int) - 1).toNat = k3 := by omega
            have hj4 : (k2 : Int) - 1 < m := by omega
            have HK3 := Lib.hid hk3
            have HG := Lib.hid hMK
            clear hk3 hMK hcl
            go_wp2_with fail
            go_still_tail 10, (by kernel_rfl)
            go_wp2_with fail
            refine (equal_calls x2 y2 _ _ _ _ _ HP2.out HQ2.out).mono ?_
            rintro e wz ⟨rfl, hgz⟩
            have hdz := frm_trans (frm_drew wr) hgz
            have hgq : g < wr.heap.size := Nat.lt_of_lt_of_le hg sw
            have hp0z := frm_cell hdz hp0
            have hp1z := frm_cell hdz hp1
            have hr0z := frm_cell hdz hr0
            have hr1z := frm_cell hdz hr1
            have hz0z : wz.frozen? ⟨g, kk * 2, none⟩ = false := by unfold World.frozen? at *; rw [frm_lt hdz g hgq]; exact hz0
            have hz1z : wz.frozen? ⟨g, kk * 2 + 1, none⟩ = false := by unfold World.frozen? at *; rw [frm_lt hdz g hgq]; exact hz1
            have HSQ : Hid (∀ b, S b → b < wr.heap.size ∧ b ≠ g) := fun b hb => ⟨Nat.lt_of_lt_of_le (HSS.out b hb).1 sw, (HSS.out b hb).2⟩
            have HRZ := Lib.hid (HRQ.out.frm HSQ.out hgq hdz)
            have hfz : w.grownBy wz (some g) := frm_trans hfq (frm_weak hdz)
            clear hp0 hp1 hr0 hr1 hz0 hz1 hq0 hq1 hj2 hj3 hj4
            have hG := HG.out
            have hkl : kk < ts.length := by omega
            clear hG
            cases heq : (Ty.cmp x2 y2 == 0)
            · have hne : eqT x2 y2 = false := heq
              have HN2 : Hid (cpt eqT (ts.take (k + (k2 + 1))) = cpt eqT (ts.take (k + k2)) ++ [x2]) := by
                unfold Hid
                rw [hsn2.out, hne, if_neg (by simp)]
              clear heq hne
              go_wp2_with fail
              have HPZ : TyR S wz x2 [.int .i64 s3, .slice A3 n3 c3] := HPT.out.move (fun b hb => hb) (fun b hb => frm_lt hdz b (HSQ.out b hb).1)
              have hcl := HCL.out
              refine ⟨⟨kk + 1, k2 + 1, by go_num, by go_num, by omega, by omega, by omega, by omega, cur.set kk x2, frm_set (frm_set hfz _ _) _ _, HRZ.out.set (fun b hb => (HSS.out b hb).2) (by omega) HPZ, by rw [List.length_set]; exact hcl, fun j hj => ?_, ?_, by omega, by omega⟩, by simp [intOf]; omega⟩
              · rw [List.getElem?_set_ne (by omega)]
                exact HCR.out j (by omega)
              · rw [HN2.out, ← HCT.out, List.take_succ_eq_append_getElem (by rw [List.length_set]; omega), List.getElem_set_self]
                congr 1
                apply List.ext_getElem?
                intro j
                rw [List.getElem?_take, List.getElem?_take]
                split
                · rw [List.getElem?_set_ne (by omega)]
                · rfl
            · have hne : eqT x2 y2 = true := heq
              have HN2 : Hid (cpt eqT (ts.take (k + (k2 + 1))) = cpt eqT (ts.take (k + k2))) := by
                unfold Hid
                rw [hsn2.out, hne, if_pos rfl, List.append_nil]
              clear heq hne
              go_wp2_with fail
              refine ⟨⟨kk, k2 + 1, rfl, by go_num, by omega, by omega, by omega, by omega, cur, hfz, HRZ.out, HCL.out, HCR.out, HCT.out.trans HN2.out.symm, by omega, by omega⟩, by simp [intOf]; omega⟩
          · obtain rfl : k2 = m := by omega
            have hct2 := HCT.out
            rw [hMK, List.take_length] at hct2
            have hkl : kk < ts.length := by omega
            have hkn : (kk : Int) ≤ ts.length := by omega
            have hkc : kk ≤ cap := by omega
            have hclen : (cpt eqT ts).length = kk := by rw [← hct2, List.length_take]; omega
            have hcells : ∀ j, j < cur.length * 2 → (wr.cell? ⟨g, j, none⟩).isSome = true ∧ wr.frozen? ⟨g, j, none⟩ = false := fun j hj => by
              obtain ⟨u0, u1, c0, c1, z0, z1, _⟩ := hrq.at (j / 2) (by omega)
              rcases Nat.mod_two_eq_zero_or_one j with h | h
              · rw [show j / 2 * 2 = j by omega] at c0 z0
                exact ⟨by rw [c0]; rfl, z0⟩
              · rw [show j / 2 * 2 + 1 = j by omega] at c1 z1
                exact ⟨by rw [c1]; rfl, z1⟩
            obtain ⟨vs, hvl, hclear⟩ := run_clear2 (P := Tryd.prog) (w := wr) (ty := 0) (z := .agg #[.int .i64 0, .slice none 0 0]) Tryd.underlying36 Tryd.zeroValue24 (by kernel_rfl) (by
                intro u hu
                have h : u = .int .i64 0 ∨ u = .slice none 0 0 := by simpa [Value.cells] using hu
                rcases h with rfl | rfl <;> rfl) g (kk * 2) (ts.length - kk) (cap - kk) (by omega)
              (fun j hj => (hcells _ (by omega)).1) (fun j hj => (hcells _ (by omega)).2)
            have HQ := Lib.hid hrq
            have HCTT := Lib.hid hct2
            have HLEN := Lib.hid hclen
            clear hcells hrq hct2 hclen hMK hcl
            go_wp2_with fail
            have hct3 := HCTT.out
            refine bodyPost_ret (results_tmp rfl _ _ _) rfl ⟨?_, frm_setCells hfq vs _, fun i hi => ?_⟩
            · rw [HLEN.out]; rfl
            · have hik : i < kk := by rw [HLEN.out] at hi; exact hi
              have hcl := HCL.out
              obtain ⟨u0, u1, c0, c1, z0, z1, ht⟩ := HQ.out.at i (by omega)
              have hcl := HCL.out
              refine ⟨u0, u1, ?_, ?_, by rw [World.frozen?_setCells]; exact z0, by rw [World.frozen?_setCells]; exact z1, ?_⟩
              · rw [World.cell?_setCells_out g vs (kk * 2) wr ⟨g, i * 2, none⟩ (fun _ _ => .inl (by show i * 2 < kk * 2; omega))]
                exact c0
              · rw [World.cell?_setCells_out g vs (kk * 2) wr ⟨g, i * 2 + 1, none⟩ (fun _ _ => .inl (by show i * 2 + 1 < kk * 2; omega))]
                exact c1
              · have he : (cpt eqT ts)[i] = cur[i]'(by omega) := by
                  have h1 : (cur.take kk)[i]? = (cpt eqT ts)[i]? := by rw [hct3]
                  rw [List.getElem?_take, if_pos hik, List.getElem?_eq_getElem (by omega), List.getElem?_eq_getElem hi] at h1
                  exact (Option.some.inj h1).symm
                rw [he]
                exact ht.move (fun b hb => hb) (fun b hb => heap_setCells g b (HSS.out b hb).2 _ _ _)
    · obtain rfl : k = ts.length := by omega
      have HE := HC.out
      rw [List.take_length] at HE
      have HE2 := Lib.hid HE
      clear HE
      go_wp2_with fail
      refine bodyPost_ret (results_tmp rfl _ _ _) rfl ⟨?_, frm_weak hfr, ?_⟩
      · rw [HE2.out]; rfl
      · rw [HE2.out]; exact hrw
end Go.Proofs.YtmdgoalekkkpnaaDoor
