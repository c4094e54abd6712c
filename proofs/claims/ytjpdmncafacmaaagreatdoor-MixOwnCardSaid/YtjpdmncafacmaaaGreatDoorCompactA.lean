/- slices.CompactFunc at alternatives: runs of equals are struck. -/
import Derived.Test.YtjpdmncafacmaaaGreatDoorSortA
import Derived.Test.YtjpdmncafacmaaaGreatDoorEqualN
import Derived.Test.YtjpdmncafacmaaaGreatDoorApp
set_option linter.unusedVariables false
set_option linter.unusedSimpArgs false
namespace Go.Proofs.YtjpdmncafacmaaaGreatDoor
open Go.RowKit

theorem run_clear1 {w : World} {P : Program} {t e ty : TypeId} {z : Value} (ht : P.underlying t = some (.slice e)) (hv : ∀ w, (zeroValue e).run P w = .ok z w) (hz2 : z.cells.size = 1) (h1 : ∀ u ∈ z.cells, u.oneCell' = true) (b o n c : Nat) (hn : 0 < n)
    (hc : ∀ j, j < n → (w.cell? ⟨b, o + j, none⟩).isSome = true) (hf : ∀ j, j < n → w.frozen? ⟨b, o + j, none⟩ = false) :
    ∃ vs : List Value, vs.length = n ∧ (Builtin.clear_ #[t] ty #[.slice (some ⟨b, o, none⟩) n c]).run P w = .ok (.tuple #[]) (w.setCells b o vs) := by
  have hl : (Builtin.zeroCells z.cells n).toList.length = n := by simp [Builtin.zeroCells, hz2]
  have hst := run_storeCells_cells (P := P) b o (Builtin.zeroCells z.cells n).toList 0 w (by rw [hl]; simpa using hc) (by rw [hl]; simpa using hf) (by
    intro v hv'
    simp only [Builtin.zeroCells, Array.mem_toList_iff, Array.mem_map] at hv'
    obtain ⟨i, _, rfl⟩ := hv'
    refine h1 _ ?_
    have hm : i % z.cells.size < z.cells.size := Nat.mod_lt _ (by omega)
    rw [getElem!_pos z.cells (i % z.cells.size) hm]
    exact Array.getElem_mem hm)
  simp only [Nat.add_zero] at hst
  obtain ⟨m, rfl⟩ : ∃ m, n = m + 1 := ⟨n - 1, by omega⟩
  exact ⟨_, hl, by simp [Builtin.clear_, run_underlying ht, hv, hst]⟩
/-- An alternative's cell in a row. -/
theorem RowG.al {S : Nat → Prop} {w : World} {g : Nat} {xs : List (List Nd)} (h : RowG 1 (WR AltR) S w g xs) (i : Nat) (hi : i < xs.length) :
    ∃ A n c, w.cell? ⟨g, i, none⟩ = some (.slice A n c) ∧ WR AltR S w xs[i] [.slice A n c] := by
  obtain ⟨cs, hl, hc, hx⟩ := h i hi
  match cs, hl with
  | [v], _ =>
    obtain ⟨v', he, A, c, rfl, _⟩ := id hx
    simp only [List.cons.injEq, and_true] at he
    subst he
    exact ⟨A, _, c, by simpa using hc 0 (by omega), hx⟩
theorem RowG.setA {S : Nat → Prop} {w : World} {g : Nat} {xs : List (List Nd)} (h : RowG 1 (WR AltR) S w g xs) (hS : ∀ b, S b → b ≠ g) {k : Nat} (hk : k < xs.length) {x : List Nd} {v : Value} (hx : WR AltR S w x [v]) :
    RowG 1 (WR AltR) S (w.setCell ⟨g, k, none⟩ v) g (xs.set k x) := by
  have hset : ∀ b, S b → (w.setCell ⟨g, k, none⟩ v).heap[b]? = w.heap[b]? := fun b hb => Below.heap_setCell _ _ _ _ (hS b hb)
  intro i hi
  rw [List.length_set] at hi
  obtain ⟨A, n, c, hc, hr⟩ := h.al i hi
  by_cases e : k = i
  · subst e
    refine ⟨[v], rfl, fun j hj => ?_, ?_⟩
    · obtain rfl : j = 0 := by omega
      rw [Nat.mul_one, Nat.add_zero]
      exact World.cell?_setCell_same _ _ _ hc
    · rw [List.getElem_set_self]
      exact moves_WR moves_alt _ _ _ _ _ _ (fun b hb => hb) hset hx
  · refine ⟨[.slice A n c], rfl, fun j hj => ?_, ?_⟩
    · obtain rfl : j = 0 := by omega
      rw [Nat.mul_one, Nat.add_zero, World.cell?_setCell_other _ _ _ _ (by intro h; injection h with _ h _; omega)]
      exact hc
    · rw [List.getElem_set_ne e]
      exact moves_WR moves_alt _ _ _ _ _ _ (fun b hb => hb) hset hr
theorem alt_later {S : Nat → Prop} {w w' : World} {l : List Nd} {v : Value} (hS : ∀ b, S b → b < w.heap.size) (hf : Grew w w') (h : WR AltR S w l [v]) : rdO AltR w' l [v] :=
  WR.rd moves_alt (moves_WR moves_alt _ _ _ _ _ _ (fun b hb => Nat.lt_of_lt_of_le (hS b hb) hf.1.size) (fun b hb => frm_lt hf.1 b (hS b hb)) h)

/-- The inner loop: from `k0` on, `k2` elements are held; `k` elements are kept. -/
def InA (S : Nat → Prop) (w : World) (g : Nat) (ts : List (List Nd)) (k0 k2 k : Nat) (wr : World) : Prop :=
  ∃ cur, GrewR w wr (some g) ∧ Unf wr g ∧ RowG 1 (WR AltR) S wr g cur ∧ cur.length = ts.length ∧ (∀ j, k ≤ j → cur[j]? = ts[j]?) ∧ cur.take k = cpt eqA (ts.take (k0 + k2)) ∧ k < k0 + k2 ∧ 1 ≤ k

set_option maxRecDepth 100000 in
set_option maxHeartbeats 1000000 in
theorem compactA_calls {S : Nat → Prop} {w : World} {g cap : Nat} {ts : List (List Nd)} (hS : ∀ b, S b → b < w.heap.size ∧ b ≠ g) (hg : g < w.heap.size) (hu : Unf w g) (hr : RowG 1 (WR AltR) S w g ts) (hlen : ts.length ≤ 140737488351232) (hcap : ts.length ≤ cap) :
    Calls Tryz.prog 120 #[.slice (some ⟨g, 0, none⟩) ts.length cap, .func (.func 121) #[] #[]] w fun e w' => e = .returned (.slice (some ⟨g, 0, none⟩) (cpt eqA ts).length cap) ∧ GrewR w w' (some g) ∧ Unf w' g ∧ RowG 1 (WR AltR) S w' g (cpt eqA ts) := by
  by_cases h2 : ts.length < 2
  · have hc : Hid (cpt eqA ts = ts) := by
      match ts, h2 with
      | [], _ => rfl
      | [x], _ => rfl
    have HU := Lib.hid hu
    clear hu
    go_enter Tryz.func120, Tryz.ntmps120
    go_wp2_with fail
    refine bodyPost_ret (results_tmp rfl _ _ _) rfl ⟨?_, grewR_refl _ _, HU.out, ?_⟩
    · rw [hc.out]; rfl
    · rw [hc.out]; exact hr
  have HR := Lib.hid hr
  have HU := Lib.hid hu
  have HSS := Lib.hid hS
  clear hr hu hS
  go_enter Tryz.func120, Tryz.ntmps120
  go_wp2_with fail
  go_loopw [5] (fun i wr => ∃ k : Nat, 1 ≤ k ∧ k ≤ ts.length ∧ i = .int .i64 k ∧ Grew w wr ∧ Hid (cpt eqA (ts.take k) = ts.take k)) (fun i _ => ts.length - (intOf i).toNat)
  case atStart => exact ⟨1, Nat.le_refl _, by omega, rfl, grew_refl _, by
    match ts, h2 with
    | x :: l, _ => rfl⟩
  case round =>
    obtain ⟨k, hk1, hk, rfl, hfr, HC⟩ := hrel
    have hrw := HR.out.frm (moves_WR moves_alt) (fun b hb => (HSS.out b hb).1) hg hfr.1
    by_cases hlt : k < ts.length
    · obtain ⟨k0, hk0⟩ : ∃ m, k = m + 1 := ⟨k - 1, by omega⟩
      obtain ⟨A1, n1, c1, hp0, hpt⟩ := hrw.al k hlt
      obtain ⟨A2, n2, c2, hq0, hqt⟩ := hrw.al k0 (by omega)
      have hsn : Hid (cpt eqA (ts.take (k + 1)) = cpt eqA (ts.take k) ++ (if eqA ts[k] ts[k0] then [] else [ts[k]])) := by subst hk0; exact cpt_snoc eqA ts k0 hlt
      have htk := Lib.hid (List.take_succ_eq_append_getElem hlt)
      have sw := hfr.1.size
      have HSW : Hid (∀ b, S b → b < wr.heap.size) := fun b hb => Nat.lt_of_lt_of_le (HSS.out b hb).1 sw
      have HP := Lib.hid hpt
      have HQ := Lib.hid hqt
      clear hpt hqt hrw
      generalize hx : ts[k] = x at *
      generalize hy : ts[k0] = y at *
      have HK0 := Lib.hid hk0
      clear hx hy
      have hi1 : (1 : Int) ≤ k := by omega
      have hi2 : IntKind.i64.wrap ((k : Int) - 1) = (k : Int) - 1 := IntWalk.i64_in _ (by omega)
      have hi3 : ((k : Int) - 1).toNat = k0 := by omega
      have hi4 : (k : Int) - 1 < ts.length := by omega
      clear hk0
      go_wp2_with fail
      go_still_tail 10, (by kernel_rfl)
      go_wp2_with fail
      refine (once1_calls x y _ _ _ (alt_later HSW.out (grew_drew _) HP.out) (alt_later HSW.out (grew_drew _) HQ.out)).mono ?_
      rintro e w1 ⟨rfl, hg1⟩
      have hfr1 := grew_trans hfr (grew_trans (grew_drew _) hg1)
      clear hp0 hq0 hi2 hi3 hi4
      cases heq : eqA x y
      · have HN : Hid (cpt eqA (ts.take (k + 1)) = ts.take (k + 1)) := by
          unfold Hid
          rw [hsn.out, heq, if_neg (by simp), HC.out, htk.out]
        clear heq
        go_wp2_with fail
        exact ⟨⟨k + 1, by omega, by omega, by go_num, hfr1, HN⟩, by simp [intOf]; omega⟩
      · have HN : Hid (cpt eqA (ts.take (k + 1)) = ts.take k) := by
          unfold Hid
          rw [hsn.out, heq, if_pos rfl, HC.out, List.append_nil]
        clear heq
        have HR1 := Lib.hid (HR.out.frm (moves_WR moves_alt) (fun b hb => (HSS.out b hb).1) hg hfr1.1)
        have HU1 : Hid (Unf w1 g) := HU.out.move (frm_lt hfr1.1 g hg)
        go_wp2_with fail
        clear hfr hg1
        obtain ⟨wo, hwo⟩ : ∃ wo : World, wo = w1 := ⟨_, rfl⟩
        subst hwo
        obtain ⟨m, hm⟩ : ∃ m, m = ts.length - k := ⟨_, rfl⟩
        have hmk : k + m = ts.length := by omega
        rw [← hm]
        clear hm
        have HMK := Lib.hid hmk
        have hm1 : 1 ≤ m := by omega
        have hml : m ≤ 140737488351232 := by omega
        clear hmk
        go_loopw [5, 7] (fun i i2 wq => ∃ kk k2 : Nat, i = .int .i64 kk ∧ i2 = .int .i64 k2 ∧ 1 ≤ k2 ∧ k2 ≤ m ∧ kk < k + k2 ∧ 1 ≤ kk ∧ InA S w g ts k k2 kk wq) (fun _ i2 _ => m - (intOf i2).toNat)
        case atStart => exact ⟨k, 1, rfl, rfl, by omega, by omega, by omega, by omega, ts, grewR_weak hfr1, HU1.out, HR1.out, rfl, fun _ _ => rfl, HN.out.symm, by omega, by omega⟩
        case round =>
          obtain ⟨kk, k2, rfl, rfl, hk21, hk2l, hkk, hkk1, cur, hfq, huq, hrq, hcl, hcr, hct, _, _⟩ := hrel
          have hMK := HMK.out
          have HCR := Lib.hid hcr
          have HCT := Lib.hid hct
          have HCL := Lib.hid hcl
          have HUQ := Lib.hid huq
          clear hcr hct huq
          by_cases hlt2 : k2 < m
          · obtain ⟨k3, hk3⟩ : ∃ j, k2 = j + 1 := ⟨k2 - 1, by omega⟩
            obtain ⟨A3, n3, c3, hp0, hpt⟩ := hrq.al (k + k2) (by omega)
            obtain ⟨A4, n4, c4, hq0, hqt⟩ := hrq.al (k + k3) (by omega)
            obtain ⟨r0, hr0⟩ : ∃ r0, wr.cell? ⟨g, kk, none⟩ = some r0 := by
              obtain ⟨A5, n5, c5, h1, -⟩ := hrq.al kk (by omega)
              exact ⟨_, h1⟩
            have e1 : cur[k + k2]'(by omega) = ts[k + k2]'(by omega) := by
              have := HCR.out (k + k2) (by omega)
              rw [List.getElem?_eq_getElem (by omega), List.getElem?_eq_getElem (by omega)] at this
              exact Option.some.inj this
            have e2 : cur[k + k3]'(by omega) = ts[k + k3]'(by omega) := by
              have := HCR.out (k + k3) (by omega)
              rw [List.getElem?_eq_getElem (by omega), List.getElem?_eq_getElem (by omega)] at this
              exact Option.some.inj this
            rw [e1] at hpt
            rw [e2] at hqt
            clear e1 e2
            have hsn2 : Hid (cpt eqA (ts.take (k + (k2 + 1))) = cpt eqA (ts.take (k + k2)) ++ (if eqA (ts[k + k2]'(by omega)) (ts[k + k3]'(by omega)) then [] else [ts[k + k2]'(by omega)])) := by
              subst hk3
              exact cpt_snoc eqA ts (k + k3) (by omega)
            have HRQ := Lib.hid hrq
            have sw := hfq.1.size
            have HSW : Hid (∀ b, S b → b < wr.heap.size) := fun b hb => Nat.lt_of_lt_of_le (HSS.out b hb).1 sw
            have HPT := Lib.hid hpt
            have HQT := Lib.hid hqt
            clear hpt hqt hrq
            generalize hx : ts[k + k2]'(by omega) = x2 at *
            generalize hy : ts[k + k3]'(by omega) = y2 at *
            clear hx hy
            have hj1 : (1 : Int) ≤ k2 := by omega
            have hj2 : IntKind.i64.wrap ((k2 : Int) - 1) = (k2 : Int) - 1 := IntWalk.i64_in _ (by omega)
            have hj3 : ((k2 : Int) - 1).toNat = k3 := by omega
            have hj4 : (k2 : Int) - 1 < m := by omega
            have hkl : kk < ts.length := by omega
            have HK3 := Lib.hid hk3
            have HG := Lib.hid hMK
            clear hk3 hMK hcl
            go_wp2_with fail
            go_still_tail 10, (by kernel_rfl)
            go_wp2_with fail
            refine (once1_calls x2 y2 _ _ _ (alt_later HSW.out (grew_drew _) HPT.out) (alt_later HSW.out (grew_drew _) HQT.out)).mono ?_
            rintro e wz ⟨rfl, hgz⟩
            have hdz := grew_trans (grew_drew wr) hgz
            have hgq : g < wr.heap.size := Nat.lt_of_lt_of_le hg sw
            have hp0z := frm_cell hdz.1 hp0
            have hr0z := frm_cell hdz.1 hr0
            have HUZ : Hid (Unf wz g) := HUQ.out.move (frm_lt hdz.1 g hgq)
            have hz0z := HUZ.out kk
            have HRZ := Lib.hid (HRQ.out.frm (moves_WR moves_alt) HSW.out hgq hdz.1)
            have hfz : GrewR w wz (some g) := grewR_trans hfq (grewR_weak hdz)
            clear hp0 hr0 hq0 hj2 hj3 hj4
            cases heq : eqA x2 y2
            · have HN2 : Hid (cpt eqA (ts.take (k + (k2 + 1))) = cpt eqA (ts.take (k + k2)) ++ [x2]) := by
                unfold Hid
                rw [hsn2.out, heq, if_neg (by simp)]
              clear heq
              go_wp2_with fail
              have HPZ : WR AltR S wz x2 [.slice A3 n3 c3] := moves_WR moves_alt _ _ _ _ _ _ (fun b hb => hb) (fun b hb => frm_lt hdz.1 b (HSW.out b hb)) HPT.out
              have hcl := HCL.out
              refine ⟨⟨kk + 1, k2 + 1, by go_num, by go_num, by omega, by omega, by omega, by omega, cur.set kk x2, grewR_set hfz _ _, HUZ.out.set _ _, HRZ.out.setA (fun b hb => (HSS.out b hb).2) (by omega) HPZ, by rw [List.length_set]; exact hcl, fun j hj => ?_, ?_, by omega, by omega⟩, by simp [intOf]; omega⟩
              · rw [List.getElem?_set_ne (by omega)]
                exact HCR.out j (by omega)
              · rw [HN2.out, ← HCT.out, List.take_succ_eq_append_getElem (by rw [List.length_set]; omega), List.getElem_set_self]
                congr 1
                apply List.ext_getElem?
                intro j
                rw [List.getElem?_take, List.getElem?_take]
                split
                · rw [List.getElem?_set_ne (by omega)]
                · rfl
            · have HN2 : Hid (cpt eqA (ts.take (k + (k2 + 1))) = cpt eqA (ts.take (k + k2))) := by
                unfold Hid
                rw [hsn2.out, heq, if_pos rfl, List.append_nil]
              clear heq
              go_wp2_with fail
              refine ⟨⟨kk, k2 + 1, rfl, by go_num, by omega, by omega, by omega, by omega, cur, hfz, HUZ.out, HRZ.out, HCL.out, HCR.out, HCT.out.trans HN2.out.symm, by omega, by omega⟩, by simp [intOf]; omega⟩
          · obtain rfl : k2 = m := by omega
            have hct2 := HCT.out
            rw [hMK, List.take_length] at hct2
            have hkl : kk < ts.length := by omega
            have hkn : (kk : Int) ≤ ts.length := by omega
            have hkc : kk ≤ cap := by omega
            have hclen : (cpt eqA ts).length = kk := by rw [← hct2, List.length_take]; omega
            have hcells : ∀ j, j < cur.length → (wr.cell? ⟨g, j, none⟩).isSome = true := fun j hj => by
              obtain ⟨A5, n5, c5, h1, -⟩ := hrq.al j hj
              rw [h1]; rfl
            obtain ⟨vs, hvl, hclear⟩ := run_clear1 (P := Tryz.prog) (w := wr) (ty := 0) (z := .slice none 0 0) Tryz.underlying50 Tryz.zeroValue76 (by kernel_rfl) (by
                intro u hu
                have h : u = .slice none 0 0 := by simpa [Value.cells] using hu
                subst h
                rfl) g kk (ts.length - kk) (cap - kk) (by omega)
              (fun j hj => hcells _ (by omega)) (fun j hj => HUQ.out _)
            have HQ := Lib.hid hrq
            have HCTT := Lib.hid hct2
            have HLEN := Lib.hid hclen
            clear hcells hrq hct2 hclen hMK hcl
            go_wp2_with fail
            have hct3 := HCTT.out
            refine bodyPost_ret (results_tmp rfl _ _ _) rfl ⟨?_, grewR_setCells hfq _ vs, HUQ.out.sets _ _ _, fun i hi => ?_⟩
            · rw [HLEN.out]; rfl
            · have hik : i < kk := by rw [HLEN.out] at hi; exact hi
              have hcl := HCL.out
              obtain ⟨A5, n5, c5, c0, ht⟩ := HQ.out.al i (by omega)
              have he : (cpt eqA ts)[i] = cur[i]'(by omega) := by
                have h1 : (cur.take kk)[i]? = (cpt eqA ts)[i]? := by rw [hct3]
                rw [List.getElem?_take, if_pos hik, List.getElem?_eq_getElem (by omega), List.getElem?_eq_getElem hi] at h1
                exact (Option.some.inj h1).symm
              rw [he]
              refine ⟨_, rfl, fun j hj => ?_, moves_WR moves_alt _ _ _ _ _ _ (fun b hb => hb) (fun b hb => heap_setCells g b (HSS.out b hb).2 _ _ _) ht⟩
              obtain rfl : j = 0 := by omega
              rw [Nat.mul_one, Nat.add_zero, World.cell?_setCells_out g vs kk wr ⟨g, i, none⟩ (fun _ _ => .inl (by show i < kk; omega))]
              exact c0
    · obtain rfl : k = ts.length := by omega
      have HE := HC.out
      rw [List.take_length] at HE
      have HE2 := Lib.hid HE
      have HRW := Lib.hid hrw
      clear HE hrw
      go_wp2_with fail
      refine bodyPost_ret (results_tmp rfl _ _ _) rfl ⟨?_, grewR_weak hfr, HU.out.move (frm_lt hfr.1 g hg), ?_⟩
      · rw [HE2.out]; rfl
      · rw [HE2.out]; exact HRW.out
end Go.Proofs.YtjpdmncafacmaaaGreatDoor
