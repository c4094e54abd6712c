/- The reference's alternative. -/
import Derived.Test.YtjpdmncafacmaaaGreatDoorRefCmp
set_option linter.unusedVariables false
set_option linter.unusedSimpArgs false
namespace Go.Proofs.YtjpdmncafacmaaaGreatDoor
open Go.RowKit

/-- An alternative, as the reference says it. -/
def altR (r n : Int) (l : List Nd) : Bool := !l.any (badNeed r n) && rise Nd.sgn l

set_option maxRecDepth 100000 in
set_option maxHeartbeats 2000000 in
theorem ralt_calls (xs : List Nd) (r n : Int) (w : World) (v : Value) (hx : rdO AltR w xs [v]) :
    Calls Tryz.prog 67 #[v, .int .i64 r, .int .i64 n] w (RetD w (.bool (altR r n xs))) := by
  have hX := RowS.sl hx
  clear hx
  obtain ⟨A, c, rfl, hc, hm⟩ := hX.val
  go_enter Tryz.func67, Tryz.ntmps67
  go_wp2_with fail
  go_loopw [11] (fun i wr => ∃ k : Nat, k ≤ xs.length ∧ i = .int .i64 k ∧ Grew w wr ∧ Hid (altR r n xs = (!(xs.drop k).any (badNeed r n) && rise Nd.sgn (xs.drop (k - 1))))) (fun i _ => xs.length - (intOf i).toNat)
  case atStart => exact ⟨0, Nat.zero_le _, rfl, grew_refl _, rfl⟩
  case round =>
    obtain ⟨k, hk, rfl, hfr, HC⟩ := hrel
    by_cases hlt : k < xs.length
    · obtain ⟨b, o, p0, p1, rfl, hb, hp0, hp1, hpt⟩ := (hX.frm hfr.1 (stays_rd moves_nd)).at2 k hlt
      obtain ⟨hpv, _⟩ := hpt
      simp only [List.cons.injEq, and_true] at hpv
      obtain ⟨rfl, rfl⟩ := hpv
      have hd : Hid ((xs.drop k).any (badNeed r n) = (badNeed r n (xs[k].1, xs[k].2) || (xs.drop (k + 1)).any (badNeed r n))) := by
        unfold Hid
        rw [List.drop_eq_getElem_cons hlt, List.any_cons]
      have hp := Lib.hid fun (j : Nat) (hj : k = j + 1) => rise_drop Nd.sgn xs j (by omega)
      obtain ⟨xk, hxk⟩ : ∃ z, Hid (z = xs[k]) := ⟨xs[k], by unfold Hid; rfl⟩
      have hx1 : xs[k].1 = xk.1 := by rw [hxk.out]
      have hx2 : xs[k].2 = xk.2 := by rw [hxk.out]
      rw [hx1] at hd hp0
      rw [hx2] at hd hp1
      clear hx1 hx2
      obtain ⟨x, y⟩ := xk
      simp only at hd hp0 hp1
      obtain ⟨u0, u1, _, _⟩ := (TwoAt.new wr (.int .i64 x) (.int .i64 y) 80).cells
      have hfb : Grew wr (wr.alloc (.cells #[.int .i64 x, .int .i64 y] 80)) := grew_alloc _ _
      have e2 : (0 : Int) ≤ (k : Int) := by omega
      have e3 : (k : Int) < xs.length := by omega
      have e3' : (k : Int) ≤ xs.length := by omega
      have hk0 : ∀ w', w' = (wr.alloc (.cells #[.int .i64 x, .int .i64 y] 80)).drew → (Grew w w' ∧ w'.cell? ⟨wr.heap.size, 0, none⟩ = some (.int .i64 x) ∧ w'.cell? ⟨wr.heap.size, 1, none⟩ = some (.int .i64 y)) := by
        rintro w' rfl
        exact ⟨grew_trans hfr (grew_trans hfb (grew_drew _)), u0, u1⟩
      have HK0 := Lib.hid hk0
      clear hk0
      by_cases h0 : x < 0
      · have d0 : decide (x < 0) = true := by simpa using h0
        have HD : Hid (altR r n xs = false) := by
          unfold Hid
          rw [HC.out, hd.out, show badNeed r n (x, y) = true by (unfold badNeed; simp <;> omega)]
          rfl
        go_wp2_with fail
        go_quiet (fail)
        have hG := grew_trans hfr (grew_trans hfb (⟨frm_drewN _ nq, Nat.le_add_right _ _⟩ : Grew _ _))
        go_wp2_with fail
        refine bodyPost_ret (results_tmp rfl _ _ _) rfl ⟨?_, hG⟩
        rw [HD.out]
        rfl
      by_cases h1 : r ≤ x
      · have d0 : decide (x < 0) = false := by simpa using h0
        have d1 : decide (r ≤ x) = true := by simpa using h1
        have HD : Hid (altR r n xs = false) := by
          unfold Hid
          rw [HC.out, hd.out, show badNeed r n (x, y) = true by (unfold badNeed; simp <;> omega)]
          rfl
        go_wp2_with fail
        go_quiet (fail)
        have hG := grew_trans hfr (grew_trans hfb (⟨frm_drewN _ nq, Nat.le_add_right _ _⟩ : Grew _ _))
        go_wp2_with fail
        refine bodyPost_ret (results_tmp rfl _ _ _) rfl ⟨?_, hG⟩
        rw [HD.out]
        rfl
      by_cases h2 : y < 0
      · have d0 : decide (x < 0) = false := by simpa using h0
        have d1 : decide (r ≤ x) = false := by simpa using h1
        have d2 : decide (y < 0) = true := by simpa using h2
        have HD : Hid (altR r n xs = false) := by
          unfold Hid
          rw [HC.out, hd.out, show badNeed r n (x, y) = true by (unfold badNeed; simp <;> omega)]
          rfl
        go_wp2_with fail
        go_quiet (fail)
        have hG := grew_trans hfr (grew_trans hfb (⟨frm_drewN _ nq, Nat.le_add_right _ _⟩ : Grew _ _))
        go_wp2_with fail
        refine bodyPost_ret (results_tmp rfl _ _ _) rfl ⟨?_, hG⟩
        rw [HD.out]
        rfl
      by_cases h3 : n ≤ y
      · have d0 : decide (x < 0) = false := by simpa using h0
        have d1 : decide (r ≤ x) = false := by simpa using h1
        have d2 : decide (y < 0) = false := by simpa using h2
        have d3 : decide (n ≤ y) = true := by simpa using h3
        have HD : Hid (altR r n xs = false) := by
          unfold Hid
          rw [HC.out, hd.out, show badNeed r n (x, y) = true by (unfold badNeed; simp <;> omega)]
          rfl
        go_wp2_with fail
        go_quiet (fail)
        have hG := grew_trans hfr (grew_trans hfb (⟨frm_drewN _ nq, Nat.le_add_right _ _⟩ : Grew _ _))
        go_wp2_with fail
        refine bodyPost_ret (results_tmp rfl _ _ _) rfl ⟨?_, hG⟩
        rw [HD.out]
        rfl
      have d0 : decide (x < 0) = false := by simpa using h0
      have d1 : decide (r ≤ x) = false := by simpa using h1
      have d2 : decide (y < 0) = false := by simpa using h2
      have d3 : decide (n ≤ y) = false := by simpa using h3
      have HB : Hid (altR r n xs = (!(xs.drop (k + 1)).any (badNeed r n) && rise Nd.sgn (xs.drop (k - 1)))) := by
        unfold Hid
        rw [HC.out, hd.out, show badNeed r n (x, y) = false by (unfold badNeed; simp <;> omega), Bool.false_or]
      clear h0 h1 h2 h3
      rcases k with _ | j
      · simp only [Nat.zero_mul, Nat.add_zero] at hp0 hp1
        have HD : Hid (altR r n xs = (!(xs.drop (0 + 1)).any (badNeed r n) && rise Nd.sgn (xs.drop (0 + 1 - 1)))) := HB
        go_wp2_with fail
        go_quiet (fail)
        have hG := grew_trans hfr (grew_trans hfb (⟨frm_drewN _ nq, Nat.le_add_right _ _⟩ : Grew _ _))
        go_wp2_with fail
        exact ⟨⟨0 + 1, by omega, by go_num, hG, HD⟩, by simp [intOf]; omega⟩
      · have hjl : j < xs.length := by omega
        obtain ⟨b', o', q0, q1, hbo, hb2, hq0, hq1, hqt⟩ := (hX.frm hfr.1 (stays_rd moves_nd)).at2 j hjl
        simp only [Option.some.injEq, Addr.mk.injEq, and_true] at hbo
        obtain ⟨rfl, rfl⟩ := hbo
        obtain ⟨hqv, _⟩ := hqt
        simp only [List.cons.injEq, and_true] at hqv
        obtain ⟨rfl, rfl⟩ := hqv
        have hp' := hp.out j rfl
        rw [← hxk.out] at hp'
        have HP := Lib.hid hp'
        clear hp hp' hxk
        generalize xs[j] = pq at *
        obtain ⟨px, py⟩ := pq
        simp only at hq0 hq1
        have hfb2 := frm_cell hfb.1 hq0
        have hfb3 := frm_cell hfb.1 hq1
        have ih := Lib.hid fun (w' : World) => rbefore_calls px py x y w'
        have hbd := Nd.sgn_bd (px, py) (x, y)
        have hk0 : ∀ w', w' = (wr.alloc (.cells #[.int .i64 x, .int .i64 y] 80)).drew → (Grew w w' ∧ w'.cell? ⟨wr.heap.size, 0, none⟩ = some (.int .i64 x) ∧ w'.cell? ⟨wr.heap.size, 1, none⟩ = some (.int .i64 y) ∧ w'.cell? ⟨b, o + j * 2, none⟩ = some (.int .i64 px) ∧ w'.cell? ⟨b, o + j * 2 + 1, none⟩ = some (.int .i64 py)) := by
          rintro w' rfl
          exact ⟨grew_trans hfr (grew_trans hfb (grew_drew _)), u0, u1, hfb2, hfb3⟩
        have hks : ∀ w1 w2 : World, Grew w1 w2 → (Grew w w1 ∧ w1.cell? ⟨wr.heap.size, 0, none⟩ = some (.int .i64 x) ∧ w1.cell? ⟨wr.heap.size, 1, none⟩ = some (.int .i64 y) ∧ w1.cell? ⟨b, o + j * 2, none⟩ = some (.int .i64 px) ∧ w1.cell? ⟨b, o + j * 2 + 1, none⟩ = some (.int .i64 py)) → (Grew w w2 ∧ w2.cell? ⟨wr.heap.size, 0, none⟩ = some (.int .i64 x) ∧ w2.cell? ⟨wr.heap.size, 1, none⟩ = some (.int .i64 y) ∧ w2.cell? ⟨b, o + j * 2, none⟩ = some (.int .i64 px) ∧ w2.cell? ⟨b, o + j * 2 + 1, none⟩ = some (.int .i64 py)) := fun w1 w2 hf h => ⟨grew_trans h.1 hf, frm_cell hf.1 h.2.1, frm_cell hf.1 h.2.2.1, frm_cell hf.1 h.2.2.2.1, frm_cell hf.1 h.2.2.2.2⟩
        have HK1 := Lib.hid hk0
        have HK := Lib.hid hks
        clear hk0 hks
        have e5 : ((j : Int) + 1) - 1 = j := by omega
        have e6 : (0 : Int) ≤ (j : Int) := by omega
        have e7 : (j : Int) < xs.length := by omega
        have e7' : (j : Int) ≤ xs.length := by omega
        have e8 : IntKind.i64.wrap (j : Int) = j := IntWalk.i64_in _ (by omega)
        have e9 : IntKind.i64.wrap ((j : Int) + 1 - 1) = j := by rw [e5, e8]
        have e10 : decide (0 < (j : Int) + 1) = true := by (simp <;> omega)
        have e11 : (0 : Int) < (j : Int) + 1 := by omega
        go_wp2_with fail
        go_region_held3 (fun w' => Grew w w' ∧ w'.cell? ⟨wr.heap.size, 0, none⟩ = some (.int .i64 x) ∧ w'.cell? ⟨wr.heap.size, 1, none⟩ = some (.int .i64 y) ∧ w'.cell? ⟨b, o + j * 2, none⟩ = some (.int .i64 px) ∧ w'.cell? ⟨b, o + j * 2 + 1, none⟩ = some (.int .i64 py)) (first | exact HK1.out _ rfl | exact HK.out _ _ (by assumption) (by assumption)) ((go_at_call 108; refine (ih.out _).mono ?_; rintro e w' ⟨rfl, hfw⟩))
        rename_i hHeld
        have hG := hHeld.1
        by_cases hz : 0 ≤ Nd.sgn (px, py) (x, y)
        · have HD : Hid (altR r n xs = false) := by
            unfold Hid
            rw [HB.out, Nat.add_sub_cancel, HP.out, show decide (Nd.sgn (px, py) (x, y) < 0) = false by (simp <;> omega)]
            simp
          go_wp2_with fail
          refine bodyPost_ret (results_tmp rfl _ _ _) rfl ⟨?_, hG⟩
          rw [HD.out]
          rfl
        · have HD : Hid (altR r n xs = (!(xs.drop (j + 1 + 1)).any (badNeed r n) && rise Nd.sgn (xs.drop (j + 1 + 1 - 1)))) := by
            unfold Hid
            rw [HB.out, Nat.add_sub_cancel, HP.out, show decide (Nd.sgn (px, py) (x, y) < 0) = true by (simp <;> omega), Nat.add_sub_cancel, Bool.true_and]
          go_wp2_with fail
          exact ⟨⟨j + 1 + 1, by omega, by go_num, hG, HD⟩, by simp [intOf]; omega⟩
    · obtain rfl : k = xs.length := by omega
      have HD : Hid (altR r n xs = true) := by
        unfold Hid
        rw [HC.out, rise_drop_end _ _ _ (by omega), List.drop_length]
        rfl
      go_wp2_with fail
      refine bodyPost_ret (results_tmp rfl _ _ _) rfl ⟨?_, hfr⟩
      rw [HD.out]
      rfl
end Go.Proofs.YtjpdmncafacmaaaGreatDoor
