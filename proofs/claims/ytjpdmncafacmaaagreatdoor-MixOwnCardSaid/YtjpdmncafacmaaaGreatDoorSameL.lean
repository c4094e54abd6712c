/- slices.Equal of ints; the reference's EqualMoves. -/
import Derived.Test.YtjpdmncafacmaaaGreatDoorSameR
set_option linter.unusedVariables false
set_option linter.unusedSimpArgs false
namespace Go.Proofs.YtjpdmncafacmaaaGreatDoor
open Go.RowKit

set_option maxRecDepth 20000 in
set_option maxHeartbeats 400000 in
theorem equalR_calls (xs ys : List Int) (w : World) (v u : Value) (hX : SlO w 1 (rdO IntR) xs v) (hY : SlO w 1 (rdO IntR) ys u) :
    Calls Tryz.prog 45 #[v, u] w (RetD w (.bool (decide (xs = ys)))) := by
  obtain ⟨A, c, rfl, hc, hm⟩ := hX.val
  obtain ⟨A', c', rfl, hc', hm'⟩ := hY.val
  by_cases hl : xs.length = ys.length
  · have hnl : ((xs.length : Int) != (ys.length : Int)) = false := by simp [hl]
    have HL := Lib.hid hl
    clear hl
    go_enter Tryz.func45, Tryz.ntmps45
    go_wp2_with fail
    go_loopw [13] (fun i wr => ∃ k : Nat, k ≤ xs.length ∧ i = .int .i64 k ∧ Grew w wr ∧ Hid (decide (xs = ys) = decide (xs.drop k = ys.drop k))) (fun i _ => xs.length - (intOf i).toNat)
    case atStart => exact ⟨0, Nat.zero_le _, rfl, grew_refl _, rfl⟩
    case round =>
      obtain ⟨k, hk, rfl, hfr, HC⟩ := hrel
      by_cases hlt : k < xs.length
      · have hlt' : k < ys.length := by rw [← HL.out]; exact hlt
        obtain ⟨b, o, p0, rfl, hb, hp0, hpt⟩ := (hX.frm hfr.1 (stays_rd moves_int)).at1 k hlt
        obtain ⟨b2, o2, q0, rfl, hb2, hq0, hqt⟩ := (hY.frm hfr.1 (stays_rd moves_int)).at1 k hlt'
        obtain ⟨hpv, _⟩ := hpt
        simp only [List.cons.injEq, and_true] at hpv
        subst hpv
        obtain ⟨hqv, _⟩ := hqt
        simp only [List.cons.injEq, and_true] at hqv
        subst hqv
        have hd := Lib.hid (drop_eq_drop xs ys k hlt hlt')
        generalize xs[k] = x at *
        generalize ys[k] = y at *
        have e2 : (0 : Int) ≤ (k : Int) := by omega
        have e3 : (k : Int) < xs.length := by omega
        have e3' : (k : Int) ≤ xs.length := by omega
        have e4 : (k : Int) < ys.length := by omega
        have e4' : (k : Int) ≤ ys.length := by omega
        by_cases hz : x = y
        · have HD : Hid (decide (xs = ys) = decide (xs.drop (k + 1) = ys.drop (k + 1))) := by
            unfold Hid
            rw [HC.out, hd.out, decide_eq_true hz, Bool.true_and]
          have hz' : (x != y) = false := by simp [hz]
          clear hz
          go_wp2_with fail
          go_quiet (fail)
          have hG := grew_trans hfr (⟨frm_drewN _ nq, Nat.le_add_right _ _⟩ : Grew _ _)
          go_wp2_with fail
          exact ⟨⟨k + 1, by omega, by go_num, hG, HD⟩, by simp [intOf]; omega⟩
        · have HD : Hid (decide (xs = ys) = false) := by
            unfold Hid
            rw [HC.out, hd.out, decide_eq_false hz, Bool.false_and]
          have hz' : (x != y) = true := by simp [hz]
          clear hz
          go_wp2_with fail
          go_quiet (fail)
          have hG := grew_trans hfr (⟨frm_drewN _ nq, Nat.le_add_right _ _⟩ : Grew _ _)
          go_wp2_with fail
          refine bodyPost_ret (results_tmp rfl _ _ _) rfl ⟨?_, hG⟩
          rw [HD.out]
          rfl
      · have HD : Hid (decide (xs = ys) = true) := by
          unfold Hid
          rw [HC.out, List.drop_eq_nil_of_le (by omega), List.drop_eq_nil_of_le (by rw [← HL.out]; omega)]
          simp
        go_wp2_with fail
        refine bodyPost_ret (results_tmp rfl _ _ _) rfl ⟨?_, hfr⟩
        rw [HD.out]
        rfl
  · have hnl : ((xs.length : Int) != (ys.length : Int)) = true := by rw [bne_iff_ne]; omega
    have HD : Hid (decide (xs = ys) = false) := by
      unfold Hid
      exact decide_eq_false fun e => hl (by rw [e])
    clear hl
    go_enter Tryz.func45, Tryz.ntmps45
    go_wp2_with fail
    refine bodyPost_ret (results_tmp rfl _ _ _) rfl ⟨?_, grew_refl _⟩
    rw [HD.out]
    rfl

theorem sgn_zero_eq (a b : Nd) : Nd.sgn a b = 0 ↔ a = b := by
  obtain ⟨a1, a2⟩ := a
  obtain ⟨b1, b2⟩ := b
  unfold Nd.sgn
  rw [Prod.mk.injEq]
  simp only []
  split
  · omega
  · split <;> omega
theorem cmpL_sgn_zero : ∀ xs ys : List Nd, cmpL Nd.sgn xs ys = 0 ↔ xs = ys
  | [], [] => by simp [cmpL]
  | [], _ :: _ => by simp [cmpL]
  | _ :: _, [] => by simp [cmpL]
  | x :: xs, y :: ys => by
    unfold cmpL
    rw [List.cons.injEq]
    by_cases h : Nd.sgn x y = 0
    · rw [if_neg (by simpa using h), cmpL_sgn_zero xs ys]
      exact ⟨fun e => ⟨(sgn_zero_eq x y).1 h, e⟩, fun e => e.2⟩
    · rw [if_pos h]
      exact ⟨fun e => absurd e h, fun e => absurd ((sgn_zero_eq x y).2 e.1) h⟩

set_option maxRecDepth 20000 in
set_option maxHeartbeats 400000 in
theorem rsameM_calls (xs ys : List (List Nd)) (w : World) (v u : Value) (hX : SlO w 1 (rdO AltR) xs v) (hY : SlO w 1 (rdO AltR) ys u) :
    Calls Tryz.prog 63 #[v, u] w (RetD w (.bool (decide (xs = ys)))) := by
  obtain ⟨A, c, rfl, hc, hm⟩ := hX.val
  obtain ⟨A', c', rfl, hc', hm'⟩ := hY.val
  by_cases hl : xs.length = ys.length
  · have hnl : ((xs.length : Int) != (ys.length : Int)) = false := by simp [hl]
    have HL := Lib.hid hl
    clear hl
    go_enter Tryz.func63, Tryz.ntmps63
    go_wp2_with fail
    go_loopw [13] (fun i wr => ∃ k : Nat, k ≤ xs.length ∧ i = .int .i64 k ∧ Grew w wr ∧ Hid (decide (xs = ys) = decide (xs.drop k = ys.drop k))) (fun i _ => xs.length - (intOf i).toNat)
    case atStart => exact ⟨0, Nat.zero_le _, rfl, grew_refl _, rfl⟩
    case round =>
      obtain ⟨k, hk, rfl, hfr, HC⟩ := hrel
      by_cases hlt : k < xs.length
      · have hlt' : k < ys.length := by rw [← HL.out]; exact hlt
        obtain ⟨b, o, p0, rfl, hb, hp0, hpt⟩ := (hX.frm hfr.1 (stays_rd moves_alt)).at1 k hlt
        obtain ⟨b2, o2, q0, rfl, hb2, hq0, hqt⟩ := (hY.frm hfr.1 (stays_rd moves_alt)).at1 k hlt'
        have hd := Lib.hid (drop_eq_drop xs ys k hlt hlt')
        generalize xs[k] = x at *
        generalize ys[k] = y at *
        have ih := Lib.hid fun (w' : World) (hf : Grew wr w' ∧ w'.cell? ⟨b, o + k, none⟩ = some p0 ∧ w'.cell? ⟨b2, o2 + k, none⟩ = some q0) => rcmpAlt_calls x y w' p0 q0 (rdO_frm moves_alt hf.1.1 hpt) (rdO_frm moves_alt hf.1.1 hqt)
        have hk0 : ∀ w', w' = wr.drew → (Grew wr w' ∧ w'.cell? ⟨b, o + k, none⟩ = some p0 ∧ w'.cell? ⟨b2, o2 + k, none⟩ = some q0) := by
          rintro w' rfl
          exact ⟨grew_drew _, hp0, hq0⟩
        have hks : ∀ w1 w2 : World, Grew w1 w2 → (Grew wr w1 ∧ w1.cell? ⟨b, o + k, none⟩ = some p0 ∧ w1.cell? ⟨b2, o2 + k, none⟩ = some q0) → (Grew wr w2 ∧ w2.cell? ⟨b, o + k, none⟩ = some p0 ∧ w2.cell? ⟨b2, o2 + k, none⟩ = some q0) := fun w1 w2 hf h => ⟨grew_trans h.1 hf, frm_cell hf.1 h.2.1, frm_cell hf.1 h.2.2⟩
        have HK := Lib.hid hks
        have HK0 := Lib.hid hk0
        clear hks hk0
        have e2 : (0 : Int) ≤ (k : Int) := by omega
        have e3 : (k : Int) < xs.length := by omega
        have e3' : (k : Int) ≤ xs.length := by omega
        have e4 : (k : Int) < ys.length := by omega
        have e4' : (k : Int) ≤ ys.length := by omega
        have hbd := cmpL_sgn_bd x y
        by_cases hz : x = y
        · have HD : Hid (decide (xs = ys) = decide (xs.drop (k + 1) = ys.drop (k + 1))) := by
            unfold Hid
            rw [HC.out, hd.out, decide_eq_true hz, Bool.true_and]
          have hz' : (cmpL Nd.sgn x y != 0) = false := by rw [(cmpL_sgn_zero x y).2 hz]; rfl
          clear hz
          go_wp2_with fail
          go_region_held3 (fun w' => Grew wr w' ∧ w'.cell? ⟨b, o + k, none⟩ = some p0 ∧ w'.cell? ⟨b2, o2 + k, none⟩ = some q0) (first | exact HK0.out _ rfl | exact HK.out _ _ (by assumption) (by assumption)) ((go_at_call 68; refine (ih.out _ (by assumption)).mono ?_; rintro e w' ⟨rfl, hfw⟩))
          rename_i hHeld
          have hG := grew_trans hfr hHeld.1
          go_wp2_with fail
          exact ⟨⟨k + 1, by omega, by go_num, hG, HD⟩, by simp [intOf]; omega⟩
        · have HD : Hid (decide (xs = ys) = false) := by
            unfold Hid
            rw [HC.out, hd.out, decide_eq_false hz, Bool.false_and]
          have hz' : (cmpL Nd.sgn x y != 0) = true := by rw [bne_iff_ne]; exact fun e => hz ((cmpL_sgn_zero x y).1 e)
          clear hz
          go_wp2_with fail
          go_region_held3 (fun w' => Grew wr w' ∧ w'.cell? ⟨b, o + k, none⟩ = some p0 ∧ w'.cell? ⟨b2, o2 + k, none⟩ = some q0) (first | exact HK0.out _ rfl | exact HK.out _ _ (by assumption) (by assumption)) ((go_at_call 68; refine (ih.out _ (by assumption)).mono ?_; rintro e w' ⟨rfl, hfw⟩))
          rename_i hHeld
          have hG := grew_trans hfr hHeld.1
          go_wp2_with fail
          refine bodyPost_ret (results_tmp rfl _ _ _) rfl ⟨?_, hG⟩
          rw [HD.out]
          rfl
      · have HD : Hid (decide (xs = ys) = true) := by
          unfold Hid
          rw [HC.out, List.drop_eq_nil_of_le (by omega), List.drop_eq_nil_of_le (by rw [← HL.out]; omega)]
          simp
        go_wp2_with fail
        refine bodyPost_ret (results_tmp rfl _ _ _) rfl ⟨?_, hfr⟩
        rw [HD.out]
        rfl
  · have hnl : ((xs.length : Int) != (ys.length : Int)) = true := by rw [bne_iff_ne]; omega
    have HD : Hid (decide (xs = ys) = false) := by
      unfold Hid
      exact decide_eq_false fun e => hl (by rw [e])
    clear hl
    go_enter Tryz.func63, Tryz.ntmps63
    go_wp2_with fail
    refine bodyPost_ret (results_tmp rfl _ _ _) rfl ⟨?_, grew_refl _⟩
    rw [HD.out]
    rfl
end Go.Proofs.YtjpdmncafacmaaaGreatDoor
