/- The reference's SameRanks. -/
import Derived.Test.YtjpdmncafacmaaaGreatDoorAuLaw
set_option linter.unusedVariables false
set_option linter.unusedSimpArgs false
namespace Go.Proofs.YtjpdmncafacmaaaGreatDoor
open Go.RowKit

theorem drop_eq_drop {α : Type} [DecidableEq α] (xs ys : List α) (k : Nat) (h : k < xs.length) (h' : k < ys.length) : decide (xs.drop k = ys.drop k) = (decide (xs[k] = ys[k]) && decide (xs.drop (k + 1) = ys.drop (k + 1))) := by
  rw [List.drop_eq_getElem_cons h, List.drop_eq_getElem_cons h', ← Bool.decide_and]
  apply decide_eq_decide.2
  rw [List.cons.injEq]

set_option maxRecDepth 20000 in
set_option maxHeartbeats 400000 in
theorem rsameR_calls (xs ys : List Int) (w : World) (v u : Value) (hX : SlO w 1 (rdO IntR) xs v) (hY : SlO w 1 (rdO IntR) ys u) :
    Calls Tryz.prog 26 #[v, u] w (RetD w (.bool (decide (xs = ys)))) := by
  obtain ⟨A, c, rfl, hc, hm⟩ := hX.val
  obtain ⟨A', c', rfl, hc', hm'⟩ := hY.val
  by_cases hl : xs.length = ys.length
  · have hnl : ((xs.length : Int) != (ys.length : Int)) = false := by simp [hl]
    have HL := Lib.hid hl
    clear hl
    go_enter Tryz.func26, Tryz.ntmps26
    go_wp2_with fail
    go_loopw [13] (fun i wr => ∃ k : Nat, k ≤ xs.length ∧ i = .int .i64 k ∧ Grew w wr ∧ Hid (decide (xs = ys) = decide (xs.drop k = ys.drop k))) (fun i _ => xs.length - (intOf i).toNat)
    case atStart => exact ⟨0, Nat.zero_le _, rfl, grew_refl _, rfl⟩
    case round =>
      obtain ⟨k, hk, rfl, hfr, HC⟩ := hrel
      by_cases hlt : k < xs.length
      · have hlt' : k < ys.length := by rw [← HL.out]; exact hlt
        obtain ⟨b, o, p0, rfl, hb, hp0, hpt⟩ := (hX.frm hfr.1 (stays_rd moves_int)).at1 k hlt
        obtain ⟨b2, o2, q0, rfl, hb2, hq0, hqt⟩ := (hY.frm hfr.1 (stays_rd moves_int)).at1 k hlt'
        obtain ⟨hpv, _⟩ := hpt
        simp only [List.cons.injEq, and_true] at hpv
        subst hpv
        obtain ⟨hqv, _⟩ := hqt
        simp only [List.cons.injEq, and_true] at hqv
        subst hqv
        have hd := Lib.hid (drop_eq_drop xs ys k hlt hlt')
        generalize xs[k] = x at *
        generalize ys[k] = y at *
        have e2 : (0 : Int) ≤ (k : Int) := by omega
        have e3 : (k : Int) < xs.length := by omega
        have e3' : (k : Int) ≤ xs.length := by omega
        have e4 : (k : Int) < ys.length := by omega
        have e4' : (k : Int) ≤ ys.length := by omega
        by_cases hz : x = y
        · have HD : Hid (decide (xs = ys) = decide (xs.drop (k + 1) = ys.drop (k + 1))) := by
            unfold Hid
            rw [HC.out, hd.out, decide_eq_true hz, Bool.true_and]
          have hz' : (x != y) = false := by simp [hz]
          clear hz
          go_wp2_with fail
          go_quiet (fail)
          have hG := grew_trans hfr (⟨frm_drewN _ nq, Nat.le_add_right _ _⟩ : Grew _ _)
          go_wp2_with fail
          exact ⟨⟨k + 1, by omega, by go_num, hG, HD⟩, by simp [intOf]; omega⟩
        · have HD : Hid (decide (xs = ys) = false) := by
            unfold Hid
            rw [HC.out, hd.out, decide_eq_false hz, Bool.false_and]
          have hz' : (x != y) = true := by simp [hz]
          clear hz
          go_wp2_with fail
          go_quiet (fail)
          have hG := grew_trans hfr (⟨frm_drewN _ nq, Nat.le_add_right _ _⟩ : Grew _ _)
          go_wp2_with fail
          refine bodyPost_ret (results_tmp rfl _ _ _) rfl ⟨?_, hG⟩
          rw [HD.out]
          rfl
      · have HD : Hid (decide (xs = ys) = true) := by
          unfold Hid
          rw [HC.out, List.drop_eq_nil_of_le (by omega), List.drop_eq_nil_of_le (by rw [← HL.out]; omega)]
          simp
        go_wp2_with fail
        refine bodyPost_ret (results_tmp rfl _ _ _) rfl ⟨?_, hfr⟩
        rw [HD.out]
        rfl
  · have hnl : ((xs.length : Int) != (ys.length : Int)) = true := by rw [bne_iff_ne]; omega
    have HD : Hid (decide (xs = ys) = false) := by
      unfold Hid
      exact decide_eq_false fun e => hl (by rw [e])
    clear hl
    go_enter Tryz.func26, Tryz.ntmps26
    go_wp2_with fail
    refine bodyPost_ret (results_tmp rfl _ _ _) rfl ⟨?_, grew_refl _⟩
    rw [HD.out]
    rfl
end Go.Proofs.YtjpdmncafacmaaaGreatDoor
