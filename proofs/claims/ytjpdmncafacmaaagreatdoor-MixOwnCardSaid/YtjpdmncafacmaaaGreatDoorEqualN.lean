/- slices.Equal of needs; once's closure. -/
import Derived.Test.YtjpdmncafacmaaaGreatDoorCompactN
import Derived.Test.YtjpdmncafacmaaaGreatDoorSameR
set_option linter.unusedVariables false
set_option linter.unusedSimpArgs false
namespace Go.Proofs.YtjpdmncafacmaaaGreatDoor
open Go.RowKit

theorem eqN_iff (x y : Nd) : eqN x y = decide (x = y) := by
  rw [Bool.eq_iff_iff, decide_eq_true_eq]
  unfold eqN
  rw [beq_iff_eq]
  exact ⟨fun h => ord_nd.eq _ _ h, fun h => by rw [h]; exact ord_nd.refl _⟩
set_option maxRecDepth 20000 in
set_option maxHeartbeats 400000 in
theorem equalN_calls (xs ys : List Nd) (w : World) (v u : Value) (hx : rdO AltR w xs [v]) (hy : rdO AltR w ys [u]) :
    Calls Tryz.prog 51 #[v, u] w (RetD w (.bool (decide (xs = ys)))) := by
  have hX := RowS.sl hx
  have hY := RowS.sl hy
  clear hx hy
  obtain ⟨A, c, rfl, hc, hm⟩ := hX.val
  obtain ⟨A', c', rfl, hc', hm'⟩ := hY.val
  by_cases hl : xs.length = ys.length
  · have hnl : ((xs.length : Int) != (ys.length : Int)) = false := by simp [hl]
    have HL := Lib.hid hl
    clear hl
    go_enter Tryz.func51, Tryz.ntmps51
    go_wp2_with fail
    go_loopw [13] (fun i wr => ∃ k : Nat, k ≤ xs.length ∧ i = .int .i64 k ∧ Grew w wr ∧ Hid (decide (xs = ys) = decide (xs.drop k = ys.drop k))) (fun i _ => xs.length - (intOf i).toNat)
    case atStart => exact ⟨0, Nat.zero_le _, rfl, grew_refl _, rfl⟩
    case round =>
      obtain ⟨k, hk, rfl, hfr, HC⟩ := hrel
      by_cases hlt : k < xs.length
      · have hlt' : k < ys.length := by rw [← HL.out]; exact hlt
        obtain ⟨b, o, p0, p1, rfl, hb, hp0, hp1, hpt⟩ := (hX.frm hfr.1 (stays_rd moves_nd)).at2 k hlt
        obtain ⟨b2, o2, q0, q1, rfl, hb2, hq0, hq1, hqt⟩ := (hY.frm hfr.1 (stays_rd moves_nd)).at2 k hlt'
        obtain ⟨hpv, _⟩ := hpt
        simp only [List.cons.injEq, and_true] at hpv
        obtain ⟨rfl, rfl⟩ := hpv
        obtain ⟨hqv, _⟩ := hqt
        simp only [List.cons.injEq, and_true] at hqv
        obtain ⟨rfl, rfl⟩ := hqv
        have hd := Lib.hid (drop_eq_drop xs ys k hlt hlt')
        generalize xs[k] = x at *
        generalize ys[k] = y at *
        have e2 : (0 : Int) ≤ (k : Int) := by omega
        have e3 : (k : Int) < xs.length := by omega
        have e3' : (k : Int) ≤ xs.length := by omega
        have e4 : (k : Int) < ys.length := by omega
        have e4' : (k : Int) ≤ ys.length := by omega
        cases heq : eqN x y
        · have HD : Hid (decide (xs = ys) = false) := by
            unfold Hid
            rw [HC.out, hd.out, ← eqN_iff, heq, Bool.false_and]
          have hrun : ∀ w : World, (binOp .neq 80 (.agg #[.int .i64 x.1, .int .i64 x.2]) (.agg #[.int .i64 y.1, .int .i64 y.2])).run Tryz.prog w = .ok (.bool true) w := fun w => by rw [run_neN, heq]; rfl
          clear heq
          go_wp2_with fail
          go_quiet (fail)
          have hG := grew_trans hfr (⟨frm_drewN _ nq, Nat.le_add_right _ _⟩ : Grew _ _)
          go_wp2_with fail
          refine bodyPost_ret (results_tmp rfl _ _ _) rfl ⟨?_, hG⟩
          rw [HD.out]
          rfl
        · have HD : Hid (decide (xs = ys) = decide (xs.drop (k + 1) = ys.drop (k + 1))) := by
            unfold Hid
            rw [HC.out, hd.out, ← eqN_iff, heq, Bool.true_and]
          have hrun : ∀ w : World, (binOp .neq 80 (.agg #[.int .i64 x.1, .int .i64 x.2]) (.agg #[.int .i64 y.1, .int .i64 y.2])).run Tryz.prog w = .ok (.bool false) w := fun w => by rw [run_neN, heq]; rfl
          clear heq
          go_wp2_with fail
          go_quiet (fail)
          have hG := grew_trans hfr (⟨frm_drewN _ nq, Nat.le_add_right _ _⟩ : Grew _ _)
          go_wp2_with fail
          exact ⟨⟨k + 1, by omega, by go_num, hG, HD⟩, by simp [intOf]; omega⟩
      · have HD : Hid (decide (xs = ys) = true) := by
          unfold Hid
          rw [HC.out, List.drop_eq_nil_of_le (by omega), List.drop_eq_nil_of_le (by rw [← HL.out]; omega)]
          simp
        go_wp2_with fail
        refine bodyPost_ret (results_tmp rfl _ _ _) rfl ⟨?_, hfr⟩
        rw [HD.out]
        rfl
  · have hnl : ((xs.length : Int) != (ys.length : Int)) = true := by rw [bne_iff_ne]; omega
    have HD : Hid (decide (xs = ys) = false) := by
      unfold Hid
      exact decide_eq_false fun e => hl (by rw [e])
    clear hl
    go_enter Tryz.func51, Tryz.ntmps51
    go_wp2_with fail
    refine bodyPost_ret (results_tmp rfl _ _ _) rfl ⟨?_, grew_refl _⟩
    rw [HD.out]
    rfl
def eqA (x y : List Nd) : Bool := cmpL Nd.cmp x y == 0
theorem eqA_iff (x y : List Nd) : eqA x y = decide (x = y) := by
  rw [Bool.eq_iff_iff, decide_eq_true_eq]
  unfold eqA
  rw [beq_iff_eq]
  exact ⟨fun h => ord_alt.eq _ _ h, fun h => by rw [h]; exact ord_alt.refl _⟩
theorem once1_calls (xs ys : List Nd) (w : World) (v u : Value) (hx : rdO AltR w xs [v]) (hy : rdO AltR w ys [u]) :
    Calls Tryz.prog 121 #[v, u] w (RetD w (.bool (eqA xs ys))) := by
  have H := Lib.hid (equalN_calls xs ys w v u hx hy)
  have HE := Lib.hid (eqA_iff xs ys)
  clear hx hy
  go_enter Tryz.func121, Tryz.ntmps121
  go_wp2_with fail
  refine H.out.mono ?_
  rintro e w1 ⟨rfl, hf⟩
  go_wp2_with fail
  exact bodyPost_ret (results_tmp rfl _ _ _) rfl ⟨by rw [HE.out]; rfl, hf⟩
end Go.Proofs.YtjpdmncafacmaaaGreatDoor
