/- The reference's alternatives. -/
import Derived.Test.YtjpdmncafacmaaaGreatDoorRefAlt
set_option linter.unusedVariables false
set_option linter.unusedSimpArgs false
namespace Go.Proofs.YtjpdmncafacmaaaGreatDoor
open Go.RowKit

/-- A symbol's alternatives, as the reference says it. -/
def symR (r n : Int) (l : List (List Nd)) : Bool := decide (l.length ≤ 12) && l.all (altR r n) && rise (cmpL Nd.sgn) l
theorem cmpL_sgn_bd : ∀ xs ys : List Nd, -1 ≤ cmpL Nd.sgn xs ys ∧ cmpL Nd.sgn xs ys ≤ 1
  | [], [] => by simp [cmpL]
  | [], _ :: _ => by simp [cmpL]
  | _ :: _, [] => by simp [cmpL]
  | x :: xs, y :: ys => by
    unfold cmpL
    split
    · exact Nd.sgn_bd x y
    · exact cmpL_sgn_bd xs ys

set_option maxRecDepth 100000 in
set_option maxHeartbeats 2000000 in
theorem rsym_calls (xs : List (List Nd)) (r n : Int) (w : World) (v : Value) (hx : rdO AltsR w xs [v]) :
    Calls Tryz.prog 30 #[v, .int .i64 r, .int .i64 n] w (RetD w (.bool (symR r n xs))) := by
  have hX := RowS.sl hx
  clear hx
  obtain ⟨A, c, rfl, hc, hm⟩ := hX.val
  by_cases h12 : 12 < xs.length
  · have HD : Hid (symR r n xs = false) := by
      unfold Hid symR
      rw [show decide (xs.length ≤ 12) = false by (simp <;> omega)]
      rfl
    go_enter Tryz.func30, Tryz.ntmps30
    go_wp2_with fail
    refine bodyPost_ret (results_tmp rfl _ _ _) rfl ⟨?_, grew_refl _⟩
    rw [HD.out]
    rfl
  have HO : Hid (symR r n xs = (xs.all (altR r n) && rise (cmpL Nd.sgn) xs)) := by
    unfold Hid symR
    rw [show decide (xs.length ≤ 12) = true by (simp <;> omega), Bool.true_and]
  go_enter Tryz.func30, Tryz.ntmps30
  go_wp2_with fail
  go_loopw [14] (fun i wr => ∃ k : Nat, k ≤ xs.length ∧ i = .int .i64 k ∧ Grew w wr ∧ Hid (symR r n xs = ((xs.drop k).all (altR r n) && rise (cmpL Nd.sgn) (xs.drop (k - 1))))) (fun i _ => xs.length - (intOf i).toNat)
  case atStart => exact ⟨0, Nat.zero_le _, rfl, grew_refl _, HO⟩
  case round =>
    obtain ⟨k, hk, rfl, hfr, HC⟩ := hrel
    by_cases hlt : k < xs.length
    · obtain ⟨b, o, p0, rfl, hb, hp0, hpt⟩ := (hX.frm hfr.1 (stays_rd moves_alt)).at1 k hlt
      have hd : Hid ((xs.drop k).all (altR r n) = (altR r n xs[k] && (xs.drop (k + 1)).all (altR r n))) := by
        unfold Hid
        rw [List.drop_eq_getElem_cons hlt, List.all_cons]
      have hp := Lib.hid fun (j : Nat) (hj : k = j + 1) => rise_drop (cmpL Nd.sgn) xs j (by omega)
      obtain ⟨x, hxk⟩ : ∃ z, Hid (z = xs[k]) := ⟨xs[k], by unfold Hid; rfl⟩
      rw [← hxk.out] at hd hpt
      have e2 : (0 : Int) ≤ (k : Int) := by omega
      have e3 : (k : Int) < xs.length := by omega
      have e3' : (k : Int) ≤ xs.length := by omega
      rcases k with _ | j
      · simp only [Nat.zero_mul, Nat.add_zero] at hp0
        go_wp2_with fail
        refine (ralt_calls x r n wr p0 hpt).mono ?_
        rintro e w1 ⟨rfl, hf1⟩
        have hG := grew_trans hfr hf1
        cases hz : altR r n x
        · have HD : Hid (symR r n xs = false) := by
            unfold Hid
            rw [HC.out, hd.out, hz]
            rfl
          clear hz
          go_wp2_with fail
          refine bodyPost_ret (results_tmp rfl _ _ _) rfl ⟨?_, hG⟩
          rw [HD.out]
          rfl
        · have HD : Hid (symR r n xs = ((xs.drop (0 + 1)).all (altR r n) && rise (cmpL Nd.sgn) (xs.drop (0 + 1 - 1)))) := by
            unfold Hid
            rw [HC.out, hd.out, hz, Bool.true_and]
          clear hz
          go_wp2_with fail
          exact ⟨⟨0 + 1, by omega, by go_num, hG, HD⟩, by simp [intOf]; omega⟩
      · have hjl : j < xs.length := by omega
        obtain ⟨b', o', q0, hbo, hb2, hq0, hqt⟩ := (hX.frm hfr.1 (stays_rd moves_alt)).at1 j hjl
        simp only [Option.some.injEq, Addr.mk.injEq, and_true] at hbo
        obtain ⟨rfl, rfl⟩ := hbo
        have hp' := hp.out j rfl
        rw [← hxk.out] at hp'
        have HP := Lib.hid hp'
        clear hp hp' hxk
        generalize xs[j] = pq at *
        have e5 : ((j : Int) + 1) - 1 = j := by omega
        have e6 : (0 : Int) ≤ (j : Int) := by omega
        have e7 : (j : Int) < xs.length := by omega
        have e7' : (j : Int) ≤ xs.length := by omega
        have e8 : IntKind.i64.wrap (j : Int) = j := IntWalk.i64_in _ (by omega)
        have e9 : IntKind.i64.wrap ((j : Int) + 1 - 1) = j := by rw [e5, e8]
        have e10 : decide (0 < (j : Int) + 1) = true := by (simp <;> omega)
        have e11 : (0 : Int) < (j : Int) + 1 := by omega
        go_wp2_with fail
        refine (ralt_calls x r n wr p0 hpt).mono ?_
        rintro e w1 ⟨rfl, hf1⟩
        have hG := grew_trans hfr hf1
        have hq1 := frm_cell hf1.1 hq0
        cases hz : altR r n x
        · have HD : Hid (symR r n xs = false) := by
            unfold Hid
            rw [HC.out, hd.out, hz]
            rfl
          clear hz
          go_wp2_with fail
          refine bodyPost_ret (results_tmp rfl _ _ _) rfl ⟨?_, hG⟩
          rw [HD.out]
          rfl
        · have HB : Hid (symR r n xs = ((xs.drop (j + 1 + 1)).all (altR r n) && rise (cmpL Nd.sgn) (xs.drop (j + 1 - 1)))) := by
            unfold Hid
            rw [HC.out, hd.out, hz, Bool.true_and]
          clear hz
          go_wp2_with fail
          refine (rcmpAlt_calls pq x w1 q0 p0 (rdO_frm moves_alt hf1.1 hqt) (rdO_frm moves_alt hf1.1 hpt)).mono ?_
          rintro e w2 ⟨rfl, hf2⟩
          have hG2 := grew_trans hG hf2
          have hbd := cmpL_sgn_bd pq x
          by_cases hz : 0 ≤ cmpL Nd.sgn pq x
          · have HD : Hid (symR r n xs = false) := by
              unfold Hid
              rw [HB.out, Nat.add_sub_cancel, HP.out, show decide (cmpL Nd.sgn pq x < 0) = false by (simp <;> omega)]
              simp
            go_wp2_with fail
            refine bodyPost_ret (results_tmp rfl _ _ _) rfl ⟨?_, hG2⟩
            rw [HD.out]
            rfl
          · have HD : Hid (symR r n xs = ((xs.drop (j + 1 + 1)).all (altR r n) && rise (cmpL Nd.sgn) (xs.drop (j + 1 + 1 - 1)))) := by
              unfold Hid
              rw [HB.out, Nat.add_sub_cancel, HP.out, show decide (cmpL Nd.sgn pq x < 0) = true by (simp <;> omega), Nat.add_sub_cancel, Bool.true_and]
            go_wp2_with fail
            exact ⟨⟨j + 1 + 1, by omega, by go_num, hG2, HD⟩, by simp [intOf]; omega⟩
    · obtain rfl : k = xs.length := by omega
      have HD : Hid (symR r n xs = true) := by
        unfold Hid
        rw [HC.out, rise_drop_end _ _ _ (by omega), List.drop_length]
        rfl
      go_wp2_with fail
      refine bodyPost_ret (results_tmp rfl _ _ _) rfl ⟨?_, hfr⟩
      rw [HD.out]
      rfl
end Go.Proofs.YtjpdmncafacmaaaGreatDoor
