/- The reference's Ranks and Before. -/
import Derived.Test.YtjpdmncafacmaaaGreatDoorACheck
set_option linter.unusedVariables false
set_option linter.unusedSimpArgs false
namespace Go.Proofs.YtjpdmncafacmaaaGreatDoor
open Go.RowKit

set_option maxRecDepth 20000 in
set_option maxHeartbeats 400000 in
theorem rranks_calls (xs : List Int) (w : World) (v : Value) (hx : SlO w 1 (rdO IntR) xs v) :
    Calls Tryz.prog 29 #[v] w (RetD w (.bool (ranksOk xs))) := by
  obtain ⟨A, c, rfl, hc, hm⟩ := hx.val
  go_enter Tryz.func29, Tryz.ntmps29
  go_wp2_with fail
  go_loopw [7] (fun i wr => ∃ k : Nat, k ≤ xs.length ∧ i = .int .i64 k ∧ Grew w wr ∧ Hid (xs.all (fun r => decide (0 ≤ r ∧ r ≤ 4)) = (xs.drop k).all (fun r => decide (0 ≤ r ∧ r ≤ 4)))) (fun i _ => xs.length - (intOf i).toNat)
  case atStart => exact ⟨0, Nat.zero_le _, rfl, grew_refl _, rfl⟩
  case round =>
    obtain ⟨k, hk, rfl, hfr, HC⟩ := hrel
    by_cases hlt : k < xs.length
    · obtain ⟨b, o, p0, rfl, hb, hp0, hpt⟩ := (hx.frm hfr.1 (stays_rd moves_int)).at1 k hlt
      obtain ⟨hpv, hr1, hr2⟩ := hpt
      simp only [List.cons.injEq, and_true] at hpv
      subst hpv
      have hd : Hid ((xs.drop k).all (fun r => decide (0 ≤ r ∧ r ≤ 4)) = (decide (0 ≤ xs[k] ∧ xs[k] ≤ 4) && (xs.drop (k + 1)).all (fun r => decide (0 ≤ r ∧ r ≤ 4)))) := by
        unfold Hid
        rw [List.drop_eq_getElem_cons hlt, List.all_cons]
      generalize xs[k] = x at *
      by_cases hx0 : x < 0
      · have HD : Hid (ranksOk xs = false) := by
          unfold Hid ranksOk
          rw [HC.out, hd.out, show decide (0 ≤ x ∧ x ≤ 4) = false by simp; omega]
          simp
        go_wp2_with fail
        refine bodyPost_ret (results_tmp rfl _ _ _) rfl ⟨?_, hfr⟩
        rw [HD.out]
        rfl
      · by_cases hx4 : 4 < x
        · have HD : Hid (ranksOk xs = false) := by
            unfold Hid ranksOk
            rw [HC.out, hd.out, show decide (0 ≤ x ∧ x ≤ 4) = false by simp; omega]
            simp
          go_wp2_with fail
          refine bodyPost_ret (results_tmp rfl _ _ _) rfl ⟨?_, hfr⟩
          rw [HD.out]
          rfl
        · have HD : Hid (xs.all (fun r => decide (0 ≤ r ∧ r ≤ 4)) = (xs.drop (k + 1)).all (fun r => decide (0 ≤ r ∧ r ≤ 4))) := by
            unfold Hid
            rw [HC.out, hd.out, show decide (0 ≤ x ∧ x ≤ 4) = true by simp; omega]
            simp
          go_wp2_with fail
          exact ⟨⟨k + 1, by omega, by go_num, hfr, HD⟩, by simp [intOf]; omega⟩
    · have HD : Hid (ranksOk xs = decide (xs.length ≤ 24)) := by
        unfold Hid ranksOk
        rw [HC.out, List.drop_eq_nil_of_le (by omega)]
        simp
      go_wp2_with fail
      refine bodyPost_ret (results_tmp rfl _ _ _) rfl ⟨?_, hfr⟩
      rw [HD.out]
      simp
      omega

/-- The reference's order of needs. -/
def Nd.sgn (a b : Nd) : Int := if a.1 < b.1 ∨ (a.1 = b.1 ∧ a.2 < b.2) then -1 else if a.1 = b.1 ∧ a.2 = b.2 then 0 else 1
set_option maxRecDepth 100000 in
set_option maxHeartbeats 1000000 in
theorem rbefore_calls (a1 a2 b1 b2 : Int) (w : World) :
    Calls Tryz.prog 108 #[.agg #[.int .i64 a1, .int .i64 a2], .agg #[.int .i64 b1, .int .i64 b2]] w (RetD w (.int .i64 (Nd.sgn (a1, a2) (b1, b2)))) := by
  obtain ⟨x0, x1, _, _⟩ := ((TwoAt.new w (.int .i64 a1) (.int .i64 a2) 80).alloc (.cells #[.int .i64 b1, .int .i64 b2] 80)).cells
  obtain ⟨y0, y1, _, _⟩ := (TwoAt.new2 w (.cells #[.int .i64 a1, .int .i64 a2] 80) (.int .i64 b1) (.int .i64 b2) 80).cells
  by_cases h1 : a1 < b1
  · have HV : Hid (Nd.sgn (a1, a2) (b1, b2) = -1) := by unfold Hid Nd.sgn; simp only []; rw [if_pos (by omega)]
    have d1 : (a1 != b1) = true := by simp; omega
    have d2 : decide (a1 < b1) = true := by simp; omega
    go_enter Tryz.func108, Tryz.ntmps108
    go_wp2_with fail
    refine bodyPost_ret (results_tmp rfl _ _ _) rfl ⟨?_, grew_then_alloc (grew_alloc _ _) _⟩
    rw [HV.out]
    rfl
  · by_cases h2 : a1 = b1
    · subst h2
      by_cases h3 : a2 < b2
      · have HV : Hid (Nd.sgn (a1, a2) (a1, b2) = -1) := by unfold Hid Nd.sgn; simp only []; rw [if_pos (Or.inr ⟨trivial, h3⟩)]
        have d1 : (a1 != a1) = false := by simp
        have d2 : (a1 == a1) = true := by simp
        have d3 : decide (a2 < b2) = true := by simp; omega
        go_enter Tryz.func108, Tryz.ntmps108
        go_wp2_with fail
        refine bodyPost_ret (results_tmp rfl _ _ _) rfl ⟨?_, grew_then_alloc (grew_alloc _ _) _⟩
        rw [HV.out]
        rfl
      · by_cases h4 : a2 = b2
        · subst h4
          have HV : Hid (Nd.sgn (a1, a2) (a1, a2) = 0) := by unfold Hid Nd.sgn; simp only []; rw [if_neg (by simp), if_pos ⟨trivial, trivial⟩]
          have d1 : (a1 != a1) = false := by simp
          have d2 : (a1 == a1) = true := by simp
          have d3 : decide (a2 < a2) = false := by simp
          go_enter Tryz.func108, Tryz.ntmps108
          go_wp2_with fail
          refine bodyPost_ret (results_tmp rfl _ _ _) rfl ⟨?_, grew_then_alloc (grew_alloc _ _) _⟩
          rw [HV.out]
          rfl
        · have HV : Hid (Nd.sgn (a1, a2) (a1, b2) = 1) := by unfold Hid Nd.sgn; simp only []; rw [if_neg (by omega), if_neg (by omega)]
          have d1 : (a1 != a1) = false := by simp
          have d2 : (a1 == a1) = true := by simp
          have d3 : decide (a2 < b2) = false := by simp; omega
          have d4 : (a2 == b2) = false := by simp; omega
          go_enter Tryz.func108, Tryz.ntmps108
          go_wp2_with fail
          refine bodyPost_ret (results_tmp rfl _ _ _) rfl ⟨?_, grew_then_alloc (grew_alloc _ _) _⟩
          rw [HV.out]
          rfl
    · have HV : Hid (Nd.sgn (a1, a2) (b1, b2) = 1) := by unfold Hid Nd.sgn; simp only []; rw [if_neg (by omega), if_neg (by omega)]
      have d1 : (a1 != b1) = true := by simp; omega
      have d2 : decide (a1 < b1) = false := by simp; omega
      have d3 : (a1 == b1) = false := by simp; omega
      go_enter Tryz.func108, Tryz.ntmps108
      go_wp2_with fail
      refine bodyPost_ret (results_tmp rfl _ _ _) rfl ⟨?_, grew_then_alloc (grew_alloc _ _) _⟩
      rw [HV.out]
      rfl
end Go.Proofs.YtjpdmncafacmaaaGreatDoor
