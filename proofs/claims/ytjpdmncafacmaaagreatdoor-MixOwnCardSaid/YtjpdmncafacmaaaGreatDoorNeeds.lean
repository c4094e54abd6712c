/- Check's function of a need; a list's needs; rising lists of lists. -/
import Derived.Test.YtjpdmncafacmaaaGreatDoorRise
set_option linter.unusedVariables false
set_option linter.unusedSimpArgs false
namespace Go.Proofs.YtjpdmncafacmaaaGreatDoor
open Go.RowKit

/-- A need that is none for a symbol of rank r and n states. -/
def badNeed (r n : Int) (x : Nd) : Bool := decide (x.1 < 0) || decide (r ≤ x.1) || decide (x.2 < 0) || decide (n ≤ x.2)

set_option maxRecDepth 100000 in
set_option maxHeartbeats 1000000 in
theorem need1_calls (x y : Int) (w : World) (g g1 g2 b o m c s : Nat) (r n : Int) (hg : w.cell? ⟨g, 0, none⟩ = some (.slice (some ⟨b, o, none⟩) m c)) (hs : w.cell? ⟨g1, 0, none⟩ = some (.int .i64 s)) (hn : w.cell? ⟨g2, 0, none⟩ = some (.int .i64 n))
    (hr : w.cell? ⟨b, o + s, none⟩ = some (.int .i64 r)) (hsm : s < m) (hsm2 : m ≤ c) (hm : m ≤ 140737488351232) :
    Calls Tryz.prog 70 #[.agg #[.int .i64 x, .int .i64 y], .pointer (some ⟨g, 0, none⟩), .pointer (some ⟨g1, 0, none⟩), .pointer (some ⟨g2, 0, none⟩)] w (RetD w (.bool (badNeed r n (x, y)))) := by
  have i1 : (0 : Int) ≤ (s : Int) := by omega
  have i2 : (s : Int) < (m : Int) := by omega
  have i3 : (s : Int) ≤ (m : Int) := by omega
  have hb0 := World.block_lt_of_cell? _ _ hr
  have hb1 := World.block_lt_of_cell? _ _ hg
  have hb2 := World.block_lt_of_cell? _ _ hs
  have hb3 := World.block_lt_of_cell? _ _ hn
  have hk0 : ∀ w1, w1 = (w.alloc (.cells #[.int .i64 x, .int .i64 y] 80)).drew → (Grew w w1 ∧ w1.cell? ⟨w.heap.size, 0, none⟩ = some (.int .i64 x) ∧ w1.cell? ⟨w.heap.size, 1, none⟩ = some (.int .i64 y) ∧ w1.cell? ⟨g, 0, none⟩ = some (.slice (some ⟨b, o, none⟩) m c) ∧ w1.cell? ⟨g1, 0, none⟩ = some (.int .i64 s) ∧ w1.cell? ⟨g2, 0, none⟩ = some (.int .i64 n) ∧ w1.cell? ⟨b, o + s, none⟩ = some (.int .i64 r)) := by
    rintro w1 rfl
    obtain ⟨x0, x1, _, _⟩ := (TwoAt.new w (.int .i64 x) (.int .i64 y) 80).cells
    have hf : w.grownBy (w.alloc (.cells #[.int .i64 x, .int .i64 y] 80)) none := frm_alloc _ _
    exact ⟨grew_trans (grew_alloc _ _) (grew_drew _), x0, x1, frm_cell hf hg, frm_cell hf hs, frm_cell hf hn, frm_cell hf hr⟩
  have HK0 := Lib.hid hk0
  clear hk0
  by_cases h0 : x < 0
  · have d0 : decide (x < 0) = true := (by simpa using h0)
    have HD : Hid (badNeed r n (x, y) = true) := by unfold Hid badNeed; simp <;> omega
    go_enter Tryz.func70, Tryz.ntmps70
    go_wp2_with fail
    go_quiet (fail)
    go_wp2_with fail
    refine bodyPost_ret (results_tmp rfl _ _ _) rfl ⟨?_, grew_trans (grew_alloc _ _) ⟨frm_drewN _ _, Nat.le_add_right _ _⟩⟩
    rw [HD.out]
    rfl
  · by_cases h1 : r ≤ x
    · have d0 : decide (x < 0) = false := (by simpa using h0) ; have d1 : decide (r ≤ x) = true := (by simpa using h1)
      have HD : Hid (badNeed r n (x, y) = true) := by unfold Hid badNeed; simp <;> omega
      go_enter Tryz.func70, Tryz.ntmps70
      go_wp2_with fail
      go_quiet (fail)
      go_wp2_with fail
      refine bodyPost_ret (results_tmp rfl _ _ _) rfl ⟨?_, grew_trans (grew_alloc _ _) ⟨frm_drewN _ _, Nat.le_add_right _ _⟩⟩
      rw [HD.out]
      rfl
    · by_cases h2 : y < 0
      · have d0 : decide (x < 0) = false := (by simpa using h0) ; have d1 : decide (r ≤ x) = false := (by simpa using h1) ; have d2 : decide (y < 0) = true := (by simpa using h2)
        have HD : Hid (badNeed r n (x, y) = true) := by unfold Hid badNeed; simp <;> omega
        go_enter Tryz.func70, Tryz.ntmps70
        go_wp2_with fail
        go_quiet (fail)
        go_wp2_with fail
        refine bodyPost_ret (results_tmp rfl _ _ _) rfl ⟨?_, grew_trans (grew_alloc _ _) ⟨frm_drewN _ _, Nat.le_add_right _ _⟩⟩
        rw [HD.out]
        rfl
      · by_cases h3 : n ≤ y
        · have d0 : decide (x < 0) = false := (by simpa using h0) ; have d1 : decide (r ≤ x) = false := (by simpa using h1) ; have d2 : decide (y < 0) = false := (by simpa using h2) ; have d3 : decide (n ≤ y) = true := (by simpa using h3)
          have HD : Hid (badNeed r n (x, y) = true) := by unfold Hid badNeed; simp <;> omega
          go_enter Tryz.func70, Tryz.ntmps70
          go_wp2_with fail
          go_quiet (fail)
          go_wp2_with fail
          refine bodyPost_ret (results_tmp rfl _ _ _) rfl ⟨?_, grew_trans (grew_alloc _ _) ⟨frm_drewN _ _, Nat.le_add_right _ _⟩⟩
          rw [HD.out]
          rfl
        · have d0 : decide (x < 0) = false := (by simpa using h0) ; have d1 : decide (r ≤ x) = false := (by simpa using h1) ; have d2 : decide (y < 0) = false := (by simpa using h2) ; have d3 : decide (n ≤ y) = false := (by simpa using h3)
          have HD : Hid (badNeed r n (x, y) = false) := by unfold Hid badNeed; simp <;> omega
          go_enter Tryz.func70, Tryz.ntmps70
          go_wp2_with fail
          go_quiet (fail)
          go_wp2_with fail
          refine bodyPost_ret (results_tmp rfl _ _ _) rfl ⟨?_, grew_trans (grew_alloc _ _) ⟨frm_drewN _ _, Nat.le_add_right _ _⟩⟩
          rw [HD.out]
          rfl

end Go.Proofs.YtjpdmncafacmaaaGreatDoor
