/- mix's check of a pair. -/
import Derived.Test.YtjpdmncafacmaaaGreatDoorSameL
set_option linter.unusedVariables false
set_option linter.unusedSimpArgs false
namespace Go.Proofs.YtjpdmncafacmaaaGreatDoor
open Go.RowKit

def pairE (a b : Au) : Int := if a.ok then (if b.ok then (if a.ranks = b.ranks then 0 else 2) else 10) else 10
theorem AuR.parts {a : Au} {w : World} {r m : Value} (h : rdO AuR w a [r, .int .i64 a.start, m]) : SlO w 1 (rdO IntR) a.ranks r ∧ SlO w 1 (rdO RuleR) a.moves m ∧ -9223372036854775808 ≤ a.start ∧ a.start ≤ 9223372036854775807 := by
  obtain ⟨r', m', he, hr, hm, hst⟩ := h
  simp only [List.cons.injEq, and_true, true_and] at he
  obtain ⟨rfl, rfl⟩ := he
  exact ⟨RowS.sl hr, RowS.sl hm, hst⟩

set_option maxRecDepth 100000 in
set_option maxHeartbeats 1000000 in
theorem pair_calls (a b : Au) (w : World) (r m r' m' : Value) (ha : rdO AuR w a [r, .int .i64 a.start, m]) (hb : rdO AuR w b [r', .int .i64 b.start, m']) :
    Calls Tryz.prog 99 #[.agg #[r, .int .i64 a.start, m], .agg #[r', .int .i64 b.start, m']] w (RetD w (.int .i64 (pairE a b))) := by
  obtain ⟨hR, _, _, _⟩ := AuR.parts ha
  obtain ⟨hR', _, _, _⟩ := AuR.parts hb
  have HA := Lib.hid ha
  have HB := Lib.hid hb
  clear ha hb
  have hA0 : AuS w ((w.alloc (.cells #[r, .int .i64 a.start, m] 25)).alloc (.cells #[r', .int .i64 b.start, m'] 25)) r m a.start := (AuS.new _ _ _ _ _).step (grew_alloc _ _)
  have hB0 : AuS (w.alloc (.cells #[r, .int .i64 a.start, m] 25)) ((w.alloc (.cells #[r, .int .i64 a.start, m] 25)).alloc (.cells #[r', .int .i64 b.start, m'] 25)) r' m' b.start := AuS.new _ _ _ _ _
  obtain ⟨_, y0, y1, y2⟩ := hB0
  obtain ⟨hG, x0, x1, x2⟩ := hA0
  rw [World.size_alloc] at y0 y1 y2
  go_enter Tryz.func99, Tryz.ntmps99
  go_wp2_with fail
  refine (acheck_calls a _ _ _ (rdO_frm moves_au hG.1 HA.out)).mono ?_
  rintro e w1 ⟨rfl, hf1⟩
  have hG1 := grew_trans hG hf1
  have y0' := frm_cell hf1.1 y0
  have y1' := frm_cell hf1.1 y1
  have y2' := frm_cell hf1.1 y2
  have x0' := frm_cell hf1.1 x0
  clear x1 x2 x0 y0 y1 y2
  cases hao : a.ok
  · have HQ : Hid (pairE a b = 10) := by unfold Hid pairE; rw [hao]; rfl
    clear hao
    go_wp2_with fail
    refine bodyPost_ret (results_tmp rfl _ _ _) rfl ⟨?_, hG1⟩
    rw [HQ.out]
    rfl
  · have HQ1 : Hid (pairE a b = if b.ok then (if a.ranks = b.ranks then 0 else 2) else 10) := by unfold Hid pairE; rw [hao]; rfl
    clear hao
    go_wp2_with fail
    refine (acheck_calls b _ _ _ (rdO_frm moves_au hG1.1 HB.out)).mono ?_
    rintro e w2 ⟨rfl, hf2⟩
    have hG2 := grew_trans hG1 hf2
    have y0'' := frm_cell hf2.1 y0'
    have x0'' := frm_cell hf2.1 x0'
    cases hbo : b.ok
    · have HQ : Hid (pairE a b = 10) := by unfold Hid; rw [HQ1.out, hbo]; rfl
      clear hbo
      go_wp2_with fail
      refine bodyPost_ret (results_tmp rfl _ _ _) rfl ⟨?_, hG2⟩
      rw [HQ.out]
      rfl
    · have HQ2 : Hid (pairE a b = if a.ranks = b.ranks then 0 else 2) := by unfold Hid; rw [HQ1.out, hbo]; rfl
      clear hbo
      go_wp2_with fail
      refine (equalR_calls a.ranks b.ranks w2 r r' (hR.frm hG2.1 (stays_rd moves_int)) (hR'.frm hG2.1 (stays_rd moves_int))).mono ?_
      rintro e w3 ⟨rfl, hf3⟩
      have hG3 := grew_trans hG2 hf3
      by_cases hz : a.ranks = b.ranks
      · have HQ : Hid (pairE a b = 0) := by unfold Hid; rw [HQ2.out, if_pos hz]
        rw [decide_eq_true hz]
        clear hz
        go_wp2_with fail
        refine bodyPost_ret (results_tmp rfl _ _ _) rfl ⟨?_, hG3⟩
        rw [HQ.out]
        rfl
      · have HQ : Hid (pairE a b = 2) := by unfold Hid; rw [HQ2.out, if_neg hz]
        rw [decide_eq_false hz]
        clear hz
        go_wp2_with fail
        refine bodyPost_ret (results_tmp rfl _ _ _) rfl ⟨?_, hG3⟩
        rw [HQ.out]
        rfl
end Go.Proofs.YtjpdmncafacmaaaGreatDoor
