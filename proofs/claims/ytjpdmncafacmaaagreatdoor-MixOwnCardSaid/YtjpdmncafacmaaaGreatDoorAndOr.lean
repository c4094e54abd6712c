/- mix's And and Or. -/
import Derived.Test.YtjpdmncafacmaaaGreatDoorJoinW
set_option linter.unusedVariables false
set_option linter.unusedSimpArgs false
namespace Go.Proofs.YtjpdmncafacmaaaGreatDoor
open Go.RowKit

theorem stAnd_small (x y : List (List Nd)) (hx : altsSmall x) (hy : altsSmall y) : (stAnd x y).length ≤ 10000 ∧ ∀ l ∈ stAnd x y, ∀ n ∈ l, Nd.small n := by
  refine ⟨?_, fun l hl n hn => ?_⟩
  · rw [stAnd_len]
    have := Nat.mul_le_mul hx.1 hy.1
    omega
  · unfold stAnd at hl
    obtain ⟨p, hp, hl⟩ := List.mem_flatMap.1 hl
    obtain ⟨q, hq, rfl⟩ := List.mem_map.1 hl
    rcases List.mem_append.1 ((setL_mem ord_nd _ _).1 hn) with h | h
    · exact (hx.2 p hp).2 n h
    · exact (hy.2 q hq).2 n h
theorem stOr_small (x y : List (List Nd)) (hx : altsSmall x) (hy : altsSmall y) : (stOr x y).length ≤ 10000 ∧ ∀ l ∈ stOr x y, ∀ n ∈ l, Nd.small n := by
  have h1 := hx.1
  have h2 := hy.1
  refine ⟨by unfold stOr; rw [List.length_append]; omega, fun l hl n hn => ?_⟩
  rcases List.mem_append.1 hl with h | h
  · exact (hx.2 l h).2 n hn
  · exact (hy.2 l h).2 n hn

set_option maxRecDepth 100000 in
set_option maxHeartbeats 400000 in
theorem and_calls (a b : Au) (w : World) (r m r' m' : Value) (ha : rdO AuR w a [r, .int .i64 a.start, m]) (hb : rdO AuR w b [r', .int .i64 b.start, m']) :
    Calls Tryz.prog 21 #[.agg #[r, .int .i64 a.start, m], .agg #[r', .int .i64 b.start, m']] w (RetA w (joinV stAnd a b) (joinE stAnd a b)) := by
  have HA := Lib.hid ha
  have HB := Lib.hid hb
  clear ha hb
  obtain ⟨w2, hw2⟩ : ∃ w2, w2 = ((w.alloc (.cells #[r, .int .i64 a.start, m] 25)).alloc (.cells #[r', .int .i64 b.start, m'] 25)).alloc (.cells #[.slice none 0 0, .int .i64 0, .slice none 0 0] 25) := ⟨_, rfl⟩
  have hG2 : Grew w w2 := by rw [hw2]; exact grew_then_alloc (grew_then_alloc (grew_alloc _ _) _) _
  have xo : ThreeAt w2 (w.heap.size + 2) (.slice none 0 0) (.int .i64 0) (.slice none 0 0) 25 := by
    have h := ThreeAt.new ((w.alloc (.cells #[r, .int .i64 a.start, m] 25)).alloc (.cells #[r', .int .i64 b.start, m'] 25)) (.slice none 0 0) (.int .i64 0) (.slice none 0 0) 25
    rw [World.size_alloc, World.size_alloc] at h
    rw [hw2]; exact h
  have hP := joined_calls 59 stAnd stFn_and (enters_of Tryz.func59 (by kernel_rfl) rfl) stAnd_small a b w2 _ _ _ _ (rdO_frm moves_au hG2.1 HA.out) (rdO_frm moves_au hG2.1 HB.out)
  rw [hw2] at hP
  have HP := Lib.hid hP
  have HW2 := Lib.hid hw2
  clear hw2 hP
  go_enter Tryz.func21, Tryz.ntmps21
  go_wp2_with fail
  refine HP.out.mono ?_
  rw [← HW2.out]
  rintro e w3 ⟨r3, m3, rfl, hf3, hr3⟩
  have hG3 := grew_trans hG2 hf3
  obtain ⟨k0, k1, k2⟩ := (xo.frm hf3.1).cells
  have kf0 := (xo.frm hf3.1).free 0
  have kf1 := (xo.frm hf3.1).free 1
  have kf2 := (xo.frm hf3.1).free 2
  have hlt := xo.lt
  obtain ⟨A3, n3, c3, B3, p3, d3, rfl, rfl⟩ : ∃ A3 n3 c3 B3 p3 d3, r3 = .slice A3 n3 c3 ∧ m3 = .slice B3 p3 d3 := by
    obtain ⟨r', m', he, ⟨v1, h1, s1⟩, ⟨v2, h2, s2⟩, _⟩ := id hr3
    obtain ⟨A1, c1, rfl, _⟩ := s1.val
    obtain ⟨A2, c2, rfl, _⟩ := s2.val
    simp only [List.cons.injEq, and_true, true_and] at he h1 h2
    rw [h1] at he
    rw [h2] at he
    exact ⟨_, _, _, _, _, _, he.1, he.2⟩
  have HR := Lib.hid hr3
  clear hr3
  generalize hjv : joinV stAnd a b = jv at *
  generalize hje : joinE stAnd a b = je at *
  go_wp2_with fail
  refine bodyPost_ret (v := .tuple #[.agg #[.slice A3 n3 c3, .int .i64 jv.start, .slice B3 p3 d3], .int .i64 je]) (by simp [results, Tryz.results21, go_sem, k0, k1, k2, kf0, kf1, kf2]) rfl ⟨_, _, rfl, ?_, ?_⟩
  · exact grew_set_new (grew_set_new (grew_set_new hG3 (by omega) _ _) (by omega) _ _) (by omega) _ _
  · have hs := hG2.1.size
    refine moves_WR moves_au _ _ _ _ _ _ (fun q hq => ⟨by have := hq.1; omega, by simp; exact hq.2⟩) (fun q hq => ?_) HR.out
    have := hq.1
    rw [Below.heap_setCell _ _ _ _ (by show q ≠ w.heap.size + 2; omega), Below.heap_setCell _ _ _ _ (by show q ≠ w.heap.size + 2; omega), Below.heap_setCell _ _ _ _ (by show q ≠ w.heap.size + 2; omega)]
set_option maxRecDepth 100000 in
set_option maxHeartbeats 400000 in
theorem or_calls (a b : Au) (w : World) (r m r' m' : Value) (ha : rdO AuR w a [r, .int .i64 a.start, m]) (hb : rdO AuR w b [r', .int .i64 b.start, m']) :
    Calls Tryz.prog 23 #[.agg #[r, .int .i64 a.start, m], .agg #[r', .int .i64 b.start, m']] w (RetA w (joinV stOr a b) (joinE stOr a b)) := by
  have HA := Lib.hid ha
  have HB := Lib.hid hb
  clear ha hb
  obtain ⟨w2, hw2⟩ : ∃ w2, w2 = ((w.alloc (.cells #[r, .int .i64 a.start, m] 25)).alloc (.cells #[r', .int .i64 b.start, m'] 25)).alloc (.cells #[.slice none 0 0, .int .i64 0, .slice none 0 0] 25) := ⟨_, rfl⟩
  have hG2 : Grew w w2 := by rw [hw2]; exact grew_then_alloc (grew_then_alloc (grew_alloc _ _) _) _
  have xo : ThreeAt w2 (w.heap.size + 2) (.slice none 0 0) (.int .i64 0) (.slice none 0 0) 25 := by
    have h := ThreeAt.new ((w.alloc (.cells #[r, .int .i64 a.start, m] 25)).alloc (.cells #[r', .int .i64 b.start, m'] 25)) (.slice none 0 0) (.int .i64 0) (.slice none 0 0) 25
    rw [World.size_alloc, World.size_alloc] at h
    rw [hw2]; exact h
  have hP := joined_calls 61 stOr stFn_or (enters_of Tryz.func61 (by kernel_rfl) rfl) stOr_small a b w2 _ _ _ _ (rdO_frm moves_au hG2.1 HA.out) (rdO_frm moves_au hG2.1 HB.out)
  rw [hw2] at hP
  have HP := Lib.hid hP
  have HW2 := Lib.hid hw2
  clear hw2 hP
  go_enter Tryz.func23, Tryz.ntmps23
  go_wp2_with fail
  refine HP.out.mono ?_
  rw [← HW2.out]
  rintro e w3 ⟨r3, m3, rfl, hf3, hr3⟩
  have hG3 := grew_trans hG2 hf3
  obtain ⟨k0, k1, k2⟩ := (xo.frm hf3.1).cells
  have kf0 := (xo.frm hf3.1).free 0
  have kf1 := (xo.frm hf3.1).free 1
  have kf2 := (xo.frm hf3.1).free 2
  have hlt := xo.lt
  obtain ⟨A3, n3, c3, B3, p3, d3, rfl, rfl⟩ : ∃ A3 n3 c3 B3 p3 d3, r3 = .slice A3 n3 c3 ∧ m3 = .slice B3 p3 d3 := by
    obtain ⟨r', m', he, ⟨v1, h1, s1⟩, ⟨v2, h2, s2⟩, _⟩ := id hr3
    obtain ⟨A1, c1, rfl, _⟩ := s1.val
    obtain ⟨A2, c2, rfl, _⟩ := s2.val
    simp only [List.cons.injEq, and_true, true_and] at he h1 h2
    rw [h1] at he
    rw [h2] at he
    exact ⟨_, _, _, _, _, _, he.1, he.2⟩
  have HR := Lib.hid hr3
  clear hr3
  generalize hjv : joinV stOr a b = jv at *
  generalize hje : joinE stOr a b = je at *
  go_wp2_with fail
  refine bodyPost_ret (v := .tuple #[.agg #[.slice A3 n3 c3, .int .i64 jv.start, .slice B3 p3 d3], .int .i64 je]) (by simp [results, Tryz.results23, go_sem, k0, k1, k2, kf0, kf1, kf2]) rfl ⟨_, _, rfl, ?_, ?_⟩
  · exact grew_set_new (grew_set_new (grew_set_new hG3 (by omega) _ _) (by omega) _ _) (by omega) _ _
  · have hs := hG2.1.size
    refine moves_WR moves_au _ _ _ _ _ _ (fun q hq => ⟨by have := hq.1; omega, by simp; exact hq.2⟩) (fun q hq => ?_) HR.out
    have := hq.1
    rw [Below.heap_setCell _ _ _ _ (by show q ≠ w.heap.size + 2; omega), Below.heap_setCell _ _ _ _ (by show q ≠ w.heap.size + 2; omega), Below.heap_setCell _ _ _ _ (by show q ≠ w.heap.size + 2; omega)]
end Go.Proofs.YtjpdmncafacmaaaGreatDoor
