/- The reference's Compare of alternatives. -/
import Derived.Test.YtjpdmncafacmaaaGreatDoorRefNd
set_option linter.unusedVariables false
set_option linter.unusedSimpArgs false
namespace Go.Proofs.YtjpdmncafacmaaaGreatDoor
open Go.RowKit

theorem Nd.sgn_bd (a b : Nd) : -1 ≤ Nd.sgn a b ∧ Nd.sgn a b ≤ 1 := by unfold Nd.sgn; split <;> (try split) <;> omega

set_option maxRecDepth 20000 in
set_option maxHeartbeats 400000 in
theorem rcmpAlt_calls (xs ys : List Nd) (w : World) (v u : Value) (hx : rdO AltR w xs [v]) (hy : rdO AltR w ys [u]) :
    Calls Tryz.prog 68 #[v, u] w (RetD w (.int .i64 (cmpL Nd.sgn xs ys))) := by
  have hX := RowS.sl hx
  have hY := RowS.sl hy
  clear hx hy
  obtain ⟨A, c, rfl, hc, hm⟩ := hX.val
  obtain ⟨A', c', rfl, hc', hm'⟩ := hY.val
  go_enter Tryz.func68, Tryz.ntmps68
  go_wp2_with fail
  go_loopw [5] (fun i wr => ∃ k : Nat, k ≤ xs.length ∧ k ≤ ys.length ∧ i = .int .i64 k ∧ Grew w wr ∧ Hid (cmpL Nd.sgn xs ys = cmpL Nd.sgn (xs.drop k) (ys.drop k))) (fun i _ => xs.length - (intOf i).toNat)
  case atStart => exact ⟨0, Nat.zero_le _, Nat.zero_le _, rfl, grew_refl _, rfl⟩
  case round =>
    obtain ⟨k, hk, hk', rfl, hfr, HC⟩ := hrel
    by_cases hlt : k < xs.length
    · by_cases hlt' : k < ys.length
      · obtain ⟨b, o, p0, p1, rfl, hb, hp0, hp1, hpt⟩ := (hX.frm hfr.1 (stays_rd moves_nd)).at2 k hlt
        obtain ⟨b2, o2, q0, q1, rfl, hb2, hq0, hq1, hqt⟩ := (hY.frm hfr.1 (stays_rd moves_nd)).at2 k hlt'
        obtain ⟨hpv, _⟩ := hpt
        simp only [List.cons.injEq, and_true] at hpv
        obtain ⟨rfl, rfl⟩ := hpv
        obtain ⟨hqv, _⟩ := hqt
        simp only [List.cons.injEq, and_true] at hqv
        obtain ⟨rfl, rfl⟩ := hqv
        have hd := Lib.hid (cmpL_drop Nd.sgn xs ys k hlt hlt')
        generalize xs[k] = x at *
        generalize ys[k] = y at *
        have ih := Lib.hid fun (w' : World) => rbefore_calls x.1 x.2 y.1 y.2 w'
        have hbd := Nd.sgn_bd x y
        have hk0 : ∀ w', w' = wr.drew → (Grew w w' ∧ w'.cell? ⟨b, o + k * 2, none⟩ = some (.int .i64 x.1) ∧ w'.cell? ⟨b, o + k * 2 + 1, none⟩ = some (.int .i64 x.2) ∧ w'.cell? ⟨b2, o2 + k * 2, none⟩ = some (.int .i64 y.1) ∧ w'.cell? ⟨b2, o2 + k * 2 + 1, none⟩ = some (.int .i64 y.2)) := by
          rintro w' rfl
          exact ⟨grew_trans hfr (grew_drew _), hp0, hp1, hq0, hq1⟩
        have hks : ∀ w1 w2 : World, Grew w1 w2 → (Grew w w1 ∧ w1.cell? ⟨b, o + k * 2, none⟩ = some (.int .i64 x.1) ∧ w1.cell? ⟨b, o + k * 2 + 1, none⟩ = some (.int .i64 x.2) ∧ w1.cell? ⟨b2, o2 + k * 2, none⟩ = some (.int .i64 y.1) ∧ w1.cell? ⟨b2, o2 + k * 2 + 1, none⟩ = some (.int .i64 y.2)) → (Grew w w2 ∧ w2.cell? ⟨b, o + k * 2, none⟩ = some (.int .i64 x.1) ∧ w2.cell? ⟨b, o + k * 2 + 1, none⟩ = some (.int .i64 x.2) ∧ w2.cell? ⟨b2, o2 + k * 2, none⟩ = some (.int .i64 y.1) ∧ w2.cell? ⟨b2, o2 + k * 2 + 1, none⟩ = some (.int .i64 y.2)) := fun w1 w2 hf h => ⟨grew_trans h.1 hf, frm_cell hf.1 h.2.1, frm_cell hf.1 h.2.2.1, frm_cell hf.1 h.2.2.2.1, frm_cell hf.1 h.2.2.2.2⟩
        have HK := Lib.hid hks
        have HK0 := Lib.hid hk0
        clear hks hk0
        have e2 : (0 : Int) ≤ (k : Int) := by omega
        have e3 : (k : Int) < xs.length := by omega
        have e3' : (k : Int) ≤ xs.length := by omega
        have e4 : (k : Int) < ys.length := by omega
        have e4' : (k : Int) ≤ ys.length := by omega
        go_wp2_with fail
        go_region_held3 (fun w' => Grew w w' ∧ w'.cell? ⟨b, o + k * 2, none⟩ = some (.int .i64 x.1) ∧ w'.cell? ⟨b, o + k * 2 + 1, none⟩ = some (.int .i64 x.2) ∧ w'.cell? ⟨b2, o2 + k * 2, none⟩ = some (.int .i64 y.1) ∧ w'.cell? ⟨b2, o2 + k * 2 + 1, none⟩ = some (.int .i64 y.2)) (first | exact HK0.out _ rfl | exact HK.out _ _ (by assumption) (by assumption)) ((go_at_call 108; refine (ih.out _).mono ?_; rintro e w' ⟨rfl, hfw⟩))
        rename_i hHeld
        have hG := hHeld.1
        have hxy : Nd.sgn (x.1, x.2) (y.1, y.2) = Nd.sgn x y := rfl
        rw [hxy]
        clear hxy
        by_cases hz : Nd.sgn x y = 0
        · have HD : Hid (cmpL Nd.sgn xs ys = cmpL Nd.sgn (xs.drop (k + 1)) (ys.drop (k + 1))) := by
            unfold Hid
            rw [HC.out, hd.out, if_neg (by simpa using hz)]
          have hz' : (Nd.sgn x y != 0) = false := by simp [hz]
          clear hz
          go_wp2_with fail
          exact ⟨⟨k + 1, by omega, by omega, by go_num, hG, HD⟩, by simp [intOf]; omega⟩
        · have HD : Hid (cmpL Nd.sgn xs ys = Nd.sgn x y) := by
            unfold Hid
            rw [HC.out, hd.out, if_pos (by simpa using hz)]
          have hz' : (Nd.sgn x y != 0) = true := by simp [hz]
          clear hz
          go_wp2_with fail
          refine bodyPost_ret (results_tmp rfl _ _ _) rfl ⟨?_, hG⟩
          rw [HD.out]
          rfl
      · have HD : Hid (cmpL Nd.sgn xs ys = 1) := by
          unfold Hid
          rw [HC.out, cmpL_drop_short _ _ _ _ hlt (by omega)]
        have f1 : ¬ xs.length < ys.length := by omega
        have f2 : ys.length < xs.length := by omega
        go_wp2_with fail
        refine bodyPost_ret (results_tmp rfl _ _ _) rfl ⟨?_, hfr⟩
        rw [HD.out]
        rfl
    · obtain rfl : k = xs.length := by omega
      have he := Lib.hid (cmpL_drop_end Nd.sgn xs ys xs.length (Nat.le_refl _) hk')
      by_cases hl : xs.length < ys.length
      · have HD : Hid (cmpL Nd.sgn xs ys = -1) := by
          unfold Hid
          rw [HC.out, he.out, if_pos hl]
        go_wp2_with fail
        refine bodyPost_ret (results_tmp rfl _ _ _) rfl ⟨?_, hfr⟩
        rw [HD.out]
        rfl
      · have HD : Hid (cmpL Nd.sgn xs ys = 0) := by
          unfold Hid
          rw [HC.out, he.out, if_neg hl]
        have f2 : ¬ ys.length < xs.length := by omega
        go_wp2_with fail
        refine bodyPost_ret (results_tmp rfl _ _ _) rfl ⟨?_, hfr⟩
        rw [HD.out]
        rfl
end Go.Proofs.YtjpdmncafacmaaaGreatDoor
