/- rising, Ranks. -/
import Derived.Test.YtjpdmncafacmaaaGreatDoorAuto
import Derived.Deep.RegionHeld3
set_option linter.unusedVariables false
set_option linter.unusedSimpArgs false
namespace Go.Proofs.YtjpdmncafacmaaaGreatDoor
open Go.RowKit

set_option maxRecDepth 20000 in
set_option maxHeartbeats 400000 in
theorem risingN_calls (xs : List Nd) (hs : ∀ x ∈ xs, Nd.small x) (w : World) (v : Value) (hx : SlO w 2 (rdO NdR) xs v) :
    Calls Tryz.prog 72 #[v, .func (.func 73) #[] #[]] w (RetD w (.bool (rise Nd.cmp xs))) := by
  obtain ⟨A, c, rfl, hc, hm⟩ := hx.val
  have HX := Lib.hid hs
  clear hs
  go_enter Tryz.func72, Tryz.ntmps72
  go_wp2_with fail
  go_loopw [5] (fun i wr => ∃ k : Nat, k ≤ xs.length ∧ i = .int .i64 (k + 1) ∧ Grew w wr ∧ Hid (rise Nd.cmp xs = rise Nd.cmp (xs.drop k))) (fun i _ => xs.length + 1 - (intOf i).toNat)
  case atStart => exact ⟨0, Nat.zero_le _, rfl, grew_refl _, rfl⟩
  case round =>
    obtain ⟨k, hk, rfl, hfr, HC⟩ := hrel
    by_cases hlt : k + 1 < xs.length
    · obtain ⟨b, o, p0, p1, rfl, hb, hp0, hp1, hpt⟩ := (hx.frm hfr.1 (stays_rd moves_nd)).at2 k (by omega)
      obtain ⟨b', o', q0, q1, hbo, hb2, hq0, hq1, hqt⟩ := (hx.frm hfr.1 (stays_rd moves_nd)).at2 (k + 1) hlt
      simp only [Option.some.injEq, Addr.mk.injEq, and_true] at hbo
      obtain ⟨rfl, rfl⟩ := hbo
      obtain ⟨hpv, _⟩ := hpt
      simp only [List.cons.injEq, and_true] at hpv
      obtain ⟨rfl, rfl⟩ := hpv
      obtain ⟨hqv, _⟩ := hqt
      simp only [List.cons.injEq, and_true] at hqv
      obtain ⟨rfl, rfl⟩ := hqv
      have hd := Lib.hid (rise_drop Nd.cmp xs k hlt)
      have ih := Lib.hid (before_calls _ _ (HX.out _ (List.getElem_mem (show k < xs.length by omega))) (HX.out _ (List.getElem_mem hlt)))
      have hsm : Nd.small xs[k] := HX.out _ (List.getElem_mem (show k < xs.length by omega))
      have hsm2 : Nd.small xs[k + 1] := HX.out _ (List.getElem_mem hlt)
      have hcb : -63 ≤ Nd.cmp xs[k] xs[k + 1] ∧ Nd.cmp xs[k] xs[k + 1] ≤ 63 := by
        unfold Nd.cmp
        obtain ⟨⟨_, _⟩, _, _⟩ := hsm
        obtain ⟨⟨_, _⟩, _, _⟩ := hsm2
        split <;> omega
      clear hsm hsm2
      generalize xs[k] = x at *
      generalize xs[k + 1] = y at *
      have hk0 : ∀ w', w' = wr.drew → (Grew w w' ∧ w'.cell? ⟨b, o + k * 2, none⟩ = some (.int .i64 x.1) ∧ w'.cell? ⟨b, o + k * 2 + 1, none⟩ = some (.int .i64 x.2) ∧ w'.cell? ⟨b, o + (k + 1) * 2, none⟩ = some (.int .i64 y.1) ∧ w'.cell? ⟨b, o + (k + 1) * 2 + 1, none⟩ = some (.int .i64 y.2)) := by
        rintro w' rfl
        exact ⟨grew_trans hfr (grew_drew _), hp0, hp1, hq0, hq1⟩
      have hks : ∀ w1 w2 : World, Grew w1 w2 → (Grew w w1 ∧ w1.cell? ⟨b, o + k * 2, none⟩ = some (.int .i64 x.1) ∧ w1.cell? ⟨b, o + k * 2 + 1, none⟩ = some (.int .i64 x.2) ∧ w1.cell? ⟨b, o + (k + 1) * 2, none⟩ = some (.int .i64 y.1) ∧ w1.cell? ⟨b, o + (k + 1) * 2 + 1, none⟩ = some (.int .i64 y.2)) → (Grew w w2 ∧ w2.cell? ⟨b, o + k * 2, none⟩ = some (.int .i64 x.1) ∧ w2.cell? ⟨b, o + k * 2 + 1, none⟩ = some (.int .i64 x.2) ∧ w2.cell? ⟨b, o + (k + 1) * 2, none⟩ = some (.int .i64 y.1) ∧ w2.cell? ⟨b, o + (k + 1) * 2 + 1, none⟩ = some (.int .i64 y.2)) := fun w1 w2 hf h => ⟨grew_trans h.1 hf, frm_cell hf.1 h.2.1, frm_cell hf.1 h.2.2.1, frm_cell hf.1 h.2.2.2.1, frm_cell hf.1 h.2.2.2.2⟩
      have HK := Lib.hid hks
      have HK0 := Lib.hid hk0
      clear hks hk0
      have e1 : (k : Int) + 1 - 1 = k := by omega
      have e2 : (0 : Int) ≤ (k : Int) := by omega
      have e3 : (k : Int) < xs.length := by omega
      have e3' : (k : Int) ≤ xs.length := by omega
      have e4 : (0 : Int) ≤ (k : Int) + 1 := by omega
      have e5 : (k : Int) + 1 < xs.length := by omega
      have e6 : ((k : Int) + 1).toNat = k + 1 := by omega
      have e8 : IntKind.i64.wrap (k : Int) = k := IntWalk.i64_in _ (by omega)
      have e7 : IntKind.i64.wrap ((k : Int) + 1 - 1) = k := by rw [e1, e8]
      go_wp2_with fail
      go_region_held3 (fun w' => Grew w w' ∧ w'.cell? ⟨b, o + k * 2, none⟩ = some (.int .i64 x.1) ∧ w'.cell? ⟨b, o + k * 2 + 1, none⟩ = some (.int .i64 x.2) ∧ w'.cell? ⟨b, o + (k + 1) * 2, none⟩ = some (.int .i64 y.1) ∧ w'.cell? ⟨b, o + (k + 1) * 2 + 1, none⟩ = some (.int .i64 y.2)) (first | exact HK0.out _ rfl | exact HK.out _ _ (by assumption) (by assumption)) ((go_at_call 73; refine (ih.out _).mono ?_; rintro e w' ⟨rfl, hfw⟩))
      rename_i hHeld
      have hG := hHeld.1
      by_cases hz : 0 ≤ Nd.cmp x y
      · have HD : Hid (rise Nd.cmp xs = false) := by
          unfold Hid
          rw [HC.out, hd.out, show decide (Nd.cmp x y < 0) = false by simp; omega]
          rfl
        go_wp2_with fail
        refine bodyPost_ret (results_tmp rfl _ _ _) rfl ⟨?_, hG⟩
        rw [HD.out]
        rfl
      · have HD : Hid (rise Nd.cmp xs = rise Nd.cmp (xs.drop (k + 1))) := by
          unfold Hid
          rw [HC.out, hd.out, show decide (Nd.cmp x y < 0) = true by simp; omega]
          rfl
        go_wp2_with fail
        exact ⟨⟨k + 1, by omega, by go_num, hG, HD⟩, by simp [intOf]; omega⟩
    · have HE := Lib.hid (rise_drop_end Nd.cmp xs k (by omega))
      go_wp2_with fail
      refine bodyPost_ret (results_tmp rfl _ _ _) rfl ⟨?_, hfr⟩
      rw [HC.out, HE.out]
      rfl

/-- At most 24 ranks from 0 to 4. -/
def ranksOk (l : List Int) : Bool := l.all (fun r => decide (0 ≤ r ∧ r ≤ 4)) && decide (l.length ≤ 24)
set_option maxRecDepth 20000 in
set_option maxHeartbeats 400000 in
theorem ranks_calls (xs : List Int) (w : World) (v : Value) (hx : SlO w 1 (rdO IntR) xs v) :
    Calls Tryz.prog 69 #[v] w (RetD w (.bool (ranksOk xs))) := by
  obtain ⟨A, c, rfl, hc, hm⟩ := hx.val
  go_enter Tryz.func69, Tryz.ntmps69
  go_wp2_with fail
  go_loopw [7] (fun i wr => ∃ k : Nat, k ≤ xs.length ∧ i = .int .i64 k ∧ Grew w wr ∧ Hid (xs.all (fun r => decide (0 ≤ r ∧ r ≤ 4)) = (xs.drop k).all (fun r => decide (0 ≤ r ∧ r ≤ 4)))) (fun i _ => xs.length - (intOf i).toNat)
  case atStart => exact ⟨0, Nat.zero_le _, rfl, grew_refl _, rfl⟩
  case round =>
    obtain ⟨k, hk, rfl, hfr, HC⟩ := hrel
    by_cases hlt : k < xs.length
    · obtain ⟨b, o, p0, rfl, hb, hp0, hpt⟩ := (hx.frm hfr.1 (stays_rd moves_int)).at1 k hlt
      obtain ⟨hpv, hr1, hr2⟩ := hpt
      simp only [List.cons.injEq, and_true] at hpv
      subst hpv
      have hd : Hid ((xs.drop k).all (fun r => decide (0 ≤ r ∧ r ≤ 4)) = (decide (0 ≤ xs[k] ∧ xs[k] ≤ 4) && (xs.drop (k + 1)).all (fun r => decide (0 ≤ r ∧ r ≤ 4)))) := by
        unfold Hid
        rw [List.drop_eq_getElem_cons hlt, List.all_cons]
      generalize xs[k] = x at *
      by_cases hx0 : x < 0
      · have HD : Hid (ranksOk xs = false) := by
          unfold Hid ranksOk
          rw [HC.out, hd.out, show decide (0 ≤ x ∧ x ≤ 4) = false by simp; omega]
          simp
        go_wp2_with fail
        refine bodyPost_ret (results_tmp rfl _ _ _) rfl ⟨?_, hfr⟩
        rw [HD.out]
        rfl
      · by_cases hx4 : 4 < x
        · have HD : Hid (ranksOk xs = false) := by
            unfold Hid ranksOk
            rw [HC.out, hd.out, show decide (0 ≤ x ∧ x ≤ 4) = false by simp; omega]
            simp
          go_wp2_with fail
          refine bodyPost_ret (results_tmp rfl _ _ _) rfl ⟨?_, hfr⟩
          rw [HD.out]
          rfl
        · have HD : Hid (xs.all (fun r => decide (0 ≤ r ∧ r ≤ 4)) = (xs.drop (k + 1)).all (fun r => decide (0 ≤ r ∧ r ≤ 4))) := by
            unfold Hid
            rw [HC.out, hd.out, show decide (0 ≤ x ∧ x ≤ 4) = true by simp; omega]
            simp
          go_wp2_with fail
          exact ⟨⟨k + 1, by omega, by go_num, hfr, HD⟩, by simp [intOf]; omega⟩
    · have HD : Hid (ranksOk xs = decide (xs.length ≤ 24)) := by
        unfold Hid ranksOk
        rw [HC.out, List.drop_eq_nil_of_le (by omega)]
        simp
      go_wp2_with fail
      refine bodyPost_ret (results_tmp rfl _ _ _) rfl ⟨?_, hfr⟩
      rw [HD.out]
      simp
      omega
end Go.Proofs.YtjpdmncafacmaaaGreatDoor
