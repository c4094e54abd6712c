/- The needs of an alternative, looked through; rising lists of alternatives. -/
import Derived.Test.YtjpdmncafacmaaaGreatDoorNeeds
set_option linter.unusedVariables false
set_option linter.unusedSimpArgs false
namespace Go.Proofs.YtjpdmncafacmaaaGreatDoor
open Go.RowKit

set_option maxRecDepth 20000 in
set_option maxHeartbeats 400000 in
theorem needAt_calls (xs : List Nd) (w : World) (v : Value) (hx : SlO w 2 (rdO NdR) xs v) (g g1 g2 b o m c s : Nat) (r n : Int) (hg : w.cell? ⟨g, 0, none⟩ = some (.slice (some ⟨b, o, none⟩) m c)) (hs : w.cell? ⟨g1, 0, none⟩ = some (.int .i64 s)) (hn : w.cell? ⟨g2, 0, none⟩ = some (.int .i64 n))
    (hr : w.cell? ⟨b, o + s, none⟩ = some (.int .i64 r)) (hsm : s < m) (hsm2 : m ≤ c) (hm : m ≤ 140737488351232) :
    Calls Tryz.prog 109 #[v, .func (.func 70) #[] #[.pointer (some ⟨g, 0, none⟩), .pointer (some ⟨g1, 0, none⟩), .pointer (some ⟨g2, 0, none⟩)]] w
      fun e w' => ∃ q : Int, -1 ≤ q ∧ e = .returned (.int .i64 q) ∧ Hid (xs.any (badNeed r n) = decide (0 ≤ q)) ∧ Grew w w' := by
  obtain ⟨A, c', rfl, hc, hm'⟩ := hx.val
  have HI := Lib.hid fun (x y : Int) (wr : World) (hf : Grew w wr) => need1_calls x y wr g g1 g2 b o m c s r n (frm_cell hf.1 hg) (frm_cell hf.1 hs) (frm_cell hf.1 hn) (frm_cell hf.1 hr) hsm hsm2 hm
  clear hg hs hn hr hsm hsm2 hm
  go_enter Tryz.func109, Tryz.ntmps109
  go_wp2_with fail
  go_loopw [8] (fun i wr => ∃ k : Nat, k ≤ xs.length ∧ i = .int .i64 k ∧ Grew w wr ∧ Hid (xs.any (badNeed r n) = (xs.drop k).any (badNeed r n))) (fun i _ => xs.length - (intOf i).toNat)
  case atStart => exact ⟨0, Nat.zero_le _, rfl, grew_refl _, rfl⟩
  case round =>
    obtain ⟨k, hk, rfl, hfr, HC⟩ := hrel
    by_cases hlt : k < xs.length
    · obtain ⟨b', o', p0, p1, rfl, hb, hp0, hp1, hpt⟩ := (hx.frm hfr.1 (stays_rd moves_nd)).at2 k hlt
      obtain ⟨hpv, _⟩ := hpt
      simp only [List.cons.injEq, and_true] at hpv
      obtain ⟨rfl, rfl⟩ := hpv
      have hd : Hid ((xs.drop k).any (badNeed r n) = (badNeed r n (xs[k].1, xs[k].2) || (xs.drop (k + 1)).any (badNeed r n))) := by
        unfold Hid
        rw [List.drop_eq_getElem_cons hlt, List.any_cons]
      have ih := Lib.hid (HI.out xs[k].1 xs[k].2 wr hfr)
      generalize xs[k].1 = x at *
      generalize xs[k].2 = y at *
      go_wp2_with fail
      refine ih.out.mono ?_
      rintro e w1 ⟨rfl, hf1⟩
      have hf := grew_trans hfr hf1
      cases hz : badNeed r n (x, y)
      · have HD : Hid (xs.any (badNeed r n) = (xs.drop (k + 1)).any (badNeed r n)) := by
          unfold Hid
          rw [HC.out, hd.out, hz, Bool.false_or]
        clear hz
        go_wp2_with fail
        exact ⟨⟨k + 1, by omega, by go_num, hf, HD⟩, by simp [intOf]; omega⟩
      · have HD : Hid (xs.any (badNeed r n) = true) := by
          unfold Hid
          rw [HC.out, hd.out, hz, Bool.true_or]
        clear hz
        go_wp2_with fail
        refine bodyPost_ret (results_tmp rfl _ _ _) rfl ⟨k, by omega, rfl, ?_, hf⟩
        unfold Hid
        rw [HD.out]
        simp
    · have HD : Hid (xs.any (badNeed r n) = false) := by
        unfold Hid
        rw [HC.out, List.drop_eq_nil_of_le (by omega)]
        rfl
      go_wp2_with fail
      refine bodyPost_ret (results_tmp rfl _ _ _) rfl ⟨-1, by omega, rfl, ?_, hfr⟩
      unfold Hid
      rw [HD.out]
      rfl

theorem hasNeed_calls (xs : List Nd) (w : World) (v : Value) (hx : SlO w 2 (rdO NdR) xs v) (g g1 g2 b o m c s : Nat) (r n : Int) (hg : w.cell? ⟨g, 0, none⟩ = some (.slice (some ⟨b, o, none⟩) m c)) (hs : w.cell? ⟨g1, 0, none⟩ = some (.int .i64 s)) (hn : w.cell? ⟨g2, 0, none⟩ = some (.int .i64 n))
    (hr : w.cell? ⟨b, o + s, none⟩ = some (.int .i64 r)) (hsm : s < m) (hsm2 : m ≤ c) (hm : m ≤ 140737488351232) :
    Calls Tryz.prog 71 #[v, .func (.func 70) #[] #[.pointer (some ⟨g, 0, none⟩), .pointer (some ⟨g1, 0, none⟩), .pointer (some ⟨g2, 0, none⟩)]] w (RetD w (.bool (xs.any (badNeed r n)))) := by
  have H := Lib.hid (needAt_calls xs w v hx g g1 g2 b o m c s r n hg hs hn hr hsm hsm2 hm)
  obtain ⟨A, c', rfl, hc, hm'⟩ := hx.val
  clear hx hg hs hn hr hsm hsm2 hm
  go_enter Tryz.func71, Tryz.ntmps71
  go_wp2_with fail
  refine H.out.mono ?_
  rintro e w1 ⟨q, hq, rfl, hi, hf⟩
  go_wp2_with fail
  refine bodyPost_ret (results_tmp rfl _ _ _) rfl ⟨?_, hf⟩
  rw [hi.out]
  rfl

set_option maxRecDepth 20000 in
set_option maxHeartbeats 400000 in
theorem risingL_calls (xs : List (List Nd)) (hs : ∀ x ∈ xs, ∀ z ∈ x, Nd.small z) (w : World) (v : Value) (hx : SlO w 1 (rdO AltR) xs v) :
    Calls Tryz.prog 74 #[v, .func (.func 75) #[] #[]] w (RetD w (.bool (rise (cmpL Nd.cmp) xs))) := by
  obtain ⟨A, c, rfl, hc, hm⟩ := hx.val
  have HX := Lib.hid hs
  clear hs
  go_enter Tryz.func74, Tryz.ntmps74
  go_wp2_with fail
  go_loopw [5] (fun i wr => ∃ k : Nat, k ≤ xs.length ∧ i = .int .i64 (k + 1) ∧ Grew w wr ∧ Hid (rise (cmpL Nd.cmp) xs = rise (cmpL Nd.cmp) (xs.drop k))) (fun i _ => xs.length + 1 - (intOf i).toNat)
  case atStart => exact ⟨0, Nat.zero_le _, rfl, grew_refl _, rfl⟩
  case round =>
    obtain ⟨k, hk, rfl, hfr, HC⟩ := hrel
    by_cases hlt : k + 1 < xs.length
    · obtain ⟨b, o, p0, rfl, hb, hp0, hpt⟩ := (hx.frm hfr.1 (stays_rd moves_alt)).at1 k (by omega)
      obtain ⟨b', o', q0, hbo, hb2, hq0, hqt⟩ := (hx.frm hfr.1 (stays_rd moves_alt)).at1 (k + 1) hlt
      simp only [Option.some.injEq, Addr.mk.injEq, and_true] at hbo
      obtain ⟨rfl, rfl⟩ := hbo
      have hd := Lib.hid (rise_drop (cmpL Nd.cmp) xs k hlt)
      have ih := Lib.hid fun (w' : World) (hf : Grew wr w' ∧ w'.cell? ⟨b, o + k, none⟩ = some p0 ∧ w'.cell? ⟨b, o + (k + 1), none⟩ = some q0) => lists_calls _ _ (HX.out _ (List.getElem_mem (show k < xs.length by omega))) (HX.out _ (List.getElem_mem hlt)) w' p0 q0 (rdO_frm moves_alt hf.1.1 hpt) (rdO_frm moves_alt hf.1.1 hqt)
      generalize xs[k] = x at *
      generalize xs[k + 1] = y at *
      have hk0 : ∀ w', w' = wr.drew → (Grew wr w' ∧ w'.cell? ⟨b, o + k, none⟩ = some p0 ∧ w'.cell? ⟨b, o + (k + 1), none⟩ = some q0) := by
        rintro w' rfl
        exact ⟨grew_drew _, hp0, hq0⟩
      have hks : ∀ w1 w2 : World, Grew w1 w2 → (Grew wr w1 ∧ w1.cell? ⟨b, o + k, none⟩ = some p0 ∧ w1.cell? ⟨b, o + (k + 1), none⟩ = some q0) → (Grew wr w2 ∧ w2.cell? ⟨b, o + k, none⟩ = some p0 ∧ w2.cell? ⟨b, o + (k + 1), none⟩ = some q0) := fun w1 w2 hf h => ⟨grew_trans h.1 hf, frm_cell hf.1 h.2.1, frm_cell hf.1 h.2.2⟩
      have HK := Lib.hid hks
      have HK0 := Lib.hid hk0
      clear hks hk0
      have e1 : (k : Int) + 1 - 1 = k := by omega
      have e2 : (0 : Int) ≤ (k : Int) := by omega
      have e3 : (k : Int) < xs.length := by omega
      have e3' : (k : Int) ≤ xs.length := by omega
      have e4 : (0 : Int) ≤ (k : Int) + 1 := by omega
      have e5 : (k : Int) + 1 < xs.length := by omega
      have e6 : ((k : Int) + 1).toNat = k + 1 := by omega
      have e8 : IntKind.i64.wrap (k : Int) = k := IntWalk.i64_in _ (by omega)
      have e7 : IntKind.i64.wrap ((k : Int) + 1 - 1) = k := by rw [e1, e8]
      go_wp2_with fail
      go_region_held3 (fun w' => Grew wr w' ∧ w'.cell? ⟨b, o + k, none⟩ = some p0 ∧ w'.cell? ⟨b, o + (k + 1), none⟩ = some q0) (first | exact HK0.out _ rfl | exact HK.out _ _ (by assumption) (by assumption)) ((go_at_call 75; refine (ih.out _ (by assumption)).mono ?_; rintro e w' ⟨rfl, hfw⟩))
      rename_i hHeld
      have hG := grew_trans hfr hHeld.1
      by_cases hz : 0 ≤ cmpL Nd.cmp x y
      · have HD : Hid (rise (cmpL Nd.cmp) xs = false) := by
          unfold Hid
          rw [HC.out, hd.out, show decide (cmpL Nd.cmp x y < 0) = false by simp; omega]
          rfl
        go_wp2_with fail
        refine bodyPost_ret (results_tmp rfl _ _ _) rfl ⟨?_, hG⟩
        rw [HD.out]
        rfl
      · have HD : Hid (rise (cmpL Nd.cmp) xs = rise (cmpL Nd.cmp) (xs.drop (k + 1))) := by
          unfold Hid
          rw [HC.out, hd.out, show decide (cmpL Nd.cmp x y < 0) = true by simp; omega]
          rfl
        go_wp2_with fail
        exact ⟨⟨k + 1, by omega, by go_num, hG, HD⟩, by simp [intOf]; omega⟩
    · have HE := Lib.hid (rise_drop_end (cmpL Nd.cmp) xs k (by omega))
      go_wp2_with fail
      refine bodyPost_ret (results_tmp rfl _ _ _) rfl ⟨?_, hfr⟩
      rw [HC.out, HE.out]
      rfl
end Go.Proofs.YtjpdmncafacmaaaGreatDoor
