/- InterCheck and InterSets. -/
import Derived.Test.YtmdgoalekkkpnaaDoorCheckSet
import Derived.Deep.RegionHeld3
set_option linter.unusedVariables false
set_option linter.unusedSimpArgs false
namespace Go.Proofs.YtmdgoalekkkpnaaDoor
open Go.RowKit

set_option maxRecDepth 100000 in
set_option maxHeartbeats 4000000 in
theorem lsets_calls (w : World) (s : Srt) (a0 : Value) (n : Int) (l : List Ty) (v : Value) (ha : SrtO w s [a0]) (hv : SetO w l [v])
    (htab : Lib.TabIs Tryd.prog w "internal/strconv.uint64pow10" .u64 Lib.pow10Tab) :
    Calls Tryd.prog 11 #[.agg #[a0], .int .i64 n, v] w (Ret w (.bool true)) := by
  have HT : Hid (Tab w.heap.size w) := Lib.tabBelow_of_tabIs htab
  clear htab
  obtain ⟨A, c, rfl, hc, hm⟩ := (SetO.sl hv).val
  obtain ⟨B, d, e, hcs⟩ := SrtR_len ha
  obtain rfl : a0 = .slice B d e := by simpa using hcs
  clear hcs
  have hf0 := frm_alloc w (.cells #[.slice B d e] 43)
  have hcell := (OneAt.new w (.slice B d e) 43).cell
  have HK0 : Hid (∀ w', w' = ((w.alloc (.cells #[.slice B d e] 43)).drew) → (w.grownBy w' none ∧ w'.cell? ⟨w.heap.size, 0, none⟩ = some (.slice B d e))) := by
    rintro w' rfl
    exact ⟨frm_trans hf0 (frm_drew _), hcell⟩
  have HK : Hid (∀ w1 w2 : World, w1.grownBy w2 none → (w.grownBy w1 none ∧ w1.cell? ⟨w.heap.size, 0, none⟩ = some (.slice B d e)) → (w.grownBy w2 none ∧ w2.cell? ⟨w.heap.size, 0, none⟩ = some (.slice B d e))) := fun w1 w2 hf h => ⟨frm_trans h.1 hf, frm_cell hf h.2⟩
  have HX : Hid (∀ w1 : World, (w.grownBy w1 none ∧ w1.cell? ⟨w.heap.size, 0, none⟩ = some (.slice B d e)) → SrtO w1 s [.slice B d e]) := fun w1 h => stays_srt _ _ _ _ h.1 ha
  have HY : Hid (∀ w1 : World, (w.grownBy w1 none ∧ w1.cell? ⟨w.heap.size, 0, none⟩ = some (.slice B d e)) → SetO w1 l [.slice A l.length c]) := fun w1 h => stays_set _ _ _ _ h.1 hv
  have HTT : Hid (∀ w1 : World, (w.grownBy w1 none ∧ w1.cell? ⟨w.heap.size, 0, none⟩ = some (.slice B d e)) → Lib.TabIs Tryd.prog w1 "internal/strconv.uint64pow10" .u64 Lib.pow10Tab) := fun w1 h => (HT.out.step (frm_below h.1 (Nat.le_refl _))).here
  clear ha hv
  go_enter Tryd.func11, Tryd.ntmps11
  go_wp2_with fail
  go_region_held3 (fun w' => (w.grownBy w' none ∧ w'.cell? ⟨w.heap.size, 0, none⟩ = some (.slice B d e))) (first | exact HK0.out _ rfl | exact HK.out _ _ (by assumption) (by assumption)) (first | (go_at_call 34; refine (checkSet_calls s n l _ _ _ (HX.out _ (by assumption)) (HY.out _ (by assumption))).mono ?_; rintro e w' ⟨rfl, hfw⟩) | (go_at_call 35; refine (rcheckSet_calls s n l _ _ _ (HX.out _ (by assumption)) (HY.out _ (by assumption))).mono ?_; rintro e w' ⟨rfl, hfw⟩) | (go_at_call 17; refine (alive_calls _ (HTT.out _ (by assumption))).mono ?_; rintro e w' ⟨rfl, hfw⟩))
  all_goals go_wp2_with fail
  all_goals refine bodyPost_ret (results_tmp rfl _ _ _) rfl ⟨rfl, ?_⟩
  all_goals exact (HK.out _ _ (frm_refl _ _) (by assumption)).1

set_option maxRecDepth 100000 in
set_option maxHeartbeats 4000000 in
theorem lcheck_calls (w : World) (s : Srt) (a0 : Value) (n : Int) (t : Ty) (v0 v1 : Value) (ha : SrtO w s [a0]) (ht : TyO w t [v0, v1])
    (htab : Lib.TabIs Tryd.prog w "internal/strconv.uint64pow10" .u64 Lib.pow10Tab) :
    Calls Tryd.prog 10 #[.agg #[a0], .int .i64 n, .agg #[v0, v1]] w (Ret w (.bool true)) := by
  have HT : Hid (Tab w.heap.size w) := Lib.tabBelow_of_tabIs htab
  clear htab
  obtain ⟨st, A, m, c, rfl, rfl⟩ := ht.vals
  obtain ⟨B, d, e, hcs⟩ := SrtR_len ha
  obtain rfl : a0 = .slice B d e := by simpa using hcs
  clear hcs
  have hf0 := frm_then_alloc (frm_alloc w (.cells #[.slice B d e] 43)) (.cells #[.int .i64 st, .slice A m c] 24)
  have hcell := ((OneAt.new w (.slice B d e) 43).alloc (.cells #[.int .i64 st, .slice A m c] 24)).cell
  obtain ⟨x0, x1, _, _⟩ := (TwoAt.new2 w (.cells #[.slice B d e] 43) (.int .i64 st) (.slice A m c) 24).cells
  have HK0 : Hid (∀ w', w' = (((w.alloc (.cells #[.slice B d e] 43)).alloc (.cells #[.int .i64 st, .slice A m c] 24)).drew) → (w.grownBy w' none ∧ w'.cell? ⟨w.heap.size, 0, none⟩ = some (.slice B d e) ∧ w'.cell? ⟨w.heap.size + 1, 0, none⟩ = some (.int .i64 st) ∧ w'.cell? ⟨w.heap.size + 1, 1, none⟩ = some (.slice A m c))) := by
    rintro w' rfl
    exact ⟨frm_trans hf0 (frm_drew _), hcell, x0, x1⟩
  have HK : Hid (∀ w1 w2 : World, w1.grownBy w2 none → (w.grownBy w1 none ∧ w1.cell? ⟨w.heap.size, 0, none⟩ = some (.slice B d e) ∧ w1.cell? ⟨w.heap.size + 1, 0, none⟩ = some (.int .i64 st) ∧ w1.cell? ⟨w.heap.size + 1, 1, none⟩ = some (.slice A m c)) → (w.grownBy w2 none ∧ w2.cell? ⟨w.heap.size, 0, none⟩ = some (.slice B d e) ∧ w2.cell? ⟨w.heap.size + 1, 0, none⟩ = some (.int .i64 st) ∧ w2.cell? ⟨w.heap.size + 1, 1, none⟩ = some (.slice A m c))) := fun w1 w2 hf h => ⟨frm_trans h.1 hf, frm_cell hf h.2.1, frm_cell hf h.2.2.1, frm_cell hf h.2.2.2⟩
  have HX : Hid (∀ w1 : World, (w.grownBy w1 none ∧ w1.cell? ⟨w.heap.size, 0, none⟩ = some (.slice B d e) ∧ w1.cell? ⟨w.heap.size + 1, 0, none⟩ = some (.int .i64 st) ∧ w1.cell? ⟨w.heap.size + 1, 1, none⟩ = some (.slice A m c)) → SrtO w1 s [.slice B d e]) := fun w1 h => stays_srt _ _ _ _ h.1 ha
  have HY : Hid (∀ w1 : World, (w.grownBy w1 none ∧ w1.cell? ⟨w.heap.size, 0, none⟩ = some (.slice B d e) ∧ w1.cell? ⟨w.heap.size + 1, 0, none⟩ = some (.int .i64 st) ∧ w1.cell? ⟨w.heap.size + 1, 1, none⟩ = some (.slice A m c)) → TyO w1 t [.int .i64 st, .slice A m c]) := fun w1 h => stays_ty _ _ _ _ h.1 ht
  have HTT : Hid (∀ w1 : World, (w.grownBy w1 none ∧ w1.cell? ⟨w.heap.size, 0, none⟩ = some (.slice B d e) ∧ w1.cell? ⟨w.heap.size + 1, 0, none⟩ = some (.int .i64 st) ∧ w1.cell? ⟨w.heap.size + 1, 1, none⟩ = some (.slice A m c)) → Lib.TabIs Tryd.prog w1 "internal/strconv.uint64pow10" .u64 Lib.pow10Tab) := fun w1 h => (HT.out.step (frm_below h.1 (Nat.le_refl _))).here
  clear ha ht
  go_enter Tryd.func10, Tryd.ntmps10
  go_wp2_with fail
  go_region_held3 (fun w' => (w.grownBy w' none ∧ w'.cell? ⟨w.heap.size, 0, none⟩ = some (.slice B d e) ∧ w'.cell? ⟨w.heap.size + 1, 0, none⟩ = some (.int .i64 st) ∧ w'.cell? ⟨w.heap.size + 1, 1, none⟩ = some (.slice A m c))) (first | exact HK0.out _ rfl | exact HK.out _ _ (by assumption) (by assumption)) (first | (go_at_call 30; refine (check_calls s n t _ _ _ _ (HX.out _ (by assumption)) (HY.out _ (by assumption))).mono ?_; rintro e w' ⟨rfl, hfw⟩) | (go_at_call 31; refine (rcheck_calls s n t _ _ _ _ (HX.out _ (by assumption)) (HY.out _ (by assumption))).mono ?_; rintro e w' ⟨rfl, hfw⟩) | (go_at_call 32; refine (size_calls t _ _ _ (HY.out _ (by assumption))).mono ?_; rintro e w' ⟨rfl, hfw⟩) | (go_at_call 33; refine (rsize_calls t _ _ _ (HY.out _ (by assumption))).mono ?_; rintro e w' ⟨rfl, hfw⟩) | (go_at_call 17; refine (alive_calls _ (HTT.out _ (by assumption))).mono ?_; rintro e w' ⟨rfl, hfw⟩))
  all_goals go_wp2_with fail
  all_goals refine bodyPost_ret (results_tmp rfl _ _ _) rfl ⟨rfl, ?_⟩
  all_goals exact (HK.out _ _ (frm_refl _ _) (by assumption)).1
end Go.Proofs.YtmdgoalekkkpnaaDoor
