/- InterCompare: the program and the reference compare alike. -/
import Derived.Test.YtmdgoalekkkpnaaDoorAlive
import Derived.Test.YtmdgoalekkkpnaaDoorSame
import Derived.Test.YtmdgoalekkkpnaaDoorOver
import Derived.Deep.RegionHeld3
set_option linter.unusedVariables false
set_option linter.unusedSimpArgs false
namespace Go.Proofs.YtmdgoalekkkpnaaDoor
open Go.RowKit

set_option maxRecDepth 100000 in
set_option maxHeartbeats 4000000 in
theorem lcompare_calls (w : World) (x : Ty) (x0 x1 : Value) (y : Ty) (y0 y1 : Value) (hx : TyO w x [x0, x1]) (hy : TyO w y [y0, y1])
    (htab : Lib.TabIs Tryd.prog w "internal/strconv.uint64pow10" .u64 Lib.pow10Tab) :
    Calls Tryd.prog 8 #[.agg #[x0, x1], .agg #[y0, y1]] w (Ret w (.bool true)) := by
  have HT : Hid (Tab w.heap.size w) := Lib.tabBelow_of_tabIs htab
  clear htab
  obtain ⟨xs, xA, xn, xc, rfl, rfl⟩ := hx.vals
  obtain ⟨ys, yA, yn, yc, rfl, rfl⟩ := hy.vals
  have hf0 : w.grownBy ((w.alloc (.cells #[.int .i64 xs, .slice xA xn xc] 24)).alloc (.cells #[.int .i64 ys, .slice yA yn yc] 24)) none := frm_then_alloc (frm_alloc _ _) _
  have xb : TwoAt ((w.alloc (.cells #[.int .i64 xs, .slice xA xn xc] 24)).alloc (.cells #[.int .i64 ys, .slice yA yn yc] 24)) (w.heap.size) (.int .i64 xs) (.slice xA xn xc) 24 := (TwoAt.new _ _ _ _).alloc _
  have yb : TwoAt ((w.alloc (.cells #[.int .i64 xs, .slice xA xn xc] 24)).alloc (.cells #[.int .i64 ys, .slice yA yn yc] 24)) (w.heap.size + 1) (.int .i64 ys) (.slice yA yn yc) 24 := TwoAt.new2 _ _ _ _ _
  obtain ⟨xc0, xc1, _, _⟩ := xb.cells
  obtain ⟨yc0, yc1, _, _⟩ := yb.cells
  have hk0 : ∀ w', w' = (((w.alloc (.cells #[.int .i64 xs, .slice xA xn xc] 24)).alloc (.cells #[.int .i64 ys, .slice yA yn yc] 24)).drew) → (w.grownBy w' none ∧ w'.cell? ⟨w.heap.size, 0, none⟩ = some (.int .i64 xs) ∧ w'.cell? ⟨w.heap.size, 1, none⟩ = some (.slice xA xn xc) ∧ w'.cell? ⟨w.heap.size + 1, 0, none⟩ = some (.int .i64 ys) ∧ w'.cell? ⟨w.heap.size + 1, 1, none⟩ = some (.slice yA yn yc)) := by
    rintro w' rfl
    exact ⟨frm_trans hf0 (frm_drew _), xc0, xc1, yc0, yc1⟩
  have hks : ∀ w1 w2 : World, w1.grownBy w2 none → (w.grownBy w1 none ∧ w1.cell? ⟨w.heap.size, 0, none⟩ = some (.int .i64 xs) ∧ w1.cell? ⟨w.heap.size, 1, none⟩ = some (.slice xA xn xc) ∧ w1.cell? ⟨w.heap.size + 1, 0, none⟩ = some (.int .i64 ys) ∧ w1.cell? ⟨w.heap.size + 1, 1, none⟩ = some (.slice yA yn yc)) → (w.grownBy w2 none ∧ w2.cell? ⟨w.heap.size, 0, none⟩ = some (.int .i64 xs) ∧ w2.cell? ⟨w.heap.size, 1, none⟩ = some (.slice xA xn xc) ∧ w2.cell? ⟨w.heap.size + 1, 0, none⟩ = some (.int .i64 ys) ∧ w2.cell? ⟨w.heap.size + 1, 1, none⟩ = some (.slice yA yn yc)) := fun w1 w2 hf h => ⟨frm_trans h.1 hf, frm_cell hf h.2.1, frm_cell hf h.2.2.1, frm_cell hf h.2.2.2.1, frm_cell hf h.2.2.2.2⟩
  have hfx : ∀ w1 : World, (w.grownBy w1 none ∧ w1.cell? ⟨w.heap.size, 0, none⟩ = some (.int .i64 xs) ∧ w1.cell? ⟨w.heap.size, 1, none⟩ = some (.slice xA xn xc) ∧ w1.cell? ⟨w.heap.size + 1, 0, none⟩ = some (.int .i64 ys) ∧ w1.cell? ⟨w.heap.size + 1, 1, none⟩ = some (.slice yA yn yc)) → TyO w1 x [.int .i64 xs, .slice xA xn xc] := fun w1 h => stays_ty _ _ _ _ h.1 hx
  have hfy : ∀ w1 : World, (w.grownBy w1 none ∧ w1.cell? ⟨w.heap.size, 0, none⟩ = some (.int .i64 xs) ∧ w1.cell? ⟨w.heap.size, 1, none⟩ = some (.slice xA xn xc) ∧ w1.cell? ⟨w.heap.size + 1, 0, none⟩ = some (.int .i64 ys) ∧ w1.cell? ⟨w.heap.size + 1, 1, none⟩ = some (.slice yA yn yc)) → TyO w1 y [.int .i64 ys, .slice yA yn yc] := fun w1 h => stays_ty _ _ _ _ h.1 hy
  have hft : ∀ w1 : World, (w.grownBy w1 none ∧ w1.cell? ⟨w.heap.size, 0, none⟩ = some (.int .i64 xs) ∧ w1.cell? ⟨w.heap.size, 1, none⟩ = some (.slice xA xn xc) ∧ w1.cell? ⟨w.heap.size + 1, 0, none⟩ = some (.int .i64 ys) ∧ w1.cell? ⟨w.heap.size + 1, 1, none⟩ = some (.slice yA yn yc)) → Lib.TabIs Tryd.prog w1 "internal/strconv.uint64pow10" .u64 Lib.pow10Tab := fun w1 h => (HT.out.step (frm_below h.1 (Nat.le_refl _))).here
  have HK := Lib.hid hks
  have HX := Lib.hid hfx
  have HY := Lib.hid hfy
  have HTT := Lib.hid hft
  have HK0 := Lib.hid hk0
  clear hks hfx hfy hft hk0
  go_enter Tryd.func8, Tryd.ntmps8
  go_wp2_with fail
  go_region_held3 (fun w' => w.grownBy w' none ∧ w'.cell? ⟨w.heap.size, 0, none⟩ = some (.int .i64 xs) ∧ w'.cell? ⟨w.heap.size, 1, none⟩ = some (.slice xA xn xc) ∧ w'.cell? ⟨w.heap.size + 1, 0, none⟩ = some (.int .i64 ys) ∧ w'.cell? ⟨w.heap.size + 1, 1, none⟩ = some (.slice yA yn yc)) (first | exact HK0.out _ rfl | exact HK.out _ _ (by assumption) (by assumption)) (first | (go_at_call 26; refine (same_calls _ _ _ _ _ _ _ (HX.out _ (by assumption)) (HY.out _ (by assumption))).mono ?_; rintro e w' ⟨rfl, hfw⟩) | (go_at_call 25; refine (rsame_calls _ _ _ _ _ _ _ (HX.out _ (by assumption)) (HY.out _ (by assumption))).mono ?_; rintro e w' ⟨rfl, hfw⟩) | (go_at_call 27; refine (compare_calls _ _ _ _ _ _ _ (HX.out _ (by assumption)) (HY.out _ (by assumption))).mono ?_; rintro e w' ⟨rfl, hfw⟩) | (go_at_call 28; refine (rcompare_calls _ _ _ _ _ _ _ (HX.out _ (by assumption)) (HY.out _ (by assumption))).mono ?_; rintro e w' ⟨rfl, hfw⟩) | (go_at_call 22; refine (stronger_calls _ _ _ _ _ _ _ (HX.out _ (by assumption)) (HY.out _ (by assumption))).mono ?_; rintro e w' ⟨rfl, hfw⟩) | (go_at_call 29; refine (rstronger_calls _ _ _ _ _ _ _ (HX.out _ (by assumption)) (HY.out _ (by assumption))).mono ?_; rintro e w' ⟨rfl, hfw⟩) | (go_at_call 17; refine (alive_calls _ (HTT.out _ (by assumption))).mono ?_; rintro e w' ⟨rfl, hfw⟩))
  all_goals go_wp2_with fail
  all_goals refine bodyPost_ret (results_tmp rfl _ _ _) rfl ⟨rfl, ?_⟩
  all_goals exact (HK.out _ _ (frm_refl _ _) (by assumption)).1
end Go.Proofs.YtmdgoalekkkpnaaDoor
