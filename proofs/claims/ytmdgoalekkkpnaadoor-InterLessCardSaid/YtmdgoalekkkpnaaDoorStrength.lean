/- InterStrength: strength is reflexive and transitive, and the law that says so. -/
import Derived.Test.YtmdgoalekkkpnaaDoorAlive
import Derived.Test.YtmdgoalekkkpnaaDoorNodes
set_option linter.unusedVariables false
set_option linter.unusedSimpArgs false
namespace Go.Proofs.YtmdgoalekkkpnaaDoor
open Go.RowKit

theorem Ty.strong_refl : ∀ a : Ty, Ty.strong a a = true := by
  intro a
  induction a using Ty.ind with
  | h s a ih => exact Ty.strong_iff.2 ⟨rfl, rfl, fun i h h' x hx => ⟨x, hx, ih _ (List.getElem_mem h) x hx⟩⟩
theorem Ty.strong_trans2 : ∀ a b c : Ty, (Ty.strong a b = true → Ty.strong b c = true → Ty.strong a c = true) ∧ (Ty.strong c b = true → Ty.strong b a = true → Ty.strong c a = true) := by
  intro a
  induction a using Ty.ind with
  | h s a ih =>
    rintro ⟨s2, b⟩ ⟨s3, c⟩
    constructor
    · intro h1 h2
      obtain ⟨e1, l1, r1⟩ := Ty.strong_iff.1 h1
      obtain ⟨e2, l2, r2⟩ := Ty.strong_iff.1 h2
      refine Ty.strong_iff.2 ⟨e1.trans e2, l1.trans l2, fun i h h' x hx => ?_⟩
      obtain ⟨y, hy, hs⟩ := r1 i h (by omega) x hx
      obtain ⟨z, hz, hs2⟩ := r2 i (by omega) h' y hy
      exact ⟨z, hz, (ih _ (List.getElem_mem h) x hx y z).2 hs2 hs⟩
    · intro h1 h2
      obtain ⟨e1, l1, r1⟩ := Ty.strong_iff.1 h1
      obtain ⟨e2, l2, r2⟩ := Ty.strong_iff.1 h2
      refine Ty.strong_iff.2 ⟨e1.trans e2, l1.trans l2, fun i h h' x hx => ?_⟩
      obtain ⟨y, hy, hs⟩ := r1 i h (by omega) x hx
      obtain ⟨z, hz, hs2⟩ := r2 i (by omega) h' y hy
      exact ⟨z, hz, (ih _ (List.getElem_mem h') z hz y x).1 hs2 hs⟩
theorem Ty.strong_trans {a b c : Ty} (h1 : Ty.strong a b = true) (h2 : Ty.strong b c = true) : Ty.strong a c = true := (Ty.strong_trans2 a b c).1 h1 h2
theorem Ty.stronger_refl {a : Ty} (h : a.large = false) : Ty.stronger a a = true := by simp [Ty.stronger, h, Ty.strong_refl]
theorem Ty.stronger_trans {a b c : Ty} (h1 : Ty.stronger a b = true) (h2 : Ty.stronger b c = true) : Ty.stronger a c = true := by
  simp only [Ty.stronger, Bool.and_eq_true] at h1 h2 ⊢
  exact ⟨⟨h1.1.1, h2.1.2⟩, Ty.strong_trans h1.2 h2.2⟩

set_option maxRecDepth 100000 in
set_option maxHeartbeats 1000000 in
theorem strength_calls (w : World) (x : Ty) (x0 x1 : Value) (y : Ty) (y0 y1 : Value) (z : Ty) (z0 z1 : Value) (hx : TyO w x [x0, x1]) (hy : TyO w y [y0, y1]) (hz : TyO w z [z0, z1])
    (htab : Lib.TabIs Tryd.prog w "internal/strconv.uint64pow10" .u64 Lib.pow10Tab) :
    Calls Tryd.prog 5 #[.agg #[x0, x1], .agg #[y0, y1], .agg #[z0, z1]] w (Ret w (.bool true)) := by
  have HT : Hid (Tab w.heap.size w) := Lib.tabBelow_of_tabIs htab
  clear htab
  obtain ⟨xs, xA, xn, xc, rfl, rfl⟩ := hx.vals
  obtain ⟨ys, yA, yn, yc, rfl, rfl⟩ := hy.vals
  obtain ⟨zs, zA, zn, zc, rfl, rfl⟩ := hz.vals
  have hf0 : w.grownBy (((w.alloc (.cells #[.int .i64 xs, .slice xA xn xc] 24)).alloc (.cells #[.int .i64 ys, .slice yA yn yc] 24)).alloc (.cells #[.int .i64 zs, .slice zA zn zc] 24)) none := frm_then_alloc (frm_then_alloc (frm_alloc _ _) _) _
  have xb : TwoAt (((w.alloc (.cells #[.int .i64 xs, .slice xA xn xc] 24)).alloc (.cells #[.int .i64 ys, .slice yA yn yc] 24)).alloc (.cells #[.int .i64 zs, .slice zA zn zc] 24)) (w.heap.size) (.int .i64 xs) (.slice xA xn xc) 24 := ((TwoAt.new _ _ _ _).alloc _).alloc _
  have yb : TwoAt (((w.alloc (.cells #[.int .i64 xs, .slice xA xn xc] 24)).alloc (.cells #[.int .i64 ys, .slice yA yn yc] 24)).alloc (.cells #[.int .i64 zs, .slice zA zn zc] 24)) (w.heap.size + 1) (.int .i64 ys) (.slice yA yn yc) 24 := (TwoAt.new2 _ _ _ _ _).alloc _
  have zb : TwoAt (((w.alloc (.cells #[.int .i64 xs, .slice xA xn xc] 24)).alloc (.cells #[.int .i64 ys, .slice yA yn yc] 24)).alloc (.cells #[.int .i64 zs, .slice zA zn zc] 24)) (w.heap.size + 2) (.int .i64 zs) (.slice zA zn zc) 24 := TwoAt.new3 _ _ _ _ _ _
  obtain ⟨xc0, xc1, _, _⟩ := xb.cells
  obtain ⟨yc0, yc1, _, _⟩ := yb.cells
  obtain ⟨zc0, zc1, _, _⟩ := zb.cells
  go_enter Tryd.func5, Tryd.ntmps5
  go_wp2_with fail
  refine (rlarge_calls x _ _ _ (stays_ty _ _ _ _ hf0 hx)).mono ?_
  rintro e w1 ⟨rfl, g1⟩
  have hf1 := frm_trans hf0 g1
  clear xc0 xc1
  replace xb := xb.frm g1
  obtain ⟨xc0, xc1, _, _⟩ := xb.cells
  clear yc0 yc1
  replace yb := yb.frm g1
  obtain ⟨yc0, yc1, _, _⟩ := yb.cells
  clear zc0 zc1
  replace zb := zb.frm g1
  obtain ⟨zc0, zc1, _, _⟩ := zb.cells
  cases hl : x.large
  · have Lx := Lib.hid hl
    clear hl
    go_wp2_with fail
    refine (rlarge_calls y _ _ _ (stays_ty _ _ _ _ hf1 hy)).mono ?_
    rintro e w2 ⟨rfl, g2⟩
    have hf2 := frm_trans hf1 g2
    clear xc0 xc1
    replace xb := xb.frm g2
    obtain ⟨xc0, xc1, _, _⟩ := xb.cells
    clear yc0 yc1
    replace yb := yb.frm g2
    obtain ⟨yc0, yc1, _, _⟩ := yb.cells
    clear zc0 zc1
    replace zb := zb.frm g2
    obtain ⟨zc0, zc1, _, _⟩ := zb.cells
    cases hl : y.large
    · have Ly := Lib.hid hl
      clear hl
      go_wp2_with fail
      refine (rlarge_calls z _ _ _ (stays_ty _ _ _ _ hf2 hz)).mono ?_
      rintro e w3 ⟨rfl, g3⟩
      have hf3 := frm_trans hf2 g3
      clear xc0 xc1
      replace xb := xb.frm g3
      obtain ⟨xc0, xc1, _, _⟩ := xb.cells
      clear yc0 yc1
      replace yb := yb.frm g3
      obtain ⟨yc0, yc1, _, _⟩ := yb.cells
      clear zc0 zc1
      replace zb := zb.frm g3
      obtain ⟨zc0, zc1, _, _⟩ := zb.cells
      cases hl : z.large
      · have Lz := Lib.hid hl
        clear hl
        go_wp2_with fail
        refine (stronger_calls x x _ _ _ _ _ (stays_ty _ _ _ _ hf3 hx) (stays_ty _ _ _ _ hf3 hx)).mono ?_
        rintro e w4 ⟨rfl, g4⟩
        have hf4 := frm_trans hf3 g4
        rw [Ty.stronger_refl Lx.out]
        clear xc0 xc1
        replace xb := xb.frm g4
        obtain ⟨xc0, xc1, _, _⟩ := xb.cells
        clear yc0 yc1
        replace yb := yb.frm g4
        obtain ⟨yc0, yc1, _, _⟩ := yb.cells
        clear zc0 zc1
        replace zb := zb.frm g4
        obtain ⟨zc0, zc1, _, _⟩ := zb.cells
        go_wp2_with fail
        refine (stronger_calls x y _ _ _ _ _ (stays_ty _ _ _ _ hf4 hx) (stays_ty _ _ _ _ hf4 hy)).mono ?_
        rintro e w5 ⟨rfl, g5⟩
        have hf5 := frm_trans hf4 g5
        clear xc0 xc1
        replace xb := xb.frm g5
        obtain ⟨xc0, xc1, _, _⟩ := xb.cells
        clear yc0 yc1
        replace yb := yb.frm g5
        obtain ⟨yc0, yc1, _, _⟩ := yb.cells
        clear zc0 zc1
        replace zb := zb.frm g5
        obtain ⟨zc0, zc1, _, _⟩ := zb.cells
        cases hs : Ty.stronger x y
        · clear hs
          go_wp2_with fail
          refine (alive_calls _ (HT.out.step (frm_below hf5 (Nat.le_refl _))).here).mono ?_
          rintro e w6 ⟨rfl, g6⟩
          have hf6 := frm_trans hf5 g6
          go_wp2_with fail
          exact bodyPost_ret (results_tmp rfl _ _ _) rfl ⟨rfl, hf6⟩
        · have H1 := Lib.hid hs
          clear hs
          go_wp2_with fail
          refine (stronger_calls y z _ _ _ _ _ (stays_ty _ _ _ _ hf5 hy) (stays_ty _ _ _ _ hf5 hz)).mono ?_
          rintro e w6 ⟨rfl, g6⟩
          have hf6 := frm_trans hf5 g6
          clear xc0 xc1
          replace xb := xb.frm g6
          obtain ⟨xc0, xc1, _, _⟩ := xb.cells
          clear yc0 yc1
          replace yb := yb.frm g6
          obtain ⟨yc0, yc1, _, _⟩ := yb.cells
          clear zc0 zc1
          replace zb := zb.frm g6
          obtain ⟨zc0, zc1, _, _⟩ := zb.cells
          cases hs2 : Ty.stronger y z
          · clear hs2
            go_wp2_with fail
            refine (alive_calls _ (HT.out.step (frm_below hf6 (Nat.le_refl _))).here).mono ?_
            rintro e w7 ⟨rfl, g7⟩
            have hf7 := frm_trans hf6 g7
            go_wp2_with fail
            exact bodyPost_ret (results_tmp rfl _ _ _) rfl ⟨rfl, hf7⟩
          · have H2 := Lib.hid hs2
            clear hs2
            go_wp2_with fail
            refine (stronger_calls x z _ _ _ _ _ (stays_ty _ _ _ _ hf6 hx) (stays_ty _ _ _ _ hf6 hz)).mono ?_
            rintro e w7 ⟨rfl, g7⟩
            have hf7 := frm_trans hf6 g7
            rw [Ty.stronger_trans H1.out H2.out]
            clear xc0 xc1
            replace xb := xb.frm g7
            obtain ⟨xc0, xc1, _, _⟩ := xb.cells
            clear yc0 yc1
            replace yb := yb.frm g7
            obtain ⟨yc0, yc1, _, _⟩ := yb.cells
            clear zc0 zc1
            replace zb := zb.frm g7
            obtain ⟨zc0, zc1, _, _⟩ := zb.cells
            go_wp2_with fail
            refine (alive_calls _ (HT.out.step (frm_below hf7 (Nat.le_refl _))).here).mono ?_
            rintro e w8 ⟨rfl, g8⟩
            have hf8 := frm_trans hf7 g8
            go_wp2_with fail
            exact bodyPost_ret (results_tmp rfl _ _ _) rfl ⟨rfl, hf8⟩
      · go_wp2_with fail
        refine (alive_calls _ (HT.out.step (frm_below hf3 (Nat.le_refl _))).here).mono ?_
        rintro e w4 ⟨rfl, g4⟩
        have hf4 := frm_trans hf3 g4
        go_wp2_with fail
        exact bodyPost_ret (results_tmp rfl _ _ _) rfl ⟨rfl, hf4⟩
    · go_wp2_with fail
      refine (alive_calls _ (HT.out.step (frm_below hf2 (Nat.le_refl _))).here).mono ?_
      rintro e w3 ⟨rfl, g3⟩
      have hf3 := frm_trans hf2 g3
      go_wp2_with fail
      exact bodyPost_ret (results_tmp rfl _ _ _) rfl ⟨rfl, hf3⟩
  · go_wp2_with fail
    refine (alive_calls _ (HT.out.step (frm_below hf1 (Nat.le_refl _))).here).mono ?_
    rintro e w2 ⟨rfl, g2⟩
    have hf2 := frm_trans hf1 g2
    go_wp2_with fail
    exact bodyPost_ret (results_tmp rfl _ _ _) rfl ⟨rfl, hf2⟩
end Go.Proofs.YtmdgoalekkkpnaaDoor
