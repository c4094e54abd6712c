/- InterOrder: Compare is a total order. -/
import Derived.Test.YtmdgoalekkkpnaaDoorAlive
import Derived.Test.YtmdgoalekkkpnaaDoorSame
import Derived.Deep.RegionHeld3
set_option linter.unusedVariables false
set_option linter.unusedSimpArgs false
namespace Go.Proofs.YtmdgoalekkkpnaaDoor
open Go.RowKit

/-- What a transitive comparison says of three. -/
def T3 {α : Type} (f : α → α → Int) (a b c : α) : Prop := f a b ≤ 0 → f b c ≤ 0 → f a c ≤ 0 ∧ (f a c = 0 ↔ f a b = 0 ∧ f b c = 0)
theorem cmpL_anti {α : Type} {f : α → α → Int} : ∀ xs : List α, (∀ x ∈ xs, ∀ y, f y x = - f x y) → ∀ ys, cmpL f ys xs = - cmpL f xs ys
  | [], _, [] => by simp [cmpL]
  | [], _, _ :: _ => by simp [cmpL]
  | _ :: _, _, [] => by simp [cmpL]
  | x :: xs, h, y :: ys => by
    have h1 := h x (by simp) y
    have h2 := cmpL_anti xs (fun z hz => h z (by simp [hz])) ys
    simp only [cmpL, h1, h2]
    by_cases hz : f x y = 0
    · simp [hz]
    · simp [hz]
theorem cmpL_trans {α : Type} {f : α → α → Int} : ∀ xs : List α, (∀ x ∈ xs, ∀ y z, T3 f x y z) → ∀ ys zs, T3 (cmpL f) xs ys zs
  | [], _, [], [] => by simp [T3, cmpL]
  | [], _, [], _ :: _ => by simp [T3, cmpL]
  | [], _, _ :: _, [] => by simp [T3, cmpL]
  | [], _, _ :: _, _ :: _ => by simp [T3, cmpL]
  | _ :: _, _, [], _ => by simp [T3, cmpL]
  | x :: xs, h, y :: ys, [] => by
    unfold T3
    simp [cmpL]
  | x :: xs, h, y :: ys, z :: zs => by
    have h1 := h x (by simp) y z
    have h2 := cmpL_trans xs (fun q hq => h q (by simp [hq])) ys zs
    unfold T3 at h1 h2 ⊢
    simp only [cmpL]
    by_cases a1 : f x y = 0
    · by_cases a2 : f y z = 0
      · have a3 : f x z = 0 := ((h1 (by omega) (by omega)).2).2 ⟨a1, a2⟩
        simpa [a1, a2, a3] using h2
      · simp only [a1, a2, ne_eq, not_true_eq_false, not_false_eq_true, if_false, if_true]
        intro q1 q2
        have h3 := h1 (by omega) (by omega)
        have a3 : f x z ≠ 0 := fun e => a2 (h3.2.1 e).2
        simp only [a3, not_false_eq_true, if_true]
        exact ⟨h3.1, by simp [a3]⟩
    · simp only [a1, ne_eq, not_false_eq_true, if_true]
      intro q1 q2
      have q3 : f y z ≤ 0 := by
        by_cases a2 : f y z = 0
        · omega
        · simpa [a2] using q2
      have h3 := h1 (by omega) q3
      have a3 : f x z ≠ 0 := fun e => a1 (h3.2.1 e).1
      simp only [a3, not_false_eq_true, if_true]
      exact ⟨h3.1, by simp [a1]⟩
theorem Ty.cmp_anti : ∀ a b : Ty, Ty.cmp b a = - Ty.cmp a b := by
  intro a
  induction a using Ty.ind with
  | h s a ih =>
    rintro ⟨s', b⟩
    rw [Ty.cmp_mk, Ty.cmp_mk, cmpL_anti a (fun x hx y => cmpL_anti x (fun p hp q => ih x hx p hp q) y) b]
    by_cases h1 : s = s'
    · subst h1
      simp
    · have h2 : s' ≠ s := fun e => h1 e.symm
      simp only [h1, h2, ne_eq, not_false_eq_true, if_true]
      by_cases h3 : s < s'
      · rw [if_neg (by omega), if_pos h3]
        rfl
      · rw [if_pos (by omega), if_neg h3]
theorem Ty.cmp_trans : ∀ a b c : Ty, T3 Ty.cmp a b c := by
  intro a
  induction a using Ty.ind with
  | h s a ih =>
    rintro ⟨s2, b⟩ ⟨s3, c⟩
    have h := cmpL_trans a (fun x hx y z => cmpL_trans x (fun p hp q r => ih x hx p hp q r) y z) b c
    unfold T3 at h ⊢
    rw [Ty.cmp_mk, Ty.cmp_mk, Ty.cmp_mk]
    by_cases h1 : s = s2
    · subst h1
      by_cases h2 : s = s3
      · subst h2
        simpa using h
      · simp only [h2, ne_eq, not_true_eq_false, not_false_eq_true, if_false, if_true]
        intro q1 q2
        by_cases h3 : s < s3
        · simp [h3]
        · simp [h3] at q2
    · simp only [h1, ne_eq, not_false_eq_true, if_true]
      intro q1 q2
      have h3 : s < s2 := by
        by_cases h3 : s < s2
        · exact h3
        · simp [h3] at q1
      have h4 : s2 ≤ s3 := by
        by_cases h5 : s2 = s3
        · omega
        · simp only [h5, not_false_eq_true, if_true] at q2
          by_cases h6 : s2 < s3
          · omega
          · simp [h6] at q2
      rw [if_pos (by omega), if_pos (by omega)]
      simp [h3]
theorem Ty.cmp_range : ∀ a b : Ty, Ty.cmp a b = -1 ∨ Ty.cmp a b = 0 ∨ Ty.cmp a b = 1 := by
  have key : ∀ {α : Type} {f : α → α → Int} (xs : List α), (∀ x ∈ xs, ∀ y, f x y = -1 ∨ f x y = 0 ∨ f x y = 1) → ∀ ys, cmpL f xs ys = -1 ∨ cmpL f xs ys = 0 ∨ cmpL f xs ys = 1 := by
    intro α f xs
    induction xs with
    | nil => intro _ ys; cases ys <;> simp [cmpL]
    | cons x xs ih =>
      intro h ys
      cases ys with
      | nil => simp [cmpL]
      | cons y ys =>
        unfold cmpL
        split
        · exact h x (by simp) y
        · exact ih (fun z hz => h z (by simp [hz])) ys
  intro a
  induction a using Ty.ind with
  | h s a ih =>
    rintro ⟨s', b⟩
    rw [Ty.cmp_mk]
    split
    · split <;> simp
    · exact key a (fun x hx y => key x (fun p hp q => ih x hx p hp q) y) b
theorem Ty.cmp_self (a : Ty) : Ty.cmp a a = 0 := by
  have := Ty.cmp_anti a a
  omega

set_option maxRecDepth 100000 in
set_option maxHeartbeats 4000000 in
theorem lorder_calls (w : World) (x : Ty) (x0 x1 : Value) (y : Ty) (y0 y1 : Value) (z : Ty) (z0 z1 : Value) (hx : TyO w x [x0, x1]) (hy : TyO w y [y0, y1]) (hz : TyO w z [z0, z1])
    (htab : Lib.TabIs Tryd.prog w "internal/strconv.uint64pow10" .u64 Lib.pow10Tab) :
    Calls Tryd.prog 9 #[.agg #[x0, x1], .agg #[y0, y1], .agg #[z0, z1]] w (Ret w (.bool true)) := by
  have HT : Hid (Tab w.heap.size w) := Lib.tabBelow_of_tabIs htab
  clear htab
  obtain ⟨xs, xA, xn, xc, rfl, rfl⟩ := hx.vals
  obtain ⟨ys, yA, yn, yc, rfl, rfl⟩ := hy.vals
  obtain ⟨zs, zA, zn, zc, rfl, rfl⟩ := hz.vals
  have hf0 : w.grownBy (((w.alloc (.cells #[.int .i64 xs, .slice xA xn xc] 24)).alloc (.cells #[.int .i64 ys, .slice yA yn yc] 24)).alloc (.cells #[.int .i64 zs, .slice zA zn zc] 24)) none := frm_then_alloc (frm_then_alloc (frm_alloc _ _) _) _
  have xb : TwoAt (((w.alloc (.cells #[.int .i64 xs, .slice xA xn xc] 24)).alloc (.cells #[.int .i64 ys, .slice yA yn yc] 24)).alloc (.cells #[.int .i64 zs, .slice zA zn zc] 24)) (w.heap.size) (.int .i64 xs) (.slice xA xn xc) 24 := ((TwoAt.new _ _ _ _).alloc _).alloc _
  have yb : TwoAt (((w.alloc (.cells #[.int .i64 xs, .slice xA xn xc] 24)).alloc (.cells #[.int .i64 ys, .slice yA yn yc] 24)).alloc (.cells #[.int .i64 zs, .slice zA zn zc] 24)) (w.heap.size + 1) (.int .i64 ys) (.slice yA yn yc) 24 := (TwoAt.new2 _ _ _ _ _).alloc _
  have zb : TwoAt (((w.alloc (.cells #[.int .i64 xs, .slice xA xn xc] 24)).alloc (.cells #[.int .i64 ys, .slice yA yn yc] 24)).alloc (.cells #[.int .i64 zs, .slice zA zn zc] 24)) (w.heap.size + 2) (.int .i64 zs) (.slice zA zn zc) 24 := TwoAt.new3 _ _ _ _ _ _
  obtain ⟨xc0, xc1, _, _⟩ := xb.cells
  obtain ⟨yc0, yc1, _, _⟩ := yb.cells
  obtain ⟨zc0, zc1, _, _⟩ := zb.cells
  have HK : Hid (∀ w1 w2 : World, w1.grownBy w2 none → (w.grownBy w1 none ∧ w1.cell? ⟨w.heap.size, 0, none⟩ = some (.int .i64 xs) ∧ w1.cell? ⟨w.heap.size, 1, none⟩ = some (.slice xA xn xc) ∧ w1.cell? ⟨w.heap.size + 1, 0, none⟩ = some (.int .i64 ys) ∧ w1.cell? ⟨w.heap.size + 1, 1, none⟩ = some (.slice yA yn yc) ∧ w1.cell? ⟨w.heap.size + 2, 0, none⟩ = some (.int .i64 zs) ∧ w1.cell? ⟨w.heap.size + 2, 1, none⟩ = some (.slice zA zn zc)) → (w.grownBy w2 none ∧ w2.cell? ⟨w.heap.size, 0, none⟩ = some (.int .i64 xs) ∧ w2.cell? ⟨w.heap.size, 1, none⟩ = some (.slice xA xn xc) ∧ w2.cell? ⟨w.heap.size + 1, 0, none⟩ = some (.int .i64 ys) ∧ w2.cell? ⟨w.heap.size + 1, 1, none⟩ = some (.slice yA yn yc) ∧ w2.cell? ⟨w.heap.size + 2, 0, none⟩ = some (.int .i64 zs) ∧ w2.cell? ⟨w.heap.size + 2, 1, none⟩ = some (.slice zA zn zc))) := fun w1 w2 hf h => ⟨frm_trans h.1 hf, frm_cell hf h.2.1, frm_cell hf h.2.2.1, frm_cell hf h.2.2.2.1, frm_cell hf h.2.2.2.2.1, frm_cell hf h.2.2.2.2.2.1, frm_cell hf h.2.2.2.2.2.2⟩
  have HX : Hid (∀ w1 : World, (w.grownBy w1 none ∧ w1.cell? ⟨w.heap.size, 0, none⟩ = some (.int .i64 xs) ∧ w1.cell? ⟨w.heap.size, 1, none⟩ = some (.slice xA xn xc) ∧ w1.cell? ⟨w.heap.size + 1, 0, none⟩ = some (.int .i64 ys) ∧ w1.cell? ⟨w.heap.size + 1, 1, none⟩ = some (.slice yA yn yc) ∧ w1.cell? ⟨w.heap.size + 2, 0, none⟩ = some (.int .i64 zs) ∧ w1.cell? ⟨w.heap.size + 2, 1, none⟩ = some (.slice zA zn zc)) → TyO w1 x [.int .i64 xs, .slice xA xn xc]) := fun w1 h => stays_ty _ _ _ _ h.1 hx
  have HY : Hid (∀ w1 : World, (w.grownBy w1 none ∧ w1.cell? ⟨w.heap.size, 0, none⟩ = some (.int .i64 xs) ∧ w1.cell? ⟨w.heap.size, 1, none⟩ = some (.slice xA xn xc) ∧ w1.cell? ⟨w.heap.size + 1, 0, none⟩ = some (.int .i64 ys) ∧ w1.cell? ⟨w.heap.size + 1, 1, none⟩ = some (.slice yA yn yc) ∧ w1.cell? ⟨w.heap.size + 2, 0, none⟩ = some (.int .i64 zs) ∧ w1.cell? ⟨w.heap.size + 2, 1, none⟩ = some (.slice zA zn zc)) → TyO w1 y [.int .i64 ys, .slice yA yn yc]) := fun w1 h => stays_ty _ _ _ _ h.1 hy
  have HZ : Hid (∀ w1 : World, (w.grownBy w1 none ∧ w1.cell? ⟨w.heap.size, 0, none⟩ = some (.int .i64 xs) ∧ w1.cell? ⟨w.heap.size, 1, none⟩ = some (.slice xA xn xc) ∧ w1.cell? ⟨w.heap.size + 1, 0, none⟩ = some (.int .i64 ys) ∧ w1.cell? ⟨w.heap.size + 1, 1, none⟩ = some (.slice yA yn yc) ∧ w1.cell? ⟨w.heap.size + 2, 0, none⟩ = some (.int .i64 zs) ∧ w1.cell? ⟨w.heap.size + 2, 1, none⟩ = some (.slice zA zn zc)) → TyO w1 z [.int .i64 zs, .slice zA zn zc]) := fun w1 h => stays_ty _ _ _ _ h.1 hz
  go_enter Tryd.func9, Tryd.ntmps9
  go_wp2_with fail
  refine (rlarge_calls x _ _ _ (stays_ty _ _ _ _ hf0 hx)).mono ?_
  rintro e w1 ⟨rfl, g1⟩
  have hf1 := frm_trans hf0 g1
  clear xc0 xc1
  replace xb := xb.frm g1
  obtain ⟨xc0, xc1, _, _⟩ := xb.cells
  clear yc0 yc1
  replace yb := yb.frm g1
  obtain ⟨yc0, yc1, _, _⟩ := yb.cells
  clear zc0 zc1
  replace zb := zb.frm g1
  obtain ⟨zc0, zc1, _, _⟩ := zb.cells
  cases hl : x.large
  · have Lx := Lib.hid hl
    clear hl
    go_wp2_with fail
    refine (rlarge_calls y _ _ _ (stays_ty _ _ _ _ hf1 hy)).mono ?_
    rintro e w2 ⟨rfl, g2⟩
    have hf2 := frm_trans hf1 g2
    clear xc0 xc1
    replace xb := xb.frm g2
    obtain ⟨xc0, xc1, _, _⟩ := xb.cells
    clear yc0 yc1
    replace yb := yb.frm g2
    obtain ⟨yc0, yc1, _, _⟩ := yb.cells
    clear zc0 zc1
    replace zb := zb.frm g2
    obtain ⟨zc0, zc1, _, _⟩ := zb.cells
    cases hl : y.large
    · have Ly := Lib.hid hl
      clear hl
      go_wp2_with fail
      refine (rlarge_calls z _ _ _ (stays_ty _ _ _ _ hf2 hz)).mono ?_
      rintro e w3 ⟨rfl, g3⟩
      have hf3 := frm_trans hf2 g3
      clear xc0 xc1
      replace xb := xb.frm g3
      obtain ⟨xc0, xc1, _, _⟩ := xb.cells
      clear yc0 yc1
      replace yb := yb.frm g3
      obtain ⟨yc0, yc1, _, _⟩ := yb.cells
      clear zc0 zc1
      replace zb := zb.frm g3
      obtain ⟨zc0, zc1, _, _⟩ := zb.cells
      cases hl : z.large
      · have Lz := Lib.hid hl
        clear hl
        go_wp2_with fail
        have HK0 : Hid (∀ w', w' = w3.drew → (w.grownBy w' none ∧ w'.cell? ⟨w.heap.size, 0, none⟩ = some (.int .i64 xs) ∧ w'.cell? ⟨w.heap.size, 1, none⟩ = some (.slice xA xn xc) ∧ w'.cell? ⟨w.heap.size + 1, 0, none⟩ = some (.int .i64 ys) ∧ w'.cell? ⟨w.heap.size + 1, 1, none⟩ = some (.slice yA yn yc) ∧ w'.cell? ⟨w.heap.size + 2, 0, none⟩ = some (.int .i64 zs) ∧ w'.cell? ⟨w.heap.size + 2, 1, none⟩ = some (.slice zA zn zc))) := by
          rintro w' rfl
          exact ⟨frm_trans hf3 (frm_drew _), xc0, xc1, yc0, yc1, zc0, zc1⟩
        go_region_held3 (fun w' => w.grownBy w' none ∧ w'.cell? ⟨w.heap.size, 0, none⟩ = some (.int .i64 xs) ∧ w'.cell? ⟨w.heap.size, 1, none⟩ = some (.slice xA xn xc) ∧ w'.cell? ⟨w.heap.size + 1, 0, none⟩ = some (.int .i64 ys) ∧ w'.cell? ⟨w.heap.size + 1, 1, none⟩ = some (.slice yA yn yc) ∧ w'.cell? ⟨w.heap.size + 2, 0, none⟩ = some (.int .i64 zs) ∧ w'.cell? ⟨w.heap.size + 2, 1, none⟩ = some (.slice zA zn zc)) (first | exact HK0.out _ rfl | exact HK.out _ _ (by assumption) (by assumption)) (first | (go_at_call 27; ((with_reducible refine (compare_calls x y _ _ _ _ _ (HX.out _ (by assumption)) (HY.out _ (by assumption))).mono ?_); rintro e w' ⟨rfl, hfw⟩)) | (go_at_call 27; ((with_reducible refine (compare_calls y z _ _ _ _ _ (HY.out _ (by assumption)) (HZ.out _ (by assumption))).mono ?_); rintro e w' ⟨rfl, hfw⟩)) | (go_at_call 27; ((with_reducible refine (compare_calls x z _ _ _ _ _ (HX.out _ (by assumption)) (HZ.out _ (by assumption))).mono ?_); rintro e w' ⟨rfl, hfw⟩)))
        have LX : Hid (Ty.compared x y = Ty.cmp x y ∧ Ty.compared y z = Ty.cmp y z ∧ Ty.compared x z = Ty.cmp x z ∧ Ty.compared x x = 0 ∧ Ty.compared y x = - Ty.cmp x y ∧ Ty.same x y = (Ty.cmp x y == 0)) := by
          unfold Hid Ty.compared Ty.same
          rw [Lx.out, Ly.out, Lz.out]
          simp [Ty.cmp_self, Ty.cmp_anti x y]
        have RX := Lib.hid (Ty.cmp_range x y)
        have RY := Lib.hid (Ty.cmp_range y z)
        have RZ := Lib.hid (Ty.cmp_range x z)
        have T := Lib.hid (Ty.cmp_trans x y z)
        obtain ⟨e1, e2, e3, e4, e5, e6⟩ := LX.out
        rw [e1, e2, e3]
        have E4 := Lib.hid e4
        have E5 := Lib.hid e5
        have E6 := Lib.hid e6
        clear e1 e2 e3 e4 e5 e6 LX
        unfold T3 at T
        generalize Ty.cmp x y = X at *
        generalize Ty.cmp y z = Y at *
        generalize Ty.cmp x z = Z at *
        have hS := HK.out _ _ (frm_refl _ none) (by assumption)
        obtain ⟨_, b1, b2, b3, b4, b5, b6⟩ := id hS
        go_wp2_with fail
        refine (compare_calls x x _ _ _ _ _ (HX.out _ (by assumption)) (HX.out _ (by assumption))).mono ?_
        rintro e v1 ⟨rfl, g1⟩
        have hS1 := HK.out _ _ g1 (by assumption)
        rw [E4.out]
        clear b1 b2 b3 b4 b5 b6
        obtain ⟨_, b1, b2, b3, b4, b5, b6⟩ := id hS1
        go_wp2_with fail
        refine (compare_calls y x _ _ _ _ _ (HY.out v1 hS1) (HX.out v1 hS1)).mono ?_
        rintro e v2 ⟨rfl, g2⟩
        have hS2 := HK.out _ _ g2 hS1
        rw [E5.out]
        clear b1 b2 b3 b4 b5 b6
        obtain ⟨_, b1, b2, b3, b4, b5, b6⟩ := id hS2
        have hX := RX.out
        clear RX
        rcases hX with hX | hX | hX
        · subst hX
          go_wp2_with fail
          refine (same_calls x y _ _ _ _ _ (HX.out v2 hS2) (HY.out v2 hS2)).mono ?_
          rintro e v3 ⟨rfl, g3⟩
          have hS3 := HK.out _ _ g3 hS2
          have hal := Lib.hid (alive_calls v3 (HT.out.step (frm_below hS3.1 (Nat.le_refl _))).here)
          rw [show Ty.same x y = false from E6.out.trans rfl]
          have hY := RY.out
          clear RY
          rcases hY with hY | hY | hY
          · subst hY
            have hZ : Z = -1 := by
              have t := T.out (by omega) (by omega)
              have r := RZ.out
              simp at t
              omega
            subst hZ
            go_wp2_with fail
            refine hal.out.mono ?_
            rintro e v4 ⟨rfl, g4⟩
            go_wp2_with fail
            exact bodyPost_ret (results_tmp rfl _ _ _) rfl ⟨rfl, frm_trans hS3.1 g4⟩
          · subst hY
            have hZ : Z = -1 := by
              have t := T.out (by omega) (by omega)
              have r := RZ.out
              simp at t
              omega
            subst hZ
            go_wp2_with fail
            refine hal.out.mono ?_
            rintro e v4 ⟨rfl, g4⟩
            go_wp2_with fail
            exact bodyPost_ret (results_tmp rfl _ _ _) rfl ⟨rfl, frm_trans hS3.1 g4⟩
          · subst hY
            go_wp2_with fail
            refine hal.out.mono ?_
            rintro e v4 ⟨rfl, g4⟩
            go_wp2_with fail
            exact bodyPost_ret (results_tmp rfl _ _ _) rfl ⟨rfl, frm_trans hS3.1 g4⟩
        · subst hX
          go_wp2_with fail
          refine (same_calls x y _ _ _ _ _ (HX.out v2 hS2) (HY.out v2 hS2)).mono ?_
          rintro e v3 ⟨rfl, g3⟩
          have hS3 := HK.out _ _ g3 hS2
          have hal := Lib.hid (alive_calls v3 (HT.out.step (frm_below hS3.1 (Nat.le_refl _))).here)
          rw [show Ty.same x y = true from E6.out.trans rfl]
          have hY := RY.out
          clear RY
          rcases hY with hY | hY | hY
          · subst hY
            have hZ : Z = -1 := by
              have t := T.out (by omega) (by omega)
              have r := RZ.out
              simp at t
              omega
            subst hZ
            go_wp2_with fail
            refine hal.out.mono ?_
            rintro e v4 ⟨rfl, g4⟩
            go_wp2_with fail
            exact bodyPost_ret (results_tmp rfl _ _ _) rfl ⟨rfl, frm_trans hS3.1 g4⟩
          · subst hY
            have hZ : Z = 0 := by
              have t := T.out (by omega) (by omega)
              have r := RZ.out
              simp at t
              omega
            subst hZ
            go_wp2_with fail
            refine hal.out.mono ?_
            rintro e v4 ⟨rfl, g4⟩
            go_wp2_with fail
            exact bodyPost_ret (results_tmp rfl _ _ _) rfl ⟨rfl, frm_trans hS3.1 g4⟩
          · subst hY
            go_wp2_with fail
            refine hal.out.mono ?_
            rintro e v4 ⟨rfl, g4⟩
            go_wp2_with fail
            exact bodyPost_ret (results_tmp rfl _ _ _) rfl ⟨rfl, frm_trans hS3.1 g4⟩
        · subst hX
          go_wp2_with fail
          refine (same_calls x y _ _ _ _ _ (HX.out v2 hS2) (HY.out v2 hS2)).mono ?_
          rintro e v3 ⟨rfl, g3⟩
          have hS3 := HK.out _ _ g3 hS2
          have hal := Lib.hid (alive_calls v3 (HT.out.step (frm_below hS3.1 (Nat.le_refl _))).here)
          rw [show Ty.same x y = false from E6.out.trans rfl]
          go_wp2_with fail
          refine hal.out.mono ?_
          rintro e v4 ⟨rfl, g4⟩
          go_wp2_with fail
          exact bodyPost_ret (results_tmp rfl _ _ _) rfl ⟨rfl, frm_trans hS3.1 g4⟩
      · clear hl
        go_wp2_with fail
        refine (alive_calls _ (HT.out.step (frm_below hf3 (Nat.le_refl _))).here).mono ?_
        rintro e w4 ⟨rfl, g4⟩
        have hf4 := frm_trans hf3 g4
        go_wp2_with fail
        exact bodyPost_ret (results_tmp rfl _ _ _) rfl ⟨rfl, hf4⟩
    · clear hl
      go_wp2_with fail
      refine (alive_calls _ (HT.out.step (frm_below hf2 (Nat.le_refl _))).here).mono ?_
      rintro e w3 ⟨rfl, g3⟩
      have hf3 := frm_trans hf2 g3
      go_wp2_with fail
      exact bodyPost_ret (results_tmp rfl _ _ _) rfl ⟨rfl, hf3⟩
  · clear hl
    go_wp2_with fail
    refine (alive_calls _ (HT.out.step (frm_below hf1 (Nat.le_refl _))).here).mono ?_
    rintro e w2 ⟨rfl, g2⟩
    have hf2 := frm_trans hf1 g2
    go_wp2_with fail
    exact bodyPost_ret (results_tmp rfl _ _ _) rfl ⟨rfl, hf2⟩
end Go.Proofs.YtmdgoalekkkpnaaDoor
