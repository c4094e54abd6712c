/- Get, and the laws' read. -/
import Derived.Test.YtmdgoalekkkpnaaDoorReadT
import Derived.Test.YtmdgoalekkkpnaaDoorStrong
set_option linter.unusedVariables false
set_option linter.unusedSimpArgs false
namespace Go.Proofs.YtmdgoalekkkpnaaDoor
open Go.RowKit

/-- What Get returns. -/
def getT (l : List UInt8) : Ty × Int :=
  if 65536 < l.length then (.mk 0 [], 3) else
    match rdT (l.length + 1) l [] with
    | none => (.mk 0 [], 4)
    | some (t, r) => if r ≠ [] then (.mk 0 [], 4) else if t.large then (.mk 0 [], 12) else (t, 0)

/-- A result that is a type in new memory. -/
def NewTy (w : World) (t : Ty) (v : Value) (w' : World) : Prop := ∃ v0 v1, v = .agg #[v0, v1] ∧ TyR (fun b => w.heap.size ≤ b ∧ b < w'.heap.size) w' t [v0, v1]
theorem tyr_zero (S : Nat → Prop) (w : World) : TyR S w (.mk 0 []) [.int .i64 0, .slice none 0 0] := TyR_mk.2 ⟨_, rfl, by omega, by omega, none, 0, rfl, by simp, by simp, by simp⟩
theorem bs_inj_nil (r : List UInt8) : (bs r).toList = [] ↔ r = [] := by rw [bs_list]

set_option maxRecDepth 20000 in
theorem get_calls (l : List UInt8) (w : World) (hlen : l.length ≤ 140737488351232) :
    Calls Tryd.prog 18 #[.string (bs l)] w fun e w' => ∃ v, e = .returned (.tuple #[v, .int .i64 (getT l).2]) ∧ w.grownBy w' none ∧ NewTy w (getT l).1 v w' := by
  have hsz := bs_size l
  by_cases hlong : 65536 < l.length
  · have hg : Hid (getT l = (.mk 0 [], 3)) := by unfold Hid getT; rw [if_pos hlong]
    generalize bs l = s at *
    have hl2 : 65536 < s.size := by omega
    have hl3 : s.size ≤ 140737488351232 := by omega
    clear hsz
    go_enter Tryd.func18, Tryd.ntmps18
    go_wp2_with fail
    have hfin := TwoAt.new w (.int .i64 0) (.slice none 0 0) 24
    obtain ⟨f1, f2, _, _⟩ := hfin.cells
    refine bodyPost_ret (v := .tuple #[.agg #[.int .i64 0, .slice none 0 0], .int .i64 3]) (by simp [results, Tryd.results18, go_sem, f1, f2]) rfl ⟨_, by rw [hg.out], frm_alloc _ _, _, _, rfl, by rw [hg.out]; exact tyr_zero _ _⟩
  · have hl2 : (bs l).size ≤ 65536 := by omega
    go_enter Tryd.func18, Tryd.ntmps18
    go_wp2_with fail
    have hA : w.grownBy ((w.alloc (.cells #[.int .i64 0, .slice none 0 0] 24)).alloc (.cells #[.string (bs l), .bool false] 60)) none := frm_then_alloc (frm_alloc _ _) _
    have hrd : RdAt ((w.alloc (.cells #[.int .i64 0, .slice none 0 0] 24)).alloc (.cells #[.string (bs l), .bool false] 60)) (w.heap.size + 1) (bs l) false := by
      show TwoAt _ _ _ _ _
      simpa using TwoAt.new (w.alloc (.cells #[.int .i64 0, .slice none 0 0] 24)) (.string (bs l)) (.bool false) 60
    refine (read_calls (l.length + 1) l (by omega) (by omega) _ _ hrd).mono ?_
    rintro e w1 ⟨v0, v1, t, rfl, hg1, hty, hcase⟩
    obtain ⟨s1, A1, n1, c1, rfl, rfl⟩ := hty.vals
    have hres : TwoAt w1 w.heap.size (.int .i64 0) (.slice none 0 0) 24 := ((TwoAt.new w _ _ _).alloc _).move (hg1.block _ (by simp; omega) (by simp))
    obtain ⟨j1, j2, j3, j4⟩ := hres.cells
    have jl := hres.lt
    have hfr : w.grownBy w1 none := frm_new hA (by omega) hg1
    rcases hcase with ⟨r, hr1, hr2⟩ | ⟨hr1, s, hr2⟩
    · obtain ⟨q1, q2, q3, q4⟩ := hr2.cells
      have ql := hr2.lt
      by_cases hr : r = []
      · subst hr
        have hn : (bs []).toList = [] := by simp [bs_list]
        have hn2 : (bs []).toList.isEmpty = true := by simp [bs_list]
        have ht2 : TyO w1 t [.int .i64 s1, .slice A1 n1 c1] := hty.move (fun b hb => hb.2) (fun b hb => rfl)
        go_wp2_with fail
        have hf2 := frm_alloc w1 (.cells #[.int .i64 s1, .slice A1 n1 c1] 24)
        refine (large_calls t _ _ _ (stays_ty _ _ _ _ hf2 ht2)).mono ?_
        rintro e w2 ⟨rfl, hf3⟩
        have hf12 := frm_trans hf2 hf3
        have hbx := (TwoAt.new w1 (.int .i64 s1) (.slice A1 n1 c1) 24).move (frm_lt hf3 _ (by simp))
        have hres2 := hres.move (frm_lt hf12 _ hres.lt)
        obtain ⟨x1, x2, x3, x4⟩ := hbx.cells
        clear j1 j2 j3 j4 jl q1 q2 q3 q4 ql
        obtain ⟨j1, j2, j3, j4⟩ := hres2.cells
        have jl := hres2.lt
        have xl := hbx.lt
        cases hlg : t.large
        · have hg : Hid (getT l = (t, 0)) := by unfold Hid getT; rw [if_neg hlong, hr1]; simp [hlg]
          clear hlg
          go_wp2_with fail
          have hfin : TwoAt ((w2.setCell ⟨w.heap.size, 0, none⟩ (.int .i64 s1)).setCell ⟨w.heap.size, 1, none⟩ (.slice A1 n1 c1)) w.heap.size (.int .i64 s1) (.slice A1 n1 c1) 24 := (hres2.set0 _).set1 _
          obtain ⟨f1, f2, _, _⟩ := hfin.cells
          refine bodyPost_ret (v := .tuple #[.agg #[.int .i64 s1, .slice A1 n1 c1], .int .i64 0]) (by simp [results, Tryd.results18, go_sem, f1, f2]) rfl ⟨_, by rw [hg.out], frm_set_new (frm_set_new (frm_trans hfr hf12) (Nat.le_refl _) _ _) (Nat.le_refl _) _ _, _, _, rfl, ?_⟩
          rw [hg.out]
          have hbs := hf12.size
          have hlo : ∀ b, (((w.alloc (.cells #[.int .i64 0, .slice none 0 0] 24)).alloc (.cells #[.string (bs l), .bool false] 60)).heap.size ≤ b ∧ b < w1.heap.size) → w.heap.size + 2 ≤ b ∧ b < w1.heap.size := fun b hb => ⟨by simpa using hb.1, hb.2⟩
          exact hty.move (fun b hb => by have := hlo b hb; simp; omega) (fun b hb => by
            have := hlo b hb
            rw [Below.heap_setCell _ _ _ _ (by simp; omega), Below.heap_setCell _ _ _ _ (by simp; omega)]
            exact frm_lt hf12 _ hb.2)
        · have hg : Hid (getT l = (.mk 0 [], 12)) := by unfold Hid getT; rw [if_neg hlong, hr1]; simp [hlg]
          clear hlg
          go_wp2_with fail
          have hfin : TwoAt ((w2.setCell ⟨w.heap.size, 0, none⟩ (.int .i64 0)).setCell ⟨w.heap.size, 1, none⟩ (.slice none 0 0)) w.heap.size (.int .i64 0) (.slice none 0 0) 24 := (hres2.set0 _).set1 _
          obtain ⟨f1, f2, _, _⟩ := hfin.cells
          refine bodyPost_ret (v := .tuple #[.agg #[.int .i64 0, .slice none 0 0], .int .i64 12]) (by simp [results, Tryd.results18, go_sem, f1, f2]) rfl ⟨_, by rw [hg.out], ?_, _, _, rfl, by rw [hg.out]; exact tyr_zero _ _⟩
          exact frm_set_new (frm_set_new (frm_trans hfr hf12) (Nat.le_refl _) _ _) (Nat.le_refl _) _ _
      · have hg : Hid (getT l = (.mk 0 [], 4)) := by unfold Hid getT; rw [if_neg hlong, hr1]; simp [hr]
        have hn : ¬ (bs r).toList = [] := by simp [bs_list, hr]
        have hn2 : (bs r).toList.isEmpty = false := by simp [bs_list, hr]
        clear hr
        go_wp2_with fail
        have hfin : TwoAt (((w1.setCell ⟨w.heap.size, 0, none⟩ (.int .i64 0)).setCell ⟨w.heap.size, 1, none⟩ (.slice none 0 0)).alloc (.cells #[.int .i64 s1, .slice A1 n1 c1] 24)) w.heap.size (.int .i64 0) (.slice none 0 0) 24 := ((hres.set0 _).set1 _).alloc _
        obtain ⟨f1, f2, _, _⟩ := hfin.cells
        refine bodyPost_ret (v := .tuple #[.agg #[.int .i64 0, .slice none 0 0], .int .i64 4]) (by simp [results, Tryd.results18, go_sem, f1, f2]) rfl ⟨_, by rw [hg.out], ?_, _, _, rfl, by rw [hg.out]; exact tyr_zero _ _⟩
        exact frm_then_alloc (frm_set_new (frm_set_new hfr (Nat.le_refl _) _ _) (Nat.le_refl _) _ _) _
    · have hg : Hid (getT l = (.mk 0 [], 4)) := by unfold Hid getT; rw [if_neg hlong, hr1]
      obtain ⟨q1, q2, q3, q4⟩ := hr2.cells
      have ql := hr2.lt
      go_wp2_with fail
      have hfin : TwoAt (((w1.setCell ⟨w.heap.size, 0, none⟩ (.int .i64 0)).setCell ⟨w.heap.size, 1, none⟩ (.slice none 0 0)).alloc (.cells #[.int .i64 s1, .slice A1 n1 c1] 24)) w.heap.size (.int .i64 0) (.slice none 0 0) 24 := ((hres.set0 _).set1 _).alloc _
      obtain ⟨f1, f2, _, _⟩ := hfin.cells
      refine bodyPost_ret (v := .tuple #[.agg #[.int .i64 0, .slice none 0 0], .int .i64 4]) (by simp [results, Tryd.results18, go_sem, f1, f2]) rfl ⟨_, by rw [hg.out], ?_, _, _, rfl, by rw [hg.out]; exact tyr_zero _ _⟩
      exact frm_then_alloc (frm_set_new (frm_set_new hfr (Nat.le_refl _) _ _) (Nat.le_refl _) _ _) _

/-- The laws' read: Get's type, whatever the error is. -/
theorem lread_calls (l : List UInt8) (w : World) (hlen : l.length ≤ 140737488351232) :
    Calls Tryd.prog 49 #[.string (bs l)] w fun e w' => ∃ v, e = .returned v ∧ w.grownBy w' none ∧ NewTy w (getT l).1 v w' := by
  go_enter Tryd.func49, Tryd.ntmps49
  go_wp2_with fail
  have hf0 := frm_alloc w (.cells #[.int .i64 0, .slice none 0 0] 24)
  refine (get_calls l _ hlen).mono ?_
  rintro e w1 ⟨v, rfl, hf1, v0, v1, rfl, hty⟩
  have hfr := frm_trans hf0 hf1
  obtain ⟨s1, A1, n1, c1, rfl, rfl⟩ := hty.vals
  have hres := (TwoAt.new w (.int .i64 0) (.slice none 0 0) 24).move (frm_lt hf1 _ (by simp))
  obtain ⟨j1, j2, j3, j4⟩ := hres.cells
  have jl := hres.lt
  go_wp2_with fail
  have hfin : TwoAt (((w1.setCell ⟨w.heap.size, 0, none⟩ (.int .i64 s1)).setCell ⟨w.heap.size, 1, none⟩ (.slice A1 n1 c1)).alloc (.cells #[.int .i64 s1, .slice A1 n1 c1] 24)) w.heap.size (.int .i64 s1) (.slice A1 n1 c1) 24 := ((hres.set0 _).set1 _).alloc _
  obtain ⟨f1, f2, _, _⟩ := hfin.cells
  refine bodyPost_ret (v := .agg #[.int .i64 s1, .slice A1 n1 c1]) (by simp [results, Tryd.results49, go_sem, f1, f2]) rfl ⟨_, rfl, frm_then_alloc (frm_set_new (frm_set_new hfr (Nat.le_refl _) _ _) (Nat.le_refl _) _ _) _, _, _, rfl, ?_⟩
  have hlo : ∀ b, ((w.alloc (.cells #[.int .i64 0, .slice none 0 0] 24)).heap.size ≤ b ∧ b < w1.heap.size) → w.heap.size + 1 ≤ b ∧ b < w1.heap.size := fun b hb => ⟨by simpa using hb.1, hb.2⟩
  exact hty.move (fun b hb => by have := hlo b hb; simp; omega) (fun b hb => by
    have := hlo b hb
    rw [Below.heap_alloc _ _ _ (by simp; omega), Below.heap_setCell _ _ _ _ (by simp; omega), Below.heap_setCell _ _ _ _ (by simp; omega)])
end Go.Proofs.YtmdgoalekkkpnaaDoor
