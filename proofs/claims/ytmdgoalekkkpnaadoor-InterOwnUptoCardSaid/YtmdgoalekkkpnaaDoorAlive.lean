/- alive: the chapter's example. -/
import Derived.Test.YtmdgoalekkkpnaaDoorGet
import Derived.Test.YtmdgoalekkkpnaaDoorWrite
set_option linter.unusedVariables false
set_option linter.unusedSimpArgs false
namespace Go.Proofs.YtmdgoalekkkpnaaDoor
open Go.RowKit

def exc1 : Ty := .mk 0 [[.mk 1 [[.mk 0 [], .mk 1 []]]]]
theorem get_c1 : getT [91, 91, 48, 44, 49, 93, 49, 93, 48] = (exc1, 0) := by kernel_rfl
def exc2 : Ty := .mk 0 [[]]
theorem get_c2 : getT [91, 93, 48] = (exc2, 0) := by kernel_rfl
def exc3 : Ty := .mk 0 [[.mk 1 []]]
theorem get_c3 : getT [91, 49, 93, 48] = (exc3, 0) := by kernel_rfl
def exc4 : Ty := .mk 0 [[.mk 0 [], .mk 1 []]]
theorem get_c4 : getT [91, 48, 44, 49, 93, 48] = (exc4, 0) := by kernel_rfl
def exc5 : Ty := .mk 0 [[.mk 1 [[]]]]
theorem get_c5 : getT [91, 91, 93, 49, 93, 48] = (exc5, 0) := by kernel_rfl
def exc6 : Ty := .mk 0 [[.mk 0 []]]
theorem get_c6 : getT [91, 48, 93, 48] = (exc6, 0) := by kernel_rfl
theorem put_c1 : Ty.put exc1 = ([91, 91, 48, 44, 49, 93, 49, 93, 48], 0) := by kernel_rfl
theorem text_c1 : exc1.text.length ≤ 140737488355328 := by
  have h : exc1.text = [91, 91, 48, 44, 49, 93, 49, 93, 48] := by kernel_rfl
  rw [h]
  decide
theorem st_1 : Ty.stronger exc2 exc3 = true := by kernel_rfl
theorem st_2 : Ty.stronger exc3 exc4 = true := by kernel_rfl
theorem st_3 : Ty.stronger exc3 exc2 = false := by kernel_rfl
theorem st_4 : Ty.stronger exc1 exc5 = true := by kernel_rfl
theorem cmp_1 : Ty.compared exc6 exc3 = -1 := by kernel_rfl
theorem read_c1 (w : World) : Calls Tryd.prog 49 #[.string (bs [91, 91, 48, 44, 49, 93, 49, 93, 48])] w fun e w' => ∃ v0 v1, e = .returned (.agg #[v0, v1]) ∧ w.grownBy w' none ∧ TyO w' exc1 [v0, v1] := by
  refine (lread_calls [91, 91, 48, 44, 49, 93, 49, 93, 48] w (by decide)).mono ?_
  rintro e w' ⟨v, rfl, hf, v0, v1, rfl, ht⟩
  rw [get_c1] at ht
  exact ⟨v0, v1, rfl, hf, ht.move (fun b hb => hb.2) (fun b hb => rfl)⟩
theorem read_c2 (w : World) : Calls Tryd.prog 49 #[.string (bs [91, 93, 48])] w fun e w' => ∃ v0 v1, e = .returned (.agg #[v0, v1]) ∧ w.grownBy w' none ∧ TyO w' exc2 [v0, v1] := by
  refine (lread_calls [91, 93, 48] w (by decide)).mono ?_
  rintro e w' ⟨v, rfl, hf, v0, v1, rfl, ht⟩
  rw [get_c2] at ht
  exact ⟨v0, v1, rfl, hf, ht.move (fun b hb => hb.2) (fun b hb => rfl)⟩
theorem read_c3 (w : World) : Calls Tryd.prog 49 #[.string (bs [91, 49, 93, 48])] w fun e w' => ∃ v0 v1, e = .returned (.agg #[v0, v1]) ∧ w.grownBy w' none ∧ TyO w' exc3 [v0, v1] := by
  refine (lread_calls [91, 49, 93, 48] w (by decide)).mono ?_
  rintro e w' ⟨v, rfl, hf, v0, v1, rfl, ht⟩
  rw [get_c3] at ht
  exact ⟨v0, v1, rfl, hf, ht.move (fun b hb => hb.2) (fun b hb => rfl)⟩
theorem read_c4 (w : World) : Calls Tryd.prog 49 #[.string (bs [91, 48, 44, 49, 93, 48])] w fun e w' => ∃ v0 v1, e = .returned (.agg #[v0, v1]) ∧ w.grownBy w' none ∧ TyO w' exc4 [v0, v1] := by
  refine (lread_calls [91, 48, 44, 49, 93, 48] w (by decide)).mono ?_
  rintro e w' ⟨v, rfl, hf, v0, v1, rfl, ht⟩
  rw [get_c4] at ht
  exact ⟨v0, v1, rfl, hf, ht.move (fun b hb => hb.2) (fun b hb => rfl)⟩
theorem read_c5 (w : World) : Calls Tryd.prog 49 #[.string (bs [91, 91, 93, 49, 93, 48])] w fun e w' => ∃ v0 v1, e = .returned (.agg #[v0, v1]) ∧ w.grownBy w' none ∧ TyO w' exc5 [v0, v1] := by
  refine (lread_calls [91, 91, 93, 49, 93, 48] w (by decide)).mono ?_
  rintro e w' ⟨v, rfl, hf, v0, v1, rfl, ht⟩
  rw [get_c5] at ht
  exact ⟨v0, v1, rfl, hf, ht.move (fun b hb => hb.2) (fun b hb => rfl)⟩
theorem read_c6 (w : World) : Calls Tryd.prog 49 #[.string (bs [91, 48, 93, 48])] w fun e w' => ∃ v0 v1, e = .returned (.agg #[v0, v1]) ∧ w.grownBy w' none ∧ TyO w' exc6 [v0, v1] := by
  refine (lread_calls [91, 48, 93, 48] w (by decide)).mono ?_
  rintro e w' ⟨v, rfl, hf, v0, v1, rfl, ht⟩
  rw [get_c6] at ht
  exact ⟨v0, v1, rfl, hf, ht.move (fun b hb => hb.2) (fun b hb => rfl)⟩

set_option maxRecDepth 100000 in
set_option maxHeartbeats 1000000 in
theorem alive_calls (w : World) (htab : Lib.TabIs Tryd.prog w "internal/strconv.uint64pow10" .u64 Lib.pow10Tab) : Calls Tryd.prog 17 #[] w (Ret w (.bool true)) := by
  have HT : Hid (Tab w.heap.size w) := Lib.tabBelow_of_tabIs htab
  clear htab
  have hf0 := frm_refl w none
  go_enter Tryd.func17, Tryd.ntmps17
  go_wp2_with fail
  refine (read_c1 _).mono ?_
  rintro e w1 ⟨a1, b1, rfl, g1, t1⟩
  have hf1 := frm_trans hf0 g1
  obtain ⟨p1, A1, n1, q1, rfl, rfl⟩ := t1.vals
  go_wp2_with fail
  refine (put_calls exc1 _ _ _ t1 (HT.out.step (frm_below hf1 (Nat.le_refl _))).here text_c1).mono ?_
  rintro e w2 ⟨rfl, g2⟩
  have hf2 := frm_trans hf1 g2
  rw [put_c1]
  unfold bs
  go_wp2_with fail
  refine (read_c2 _).mono ?_
  rintro e w3 ⟨a3, b3, rfl, g3, t3⟩
  have hf3 := frm_trans hf2 g3
  obtain ⟨p3, A3, n3, q3, rfl, rfl⟩ := t3.vals
  go_wp2_with fail
  refine (read_c3 _).mono ?_
  rintro e w4 ⟨a4, b4, rfl, g4, t4⟩
  have hf4 := frm_trans hf3 g4
  obtain ⟨p4, A4, n4, q4, rfl, rfl⟩ := t4.vals
  replace t3 := stays_ty _ _ _ _ g4 t3
  go_wp2_with fail
  refine (stronger_calls exc2 exc3 _ _ _ _ _ t3 t4).mono ?_
  rintro e w5 ⟨rfl, g5⟩
  have hf5 := frm_trans hf4 g5
  rw [st_1]
  go_wp2_with fail
  refine (read_c3 _).mono ?_
  rintro e w6 ⟨a6, b6, rfl, g6, t6⟩
  have hf6 := frm_trans hf5 g6
  obtain ⟨p6, A6, n6, q6, rfl, rfl⟩ := t6.vals
  go_wp2_with fail
  refine (read_c4 _).mono ?_
  rintro e w7 ⟨a7, b7, rfl, g7, t7⟩
  have hf7 := frm_trans hf6 g7
  obtain ⟨p7, A7, n7, q7, rfl, rfl⟩ := t7.vals
  replace t6 := stays_ty _ _ _ _ g7 t6
  go_wp2_with fail
  refine (stronger_calls exc3 exc4 _ _ _ _ _ t6 t7).mono ?_
  rintro e w8 ⟨rfl, g8⟩
  have hf8 := frm_trans hf7 g8
  rw [st_2]
  go_wp2_with fail
  refine (read_c3 _).mono ?_
  rintro e w9 ⟨a9, b9, rfl, g9, t9⟩
  have hf9 := frm_trans hf8 g9
  obtain ⟨p9, A9, n9, q9, rfl, rfl⟩ := t9.vals
  go_wp2_with fail
  refine (read_c2 _).mono ?_
  rintro e w10 ⟨a10, b10, rfl, g10, t10⟩
  have hf10 := frm_trans hf9 g10
  obtain ⟨p10, A10, n10, q10, rfl, rfl⟩ := t10.vals
  replace t9 := stays_ty _ _ _ _ g10 t9
  go_wp2_with fail
  refine (stronger_calls exc3 exc2 _ _ _ _ _ t9 t10).mono ?_
  rintro e w11 ⟨rfl, g11⟩
  have hf11 := frm_trans hf10 g11
  rw [st_3]
  go_wp2_with fail
  refine (read_c1 _).mono ?_
  rintro e w12 ⟨a12, b12, rfl, g12, t12⟩
  have hf12 := frm_trans hf11 g12
  obtain ⟨p12, A12, n12, q12, rfl, rfl⟩ := t12.vals
  go_wp2_with fail
  refine (read_c5 _).mono ?_
  rintro e w13 ⟨a13, b13, rfl, g13, t13⟩
  have hf13 := frm_trans hf12 g13
  obtain ⟨p13, A13, n13, q13, rfl, rfl⟩ := t13.vals
  replace t12 := stays_ty _ _ _ _ g13 t12
  go_wp2_with fail
  refine (stronger_calls exc1 exc5 _ _ _ _ _ t12 t13).mono ?_
  rintro e w14 ⟨rfl, g14⟩
  have hf14 := frm_trans hf13 g14
  rw [st_4]
  go_wp2_with fail
  refine (read_c6 _).mono ?_
  rintro e w15 ⟨a15, b15, rfl, g15, t15⟩
  have hf15 := frm_trans hf14 g15
  obtain ⟨p15, A15, n15, q15, rfl, rfl⟩ := t15.vals
  go_wp2_with fail
  refine (read_c3 _).mono ?_
  rintro e w16 ⟨a16, b16, rfl, g16, t16⟩
  have hf16 := frm_trans hf15 g16
  obtain ⟨p16, A16, n16, q16, rfl, rfl⟩ := t16.vals
  replace t15 := stays_ty _ _ _ _ g16 t15
  go_wp2_with fail
  refine (compare_calls exc6 exc3 _ _ _ _ _ t15 t16).mono ?_
  rintro e w17 ⟨rfl, g17⟩
  have hf17 := frm_trans hf16 g17
  rw [cmp_1]
  go_wp2_with fail
  exact bodyPost_ret (results_tmp rfl _ _ _) rfl ⟨rfl, hf17⟩
end Go.Proofs.YtmdgoalekkkpnaaDoor
