/- The reference's Get, and InterGet. -/
import Derived.Test.YtmdgoalekkkpnaaDoorParseW
import Derived.Test.YtmdgoalekkkpnaaDoorGet
import Derived.Test.YtmdgoalekkkpnaaDoorAlive
import Derived.Test.YtmdgoalekkkpnaaDoorSame
import Derived.Test.YtmdgoalekkkpnaaDoorOrder
import Derived.StillTailTactics
set_option linter.unusedVariables false
set_option linter.unusedSimpArgs false
namespace Go.Proofs.YtmdgoalekkkpnaaDoor
open Go.RowKit

set_option maxRecDepth 20000 in
theorem rget_calls (l : List UInt8) (w : World) (hlen : l.length ≤ 140737488351232) :
    Calls Tryd.prog 19 #[.string (bs l)] w fun e w' => ∃ v, e = .returned (.tuple #[v, .int .i64 (getT l).2]) ∧ w.grownBy w' none ∧ NewTy w (getT l).1 v w' := by
  have hsz := bs_size l
  by_cases hlong : 65536 < l.length
  · have hg : Hid (getT l = (.mk 0 [], 3)) := by unfold Hid getT; rw [if_pos hlong]
    generalize bs l = s at *
    have hl2 : 65536 < s.size := by omega
    have hl3 : s.size ≤ 140737488351232 := by omega
    clear hsz
    go_enter Tryd.func19, Tryd.ntmps19
    go_wp2_with fail
    have hfin := TwoAt.new w (.int .i64 0) (.slice none 0 0) 24
    obtain ⟨f1, f2, _, _⟩ := hfin.cells
    refine bodyPost_ret (v := .tuple #[.agg #[.int .i64 0, .slice none 0 0], .int .i64 3]) (by simp [results, Tryd.results19, go_sem, f1, f2]) rfl ⟨_, by rw [hg.out], frm_alloc _ _, _, _, rfl, by rw [hg.out]; exact tyr_zero _ _⟩
  · have hl2 : (bs l).size ≤ 65536 := by omega
    have HSZ := Lib.hid hsz
    obtain ⟨S, hS⟩ : ∃ S, S = bs l := ⟨_, rfl⟩
    rw [← hS] at hl2 HSZ ⊢
    have HS := Lib.hid hS
    clear hS hsz
    go_enter Tryd.func19, Tryd.ntmps19
    go_wp2_with fail
    have hA : w.grownBy (w.alloc (.cells #[.int .i64 0, .slice none 0 0] 24)) none := frm_alloc _ _
    refine (parse_calls (l.length + 1) l 0 (by omega) (by omega) (by omega) _ S 0 HS.out rfl).mono ?_
    rintro e w1 ⟨v0, v1, t, q, ok, rfl, hf1, hty, hcase⟩
    obtain ⟨s1, A1, n1, c1, rfl, rfl⟩ := hty.vals
    have hres : TwoAt w1 w.heap.size (.int .i64 0) (.slice none 0 0) 24 := (TwoAt.new w _ _ _).move (frm_lt hf1 _ (by simp))
    have hfr : w.grownBy w1 none := frm_trans hA hf1
    have hresA := hres.alloc (.cells #[.int .i64 s1, .slice A1 n1 c1] 24)
    have hfrA := frm_then_alloc hfr (.cells #[.int .i64 s1, .slice A1 n1 c1] 24)
    obtain ⟨j1, j2, j3, j4⟩ := hres.cells
    have jl := hres.lt
    have hfail : TwoAt (((w1.setCell ⟨w.heap.size, 0, none⟩ (.int .i64 0)).setCell ⟨w.heap.size, 1, none⟩ (.slice none 0 0)).alloc (.cells #[.int .i64 s1, .slice A1 n1 c1] 24)) w.heap.size (.int .i64 0) (.slice none 0 0) 24 := ((hres.set0 _).set1 _).alloc _
    have hfailf : w.grownBy (((w1.setCell ⟨w.heap.size, 0, none⟩ (.int .i64 0)).setCell ⟨w.heap.size, 1, none⟩ (.slice none 0 0)).alloc (.cells #[.int .i64 s1, .slice A1 n1 c1] 24)) none := frm_then_alloc (frm_set_new (frm_set_new hfr (Nat.le_refl _) _ _) (Nat.le_refl _) _ _) _
    rcases hcase with ⟨rfl, k, rfl, hk1, hk2, hr1⟩ | ⟨rfl, hr1⟩
    · rw [List.drop_zero] at hr1
      by_cases hr : k = l.length
      · have hd : l.drop k = [] := List.drop_eq_nil_of_le (by omega)
        have hkS : ((k : Int) != (S.size : Int)) = false := by
          have := HSZ.out
          simp
          omega
        have ht2 : TyO w1 t [.int .i64 s1, .slice A1 n1 c1] := hty.move (fun b hb => hb.2) (fun b hb => rfl)
        have HR : Hid (rdT (l.length + 1) l [] = some (t, [])) := by
          unfold Hid
          rw [hr1, hd]
        have hkh := Lib.hid hr
        clear hr hr1 hd hfail hfailf
        have HTY := Lib.hid hty
        go_wp2_with fail
        have hf2 := frm_alloc w1 (.cells #[.int .i64 s1, .slice A1 n1 c1] 24)
        refine (rlarge_calls t _ _ _ (stays_ty _ _ _ _ hf2 ht2)).mono ?_
        rintro e w2 ⟨rfl, hf3⟩
        have hf12 := frm_trans hf2 hf3
        have hres2 := hresA.frm hf3
        have hfr2 := frm_trans hfr hf12
        have hbx : TwoAt w2 w1.heap.size (.int .i64 s1) (.slice A1 n1 c1) 24 := (TwoAt.new w1 _ _ _).frm hf3
        clear j1 j2 j3 j4 jl hres hresA
        obtain ⟨j1, j2, j3, j4⟩ := hres2.cells
        have jl := hres2.lt
        obtain ⟨q1, q2, q3, q4⟩ := hbx.cells
        have ql := hbx.lt
        by_cases hlg : t.large = true
        · have hg : Hid (getT l = (.mk 0 [], 12)) := by unfold Hid getT; rw [if_neg hlong, HR.out]; simp [hlg]
          go_wp2_with fail
          have hfin : TwoAt ((w2.setCell ⟨w.heap.size, 0, none⟩ (.int .i64 0)).setCell ⟨w.heap.size, 1, none⟩ (.slice none 0 0)) w.heap.size (.int .i64 0) (.slice none 0 0) 24 := (hres2.set0 _).set1 _
          obtain ⟨f1, f2, _, _⟩ := hfin.cells
          exact bodyPost_ret (v := .tuple #[.agg #[.int .i64 0, .slice none 0 0], .int .i64 12]) (by simp [results, Tryd.results19, go_sem, f1, f2]) rfl ⟨_, by rw [hg.out], frm_set_new (frm_set_new hfr2 (Nat.le_refl _) _ _) (Nat.le_refl _) _ _, _, _, rfl, by rw [hg.out]; exact tyr_zero _ _⟩
        · have hlg2 : t.large = false := by simpa using hlg
          have hg : Hid (getT l = (t, 0)) := by unfold Hid getT; rw [if_neg hlong, HR.out]; simp [hlg]
          clear hlg
          go_wp2_with fail
          have hfin : TwoAt ((w2.setCell ⟨w.heap.size, 0, none⟩ (.int .i64 s1)).setCell ⟨w.heap.size, 1, none⟩ (.slice A1 n1 c1)) w.heap.size (.int .i64 s1) (.slice A1 n1 c1) 24 := (hres2.set0 _).set1 _
          obtain ⟨f1, f2, _, _⟩ := hfin.cells
          refine bodyPost_ret (v := .tuple #[.agg #[.int .i64 s1, .slice A1 n1 c1], .int .i64 0]) (by simp [results, Tryd.results19, go_sem, f1, f2]) rfl ⟨_, by rw [hg.out], frm_set_new (frm_set_new hfr2 (Nat.le_refl _) _ _) (Nat.le_refl _) _ _, _, _, rfl, ?_⟩
          rw [hg.out]
          have hbs := hf12.size
          have hlo : ∀ b, ((w.alloc (.cells #[.int .i64 0, .slice none 0 0] 24)).heap.size ≤ b ∧ b < w1.heap.size) → w.heap.size + 1 ≤ b ∧ b < w1.heap.size := fun b hb => ⟨by simpa using hb.1, hb.2⟩
          exact HTY.out.move (fun b hb => by have := hlo b hb; simp; omega) (fun b hb => by
            have := hlo b hb
            rw [Below.heap_setCell _ _ _ _ (by simp; omega), Below.heap_setCell _ _ _ _ (by simp; omega)]
            exact frm_lt hf12 _ hb.2)
      · have hd : l.drop k ≠ [] := by
          intro e
          have := List.drop_eq_nil_iff.1 e
          omega
        have hg : Hid (getT l = (.mk 0 [], 4)) := by unfold Hid getT; rw [if_neg hlong, hr1]; simp [hd]
        have hkS : ((k : Int) != (S.size : Int)) = true := by
          have := HSZ.out
          rw [bne_iff_ne]
          intro e
          omega
        clear hr hr1 hd
        go_wp2_with fail
        obtain ⟨f1, f2, _, _⟩ := hfail.cells
        exact bodyPost_ret (v := .tuple #[.agg #[.int .i64 0, .slice none 0 0], .int .i64 4]) (by simp [results, Tryd.results19, go_sem, f1, f2]) rfl ⟨_, by rw [hg.out], hfailf, _, _, rfl, by rw [hg.out]; exact tyr_zero _ _⟩
    · rw [List.drop_zero] at hr1
      have hg : Hid (getT l = (.mk 0 [], 4)) := by unfold Hid getT; rw [if_neg hlong, hr1]
      clear hr1
      go_wp2_with fail
      obtain ⟨f1, f2, _, _⟩ := hfail.cells
      exact bodyPost_ret (v := .tuple #[.agg #[.int .i64 0, .slice none 0 0], .int .i64 4]) (by simp [results, Tryd.results19, go_sem, f1, f2]) rfl ⟨_, by rw [hg.out], hfailf, _, _, rfl, by rw [hg.out]; exact tyr_zero _ _⟩

theorem same_self (t : Ty) (h : t.large = false) : Ty.same t t = true := by
  simp [Ty.same, h, Ty.cmp_self]

set_option maxRecDepth 20000 in
theorem is_calls (t : Ty) (w : World) (c : Int) (x0 x1 y0 y1 : Value) (hx : TyO w t [x0, x1]) (hy : TyO w t [y0, y1]) (h : (c = 0 ∧ t.large = false) ∨ (c ≠ 0 ∧ t = .mk 0 [])) :
    Calls Tryd.prog 20 #[.agg #[x0, x1], .int .i64 c, .agg #[y0, y1], .int .i64 c] w (Ret w (.bool true)) := by
  obtain ⟨xs, xA, xn, xc, rfl, rfl⟩ := hx.vals
  obtain ⟨ys, yA, yn, yc, rfl, rfl⟩ := hy.vals
  have hf0 : w.grownBy ((w.alloc (.cells #[.int .i64 xs, .slice xA xn xc] 24)).alloc (.cells #[.int .i64 ys, .slice yA yn yc] 24)) none := frm_then_alloc (frm_alloc _ _) _
  have xb : TwoAt ((w.alloc (.cells #[.int .i64 xs, .slice xA xn xc] 24)).alloc (.cells #[.int .i64 ys, .slice yA yn yc] 24)) (w.heap.size) (.int .i64 xs) (.slice xA xn xc) 24 := (TwoAt.new _ _ _ _).alloc _
  have yb : TwoAt ((w.alloc (.cells #[.int .i64 xs, .slice xA xn xc] 24)).alloc (.cells #[.int .i64 ys, .slice yA yn yc] 24)) (w.heap.size + 1) (.int .i64 ys) (.slice yA yn yc) 24 := TwoAt.new2 _ _ _ _ _
  obtain ⟨xc0, xc1, _, _⟩ := xb.cells
  obtain ⟨yc0, yc1, _, _⟩ := yb.cells
  rcases h with ⟨rfl, hl⟩ | ⟨hc, rfl⟩
  · have HX := Lib.hid hx
    have HY := Lib.hid hy
    have HL := Lib.hid hl
    clear hx hy hl
    go_enter Tryd.func20, Tryd.ntmps20
    go_wp2_with fail
    refine (rsame_calls _ _ _ _ _ _ _ (stays_ty _ _ _ _ hf0 HX.out) (stays_ty _ _ _ _ hf0 HY.out)).mono ?_
    rintro e w1 ⟨rfl, hf1⟩
    rw [same_self t HL.out]
    go_wp2_with fail
    exact bodyPost_ret (results_tmp rfl _ _ _) rfl ⟨rfl, frm_trans hf0 hf1⟩
  · obtain ⟨z, hz, _, _, A, c9, rfl, _, _, _⟩ := TyR_mk.1 hx
    simp only [List.length_nil, List.cons.injEq, Value.int.injEq, Value.slice.injEq, true_and, and_true] at hz
    obtain ⟨rfl, rfl, rfl, rfl⟩ := hz
    have hc1 : ((c : Int) == 0) = false := by simpa using hc
    have hc2 : ((c : Int) != 0) = true := by simpa using hc
    clear hx hy
    go_enter Tryd.func20, Tryd.ntmps20
    go_wp2_with fail
    exact bodyPost_ret (results_tmp rfl _ _ _) rfl ⟨rfl, hf0⟩

theorem getT_ok (l : List UInt8) : ((getT l).2 = 0 ∧ (getT l).1.large = false) ∨ ((getT l).2 ≠ 0 ∧ (getT l).1 = .mk 0 []) := by
  unfold getT
  split
  · exact .inr ⟨by decide, rfl⟩
  · split
    · exact .inr ⟨by decide, rfl⟩
    · split
      · exact .inr ⟨by decide, rfl⟩
      · split
        · exact .inr ⟨by decide, rfl⟩
        · rename_i h
          exact .inl ⟨rfl, by simpa using h⟩

set_option maxRecDepth 20000 in
theorem lget_calls (S : ByteArray) (w : World) (hlen : S.size ≤ 140737488351232) (htab : Lib.TabIs Tryd.prog w "internal/strconv.uint64pow10" .u64 Lib.pow10Tab) :
    Calls Tryd.prog 4 #[.string S] w (Ret w (.bool true)) := by
  have HT : Hid (Tab w.heap.size w) := Lib.tabBelow_of_tabIs htab
  obtain ⟨l, rfl⟩ : ∃ l, S = bs l := ⟨_, bs_of S⟩
  have hl : l.length ≤ 140737488351232 := by rw [← bs_size l]; exact hlen
  have HO := Lib.hid (getT_ok l)
  clear htab hlen
  go_enter Tryd.func4, Tryd.ntmps4
  go_wp2_with fail
  refine (get_calls l _ hl).mono ?_
  rintro e w1 ⟨v, rfl, hf1, v0, v1, rfl, hty⟩
  obtain ⟨s1, A1, n1, c1, rfl, h1⟩ := hty.vals
  have ht1 : TyO w1 (getT l).1 [.int .i64 s1, v1] := hty.move (fun b hb => hb.2) (fun b hb => rfl)
  clear hty
  subst h1
  go_wp2_with fail
  have hf2 := frm_alloc w1 (.cells #[.int .i64 s1, .slice A1 n1 c1] 24)
  refine (rget_calls l _ hl).mono ?_
  rintro e w2 ⟨v, rfl, hf3, v2, v3, rfl, hty⟩
  obtain ⟨s2, A2, n2, c2, rfl, h1⟩ := hty.vals
  have ht2 : TyO w2 (getT l).1 [.int .i64 s2, v3] := hty.move (fun b hb => hb.2) (fun b hb => rfl)
  clear hty
  subst h1
  have hf12 := frm_trans hf2 hf3
  have hb1 : TwoAt w2 w1.heap.size (.int .i64 s1) (.slice A1 n1 c1) 24 := (TwoAt.new w1 _ _ _).frm hf3
  obtain ⟨j1, j2, _, _⟩ := hb1.cells
  have jl := hb1.lt
  have HF : Hid (w.grownBy (w2.alloc (.cells #[.int .i64 s2, .slice A2 n2 c2] 24)) none ∧ w1.grownBy (w2.alloc (.cells #[.int .i64 s2, .slice A2 n2 c2] 24)) none ∧ w2.grownBy (w2.alloc (.cells #[.int .i64 s2, .slice A2 n2 c2] 24)) none) := ⟨frm_trans hf1 (frm_then_alloc hf12 _), frm_then_alloc hf12 _, frm_alloc _ _⟩
  go_wp2_with fail
  refine (is_calls (getT l).1 _ _ _ _ _ _ (stays_ty _ _ _ _ HF.out.2.1 ht1) (stays_ty _ _ _ _ HF.out.2.2 ht2) HO.out).mono ?_
  rintro e w3 ⟨rfl, hf4⟩
  have hf5 := frm_trans HF.out.1 hf4
  go_wp2_with fail
  refine (alive_calls _ (HT.out.step (frm_below hf5 (Nat.le_refl _))).here).mono ?_
  rintro e w4 ⟨rfl, hf6⟩
  go_wp2_with fail
  exact bodyPost_ret (results_tmp rfl _ _ _) rfl ⟨rfl, frm_trans hf5 hf6⟩
end Go.Proofs.YtmdgoalekkkpnaaDoor
