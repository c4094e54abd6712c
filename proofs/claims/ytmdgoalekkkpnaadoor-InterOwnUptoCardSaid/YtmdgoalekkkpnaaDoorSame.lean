/- equal, Same: when two types are the same; the reference's Same and Compare. -/
import Derived.Test.YtmdgoalekkkpnaaDoorStrong
import Derived.Test.YtmdgoalekkkpnaaDoorNodes
import Derived.Test.YtmdgoalekkkpnaaDoorRefCmp
set_option linter.unusedVariables false
set_option linter.unusedSimpArgs false
namespace Go.Proofs.YtmdgoalekkkpnaaDoor
open Go.RowKit

theorem cmpL_len {α : Type} (f : α → α → Int) : ∀ xs ys, cmpL f xs ys = 0 → xs.length = ys.length
  | [], [], _ => rfl
  | [], _ :: _, h => by simp [cmpL] at h
  | _ :: _, [], h => by simp [cmpL] at h
  | x :: xs, y :: ys, h => by
    unfold cmpL at h
    split at h
    · contradiction
    · simp [cmpL_len f xs ys h]

def EqualAt (x y : Ty) : Prop := ∀ (w : World) (v0 v1 u0 u1 : Value), TyO w x [v0, v1] → TyO w y [u0, u1] →
  Calls Tryd.prog 54 #[.agg #[v0, v1], .agg #[u0, u1]] w (Ret w (.bool (Ty.cmp x y == 0)))

set_option maxRecDepth 100000 in
theorem eqSet_calls (xs ys : List Ty) (IH : ∀ x ∈ xs, ∀ y ∈ ys, EqualAt x y) (w : World) (v u : Value) (hx : SlO w 2 TyO xs v) (hy : SlO w 2 TyO ys u) :
    Calls Tryd.prog 81 #[v, u, .func (.func 54) #[] #[]] w (Ret w (.bool (cmpL Ty.cmp xs ys == 0))) := by
  obtain ⟨A, c, rfl, hc, hm⟩ := hx.val
  obtain ⟨A', c', rfl, hc', hm'⟩ := hy.val
  have HI := Lib.hid IH
  clear IH
  by_cases hl : xs.length = ys.length
  · have hnl : ((xs.length : Int) != (ys.length : Int)) = false := by simp [hl]
    have HL := Lib.hid hl
    clear hl
    go_enter Tryd.func81, Tryd.ntmps81
    go_wp2_with fail
    go_loopw [17] (fun i wr => ∃ k : Nat, k ≤ xs.length ∧ i = .int .i64 k ∧ w.grownBy wr none ∧ Hid (cmpL Ty.cmp xs ys = cmpL Ty.cmp (xs.drop k) (ys.drop k))) (fun i _ => xs.length - (intOf i).toNat)
    case atStart => exact ⟨0, Nat.zero_le _, rfl, frm_refl _ _, rfl⟩
    case round =>
      obtain ⟨k, hk, rfl, hfr, HC⟩ := hrel
      by_cases hlt : k < xs.length
      · have hlt' : k < ys.length := by rw [← HL.out]; exact hlt
        obtain ⟨b, o, p0, p1, rfl, hb, hp0, hp1, hpt⟩ := (hx.frm hfr stays_ty).at2 k hlt
        obtain ⟨s1, A1, n1, c1, rfl, rfl⟩ := hpt.vals
        obtain ⟨b2, o2, q0, q1, rfl, hb2, hq0, hq1, hqt⟩ := (hy.frm hfr stays_ty).at2 k hlt'
        obtain ⟨s2, A2, n2, c2, rfl, rfl⟩ := hqt.vals
        have hd := Lib.hid (cmpL_drop Ty.cmp xs ys k hlt hlt')
        have ih := Lib.hid (HI.out _ (List.getElem_mem hlt) _ (List.getElem_mem hlt'))
        generalize xs[k] = x at *
        generalize ys[k] = y at *
        go_wp2_with fail
        refine (ih.out _ _ _ _ _ (stays_ty _ _ _ _ (frm_then_alloc (frm_alloc _ _) _) hpt) (stays_ty _ _ _ _ (frm_then_alloc (frm_alloc _ _) _) hqt)).mono ?_
        rintro e w1 ⟨rfl, hf1⟩
        have hf := frm_trans hfr (frm_trans (frm_then_alloc (frm_alloc _ _) _) hf1)
        cases hz : (Ty.cmp x y == 0)
        · have HZ : Hid ((cmpL Ty.cmp xs ys == 0) = false) := by
            unfold Hid
            rw [HC.out, hd.out, if_pos (by simpa using hz)]
            exact hz
          clear hz
          go_wp2_with fail
          refine bodyPost_ret (results_tmp rfl _ _ _) rfl ⟨?_, hf⟩
          rw [HZ.out]
          rfl
        · have HZ : Hid (cmpL Ty.cmp xs ys = cmpL Ty.cmp (xs.drop (k + 1)) (ys.drop (k + 1))) := by
            unfold Hid
            rw [HC.out, hd.out, if_neg (by simpa using hz)]
          clear hz
          go_wp2_with fail
          exact ⟨⟨k + 1, by omega, by go_num, hf, HZ⟩, by simp [intOf]; omega⟩
      · obtain rfl : k = xs.length := by omega
        have HZ : Hid ((cmpL Ty.cmp xs ys == 0) = true) := by
          unfold Hid
          rw [HC.out, cmpL_drop_end _ _ _ _ (Nat.le_refl _) (by rw [HL.out]; exact Nat.le_refl _), if_neg (by rw [HL.out]; omega)]
          rfl
        go_wp2_with fail
        refine bodyPost_ret (results_tmp rfl _ _ _) rfl ⟨?_, hfr⟩
        rw [HZ.out]
        rfl
  · have hnl : ((xs.length : Int) != (ys.length : Int)) = true := by rw [bne_iff_ne]; omega
    have HZ : Hid ((cmpL Ty.cmp xs ys == 0) = false) := by
      unfold Hid
      rw [beq_eq_false_iff_ne]
      intro h
      exact hl (cmpL_len _ _ _ h)
    clear hl
    go_enter Tryd.func81, Tryd.ntmps81
    go_wp2_with fail
    refine bodyPost_ret (results_tmp rfl _ _ _) rfl ⟨?_, frm_refl _ _⟩
    rw [HZ.out]
    rfl

theorem equal1_calls (xs ys : List Ty) (IH : ∀ x ∈ xs, ∀ y ∈ ys, EqualAt x y) (w : World) (v u : Value) (hv : SetO w xs [v]) (hu : SetO w ys [u]) :
    Calls Tryd.prog 80 #[v, u] w (Ret w (.bool (cmpL Ty.cmp xs ys == 0))) := by
  have h := eqSet_calls xs ys IH w v u (SetO.sl hv) (SetO.sl hu)
  have H := Lib.hid h
  clear h hv hu IH
  go_enter Tryd.func80, Tryd.ntmps80
  go_wp2_with fail
  refine H.out.mono ?_
  rintro e w1 ⟨rfl, hf⟩
  go_wp2_with fail
  exact bodyPost_ret (results_tmp rfl _ _ _) rfl ⟨rfl, hf⟩

set_option maxRecDepth 100000 in
theorem eqRows_calls (xs ys : List (List Ty)) (IH : ∀ x ∈ xs, ∀ y ∈ ys, ∀ (w : World) (v u : Value), SetO w x [v] → SetO w y [u] → Calls Tryd.prog 80 #[v, u] w (Ret w (.bool (cmpL Ty.cmp x y == 0)))) (w : World) (v u : Value) (hx : SlO w 1 SetO xs v) (hy : SlO w 1 SetO ys u) :
    Calls Tryd.prog 79 #[v, u, .func (.func 80) #[] #[]] w (Ret w (.bool (cmpL (cmpL Ty.cmp) xs ys == 0))) := by
  obtain ⟨A, c, rfl, hc, hm⟩ := hx.val
  obtain ⟨A', c', rfl, hc', hm'⟩ := hy.val
  have HI := Lib.hid IH
  clear IH
  by_cases hl : xs.length = ys.length
  · have hnl : ((xs.length : Int) != (ys.length : Int)) = false := by simp [hl]
    have HL := Lib.hid hl
    clear hl
    go_enter Tryd.func79, Tryd.ntmps79
    go_wp2_with fail
    go_loopw [17] (fun i wr => ∃ k : Nat, k ≤ xs.length ∧ i = .int .i64 k ∧ w.grownBy wr none ∧ Hid (cmpL (cmpL Ty.cmp) xs ys = cmpL (cmpL Ty.cmp) (xs.drop k) (ys.drop k))) (fun i _ => xs.length - (intOf i).toNat)
    case atStart => exact ⟨0, Nat.zero_le _, rfl, frm_refl _ _, rfl⟩
    case round =>
      obtain ⟨k, hk, rfl, hfr, HC⟩ := hrel
      by_cases hlt : k < xs.length
      · have hlt' : k < ys.length := by rw [← HL.out]; exact hlt
        obtain ⟨b, o, p0, rfl, hb, hp0, hpt⟩ := (hx.frm hfr stays_set).at1 k hlt
        obtain ⟨b2, o2, q0, rfl, hb2, hq0, hqt⟩ := (hy.frm hfr stays_set).at1 k hlt'
        have hd := Lib.hid (cmpL_drop (cmpL Ty.cmp) xs ys k hlt hlt')
        have ih := Lib.hid (HI.out _ (List.getElem_mem hlt) _ (List.getElem_mem hlt'))
        generalize xs[k] = x at *
        generalize ys[k] = y at *
        go_wp2_with fail
        refine (ih.out _ _ _ hpt hqt).mono ?_
        rintro e w1 ⟨rfl, hf1⟩
        have hf := frm_trans hfr hf1
        cases hz : (cmpL Ty.cmp x y == 0)
        · have HZ : Hid ((cmpL (cmpL Ty.cmp) xs ys == 0) = false) := by
            unfold Hid
            rw [HC.out, hd.out, if_pos (by simpa using hz)]
            exact hz
          clear hz
          go_wp2_with fail
          refine bodyPost_ret (results_tmp rfl _ _ _) rfl ⟨?_, hf⟩
          rw [HZ.out]
          rfl
        · have HZ : Hid (cmpL (cmpL Ty.cmp) xs ys = cmpL (cmpL Ty.cmp) (xs.drop (k + 1)) (ys.drop (k + 1))) := by
            unfold Hid
            rw [HC.out, hd.out, if_neg (by simpa using hz)]
          clear hz
          go_wp2_with fail
          exact ⟨⟨k + 1, by omega, by go_num, hf, HZ⟩, by simp [intOf]; omega⟩
      · obtain rfl : k = xs.length := by omega
        have HZ : Hid ((cmpL (cmpL Ty.cmp) xs ys == 0) = true) := by
          unfold Hid
          rw [HC.out, cmpL_drop_end _ _ _ _ (Nat.le_refl _) (by rw [HL.out]; exact Nat.le_refl _), if_neg (by rw [HL.out]; omega)]
          rfl
        go_wp2_with fail
        refine bodyPost_ret (results_tmp rfl _ _ _) rfl ⟨?_, hfr⟩
        rw [HZ.out]
        rfl
  · have hnl : ((xs.length : Int) != (ys.length : Int)) = true := by rw [bne_iff_ne]; omega
    have HZ : Hid ((cmpL (cmpL Ty.cmp) xs ys == 0) = false) := by
      unfold Hid
      rw [beq_eq_false_iff_ne]
      intro h
      exact hl (cmpL_len _ _ _ h)
    clear hl
    go_enter Tryd.func79, Tryd.ntmps79
    go_wp2_with fail
    refine bodyPost_ret (results_tmp rfl _ _ _) rfl ⟨?_, frm_refl _ _⟩
    rw [HZ.out]
    rfl

theorem equal_calls : ∀ x y : Ty, EqualAt x y := by
  intro x
  induction x using Ty.ind with
  | h s a ih =>
    rintro ⟨s', b⟩ w v0 v1 u0 u1 hx hy
    rw [TyO_mk] at hx hy
    obtain ⟨v, hv, h1, h2, hx⟩ := hx
    obtain ⟨u, hu, h3, h4, hy⟩ := hy
    obtain ⟨rfl, rfl⟩ : v0 = .int .i64 s ∧ v1 = v := by simpa using hv
    obtain ⟨rfl, rfl⟩ : u0 = .int .i64 s' ∧ u1 = u := by simpa using hu
    clear hv hu
    have H := Lib.hid fun (w' : World) (hf : w.grownBy w' none) => eqRows_calls a b (fun xs hxs ys hys => equal1_calls xs ys fun x hx y hy => ih xs hxs x hx y) w' v1 u1 (hx.frm hf stays_set) (hy.frm hf stays_set)
    clear ih
    have hxv := hx.val
    have hyv := hy.val
    obtain ⟨A, c, rfl, _, _⟩ := hxv
    obtain ⟨A', c', rfl, _, _⟩ := hyv
    clear hx hy
    by_cases hs : s = s'
    · subst hs
      have hc : Hid ((Ty.cmp (.mk s a) (.mk s b) == 0) = (cmpL (cmpL Ty.cmp) a b == 0)) := by unfold Hid; rw [Ty.cmp_mk, if_neg (by simp)]
      have hne : (s == s) = true := by simp
      go_enter Tryd.func54, Tryd.ntmps54
      go_wp2_with fail
      refine (H.out _ (frm_then_alloc (frm_alloc _ _) _)).mono ?_
      rintro e w1 ⟨rfl, hf⟩
      go_wp2_with fail
      refine bodyPost_ret (results_tmp rfl _ _ _) rfl ⟨?_, frm_trans (frm_then_alloc (frm_alloc _ _) _) hf⟩
      rw [hc.out]
      rfl
    · have hc : Hid ((Ty.cmp (.mk s a) (.mk s' b) == 0) = false) := by
        unfold Hid
        rw [Ty.cmp_mk, if_pos hs]
        split <;> rfl
      have hne : (s == s') = false := by simp [hs]
      go_enter Tryd.func54, Tryd.ntmps54
      go_wp2_with fail
      refine bodyPost_ret (results_tmp rfl _ _ _) rfl ⟨?_, frm_then_alloc (frm_alloc _ _) _⟩
      rw [hc.out]
      rfl

/-- What Same says. -/
def Ty.same (x y : Ty) : Bool := !x.large && !y.large && Ty.cmp x y == 0

set_option maxRecDepth 20000 in
theorem same_calls (x y : Ty) (w : World) (x0 x1 y0 y1 : Value) (hx : TyO w x [x0, x1]) (hy : TyO w y [y0, y1]) :
    Calls Tryd.prog 26 #[.agg #[x0, x1], .agg #[y0, y1]] w (Ret w (.bool (Ty.same x y))) := by
  obtain ⟨xs, xA, xn, xc, rfl, rfl⟩ := hx.vals
  obtain ⟨ys, yA, yn, yc, rfl, rfl⟩ := hy.vals
  have hf0 : w.grownBy ((w.alloc (.cells #[.int .i64 xs, .slice xA xn xc] 24)).alloc (.cells #[.int .i64 ys, .slice yA yn yc] 24)) none := frm_then_alloc (frm_alloc _ _) _
  have xb : TwoAt ((w.alloc (.cells #[.int .i64 xs, .slice xA xn xc] 24)).alloc (.cells #[.int .i64 ys, .slice yA yn yc] 24)) (w.heap.size) (.int .i64 xs) (.slice xA xn xc) 24 := (TwoAt.new _ _ _ _).alloc _
  have yb : TwoAt ((w.alloc (.cells #[.int .i64 xs, .slice xA xn xc] 24)).alloc (.cells #[.int .i64 ys, .slice yA yn yc] 24)) (w.heap.size + 1) (.int .i64 ys) (.slice yA yn yc) 24 := TwoAt.new2 _ _ _ _ _
  obtain ⟨xc0, xc1, _, _⟩ := xb.cells
  obtain ⟨yc0, yc1, _, _⟩ := yb.cells
  go_enter Tryd.func26, Tryd.ntmps26
  go_wp2_with fail
  refine (large_calls x _ _ _ (stays_ty _ _ _ _ hf0 hx)).mono ?_
  rintro e w1 ⟨rfl, g1⟩
  have hf1 := frm_trans hf0 g1
  clear xc0 xc1
  replace xb := xb.frm g1
  obtain ⟨xc0, xc1, _, _⟩ := xb.cells
  clear yc0 yc1
  replace yb := yb.frm g1
  obtain ⟨yc0, yc1, _, _⟩ := yb.cells
  cases hl : x.large
  · have L1 := Lib.hid hl
    clear hl
    go_wp2_with fail
    refine (large_calls y _ _ _ (stays_ty _ _ _ _ hf1 hy)).mono ?_
    rintro e w2 ⟨rfl, g2⟩
    have hf2 := frm_trans hf1 g2
    clear xc0 xc1
    replace xb := xb.frm g2
    obtain ⟨xc0, xc1, _, _⟩ := xb.cells
    clear yc0 yc1
    replace yb := yb.frm g2
    obtain ⟨yc0, yc1, _, _⟩ := yb.cells
    cases hl2 : y.large
    · have L2 := Lib.hid hl2
      clear hl2
      go_wp2_with fail
      refine (equal_calls x y _ _ _ _ _ (stays_ty _ _ _ _ hf2 hx) (stays_ty _ _ _ _ hf2 hy)).mono ?_
      rintro e w3 ⟨rfl, g3⟩
      have hf3 := frm_trans hf2 g3
      clear xc0 xc1
      replace xb := xb.frm g3
      obtain ⟨xc0, xc1, _, _⟩ := xb.cells
      clear yc0 yc1
      replace yb := yb.frm g3
      obtain ⟨yc0, yc1, _, _⟩ := yb.cells
      go_wp2_with fail
      refine bodyPost_ret (results_tmp rfl _ _ _) rfl ⟨?_, hf3⟩
      simp [Ty.same, L1.out, L2.out]
    · have L2 := Lib.hid hl2
      clear hl2
      go_wp2_with fail
      refine bodyPost_ret (results_tmp rfl _ _ _) rfl ⟨?_, hf2⟩
      simp [Ty.same, L1.out, L2.out]
  · have L1 := Lib.hid hl
    clear hl
    go_wp2_with fail
    refine bodyPost_ret (results_tmp rfl _ _ _) rfl ⟨?_, hf1⟩
    simp [Ty.same, L1.out]

set_option maxRecDepth 20000 in
theorem rsame_calls (x y : Ty) (w : World) (x0 x1 y0 y1 : Value) (hx : TyO w x [x0, x1]) (hy : TyO w y [y0, y1]) :
    Calls Tryd.prog 25 #[.agg #[x0, x1], .agg #[y0, y1]] w (Ret w (.bool (Ty.same x y))) := by
  obtain ⟨xs, xA, xn, xc, rfl, rfl⟩ := hx.vals
  obtain ⟨ys, yA, yn, yc, rfl, rfl⟩ := hy.vals
  have hf0 : w.grownBy ((w.alloc (.cells #[.int .i64 xs, .slice xA xn xc] 24)).alloc (.cells #[.int .i64 ys, .slice yA yn yc] 24)) none := frm_then_alloc (frm_alloc _ _) _
  have xb : TwoAt ((w.alloc (.cells #[.int .i64 xs, .slice xA xn xc] 24)).alloc (.cells #[.int .i64 ys, .slice yA yn yc] 24)) (w.heap.size) (.int .i64 xs) (.slice xA xn xc) 24 := (TwoAt.new _ _ _ _).alloc _
  have yb : TwoAt ((w.alloc (.cells #[.int .i64 xs, .slice xA xn xc] 24)).alloc (.cells #[.int .i64 ys, .slice yA yn yc] 24)) (w.heap.size + 1) (.int .i64 ys) (.slice yA yn yc) 24 := TwoAt.new2 _ _ _ _ _
  obtain ⟨xc0, xc1, _, _⟩ := xb.cells
  obtain ⟨yc0, yc1, _, _⟩ := yb.cells
  go_enter Tryd.func25, Tryd.ntmps25
  go_wp2_with fail
  refine (rlarge_calls x _ _ _ (stays_ty _ _ _ _ hf0 hx)).mono ?_
  rintro e w1 ⟨rfl, g1⟩
  have hf1 := frm_trans hf0 g1
  clear xc0 xc1
  replace xb := xb.frm g1
  obtain ⟨xc0, xc1, _, _⟩ := xb.cells
  clear yc0 yc1
  replace yb := yb.frm g1
  obtain ⟨yc0, yc1, _, _⟩ := yb.cells
  cases hl : x.large
  · have L1 := Lib.hid hl
    clear hl
    go_wp2_with fail
    refine (rlarge_calls y _ _ _ (stays_ty _ _ _ _ hf1 hy)).mono ?_
    rintro e w2 ⟨rfl, g2⟩
    have hf2 := frm_trans hf1 g2
    clear xc0 xc1
    replace xb := xb.frm g2
    obtain ⟨xc0, xc1, _, _⟩ := xb.cells
    clear yc0 yc1
    replace yb := yb.frm g2
    obtain ⟨yc0, yc1, _, _⟩ := yb.cells
    cases hl2 : y.large
    · have L2 := Lib.hid hl2
      clear hl2
      go_wp2_with fail
      refine (before_calls x y _ _ _ _ _ (stays_ty _ _ _ _ hf2 hx) (stays_ty _ _ _ _ hf2 hy)).mono ?_
      rintro e w3 ⟨rfl, g3⟩
      have hf3 := frm_trans hf2 g3
      clear xc0 xc1
      replace xb := xb.frm g3
      obtain ⟨xc0, xc1, _, _⟩ := xb.cells
      clear yc0 yc1
      replace yb := yb.frm g3
      obtain ⟨yc0, yc1, _, _⟩ := yb.cells
      go_wp2_with fail
      refine bodyPost_ret (results_tmp rfl _ _ _) rfl ⟨?_, hf3⟩
      simp [Ty.same, L1.out, L2.out]
    · have L2 := Lib.hid hl2
      clear hl2
      go_wp2_with fail
      refine bodyPost_ret (results_tmp rfl _ _ _) rfl ⟨?_, hf2⟩
      simp [Ty.same, L1.out, L2.out]
  · have L1 := Lib.hid hl
    clear hl
    go_wp2_with fail
    refine bodyPost_ret (results_tmp rfl _ _ _) rfl ⟨?_, hf1⟩
    simp [Ty.same, L1.out]

set_option maxRecDepth 20000 in
theorem rcompare_calls (x y : Ty) (w : World) (x0 x1 y0 y1 : Value) (hx : TyO w x [x0, x1]) (hy : TyO w y [y0, y1]) :
    Calls Tryd.prog 28 #[.agg #[x0, x1], .agg #[y0, y1]] w (Ret w (.int .i64 (Ty.compared x y))) := by
  obtain ⟨xs, xA, xn, xc, rfl, rfl⟩ := hx.vals
  obtain ⟨ys, yA, yn, yc, rfl, rfl⟩ := hy.vals
  have hf0 : w.grownBy ((w.alloc (.cells #[.int .i64 xs, .slice xA xn xc] 24)).alloc (.cells #[.int .i64 ys, .slice yA yn yc] 24)) none := frm_then_alloc (frm_alloc _ _) _
  have xb : TwoAt ((w.alloc (.cells #[.int .i64 xs, .slice xA xn xc] 24)).alloc (.cells #[.int .i64 ys, .slice yA yn yc] 24)) (w.heap.size) (.int .i64 xs) (.slice xA xn xc) 24 := (TwoAt.new _ _ _ _).alloc _
  have yb : TwoAt ((w.alloc (.cells #[.int .i64 xs, .slice xA xn xc] 24)).alloc (.cells #[.int .i64 ys, .slice yA yn yc] 24)) (w.heap.size + 1) (.int .i64 ys) (.slice yA yn yc) 24 := TwoAt.new2 _ _ _ _ _
  obtain ⟨xc0, xc1, _, _⟩ := xb.cells
  obtain ⟨yc0, yc1, _, _⟩ := yb.cells
  go_enter Tryd.func28, Tryd.ntmps28
  go_wp2_with fail
  refine (rlarge_calls x _ _ _ (stays_ty _ _ _ _ hf0 hx)).mono ?_
  rintro e w1 ⟨rfl, g1⟩
  have hf1 := frm_trans hf0 g1
  clear xc0 xc1
  replace xb := xb.frm g1
  obtain ⟨xc0, xc1, _, _⟩ := xb.cells
  clear yc0 yc1
  replace yb := yb.frm g1
  obtain ⟨yc0, yc1, _, _⟩ := yb.cells
  cases hl : x.large
  · have L1 := Lib.hid hl
    clear hl
    go_wp2_with fail
    refine (rlarge_calls y _ _ _ (stays_ty _ _ _ _ hf1 hy)).mono ?_
    rintro e w2 ⟨rfl, g2⟩
    have hf2 := frm_trans hf1 g2
    clear xc0 xc1
    replace xb := xb.frm g2
    obtain ⟨xc0, xc1, _, _⟩ := xb.cells
    clear yc0 yc1
    replace yb := yb.frm g2
    obtain ⟨yc0, yc1, _, _⟩ := yb.cells
    cases hl2 : y.large
    · have L2 := Lib.hid hl2
      clear hl2
      go_wp2_with fail
      refine (before_calls x y _ _ _ _ _ (stays_ty _ _ _ _ hf2 hx) (stays_ty _ _ _ _ hf2 hy)).mono ?_
      rintro e w3 ⟨rfl, g3⟩
      have hf3 := frm_trans hf2 g3
      clear xc0 xc1
      replace xb := xb.frm g3
      obtain ⟨xc0, xc1, _, _⟩ := xb.cells
      clear yc0 yc1
      replace yb := yb.frm g3
      obtain ⟨yc0, yc1, _, _⟩ := yb.cells
      go_wp2_with fail
      refine bodyPost_ret (results_tmp rfl _ _ _) rfl ⟨?_, hf3⟩
      simp [Ty.compared, L1.out, L2.out]
    · have L2 := Lib.hid hl2
      clear hl2
      go_wp2_with fail
      refine bodyPost_ret (results_tmp rfl _ _ _) rfl ⟨?_, hf2⟩
      simp [Ty.compared, L1.out, L2.out]
  · have L1 := Lib.hid hl
    clear hl
    go_wp2_with fail
    refine bodyPost_ret (results_tmp rfl _ _ _) rfl ⟨?_, hf1⟩
    simp [Ty.compared, L1.out]
end Go.Proofs.YtmdgoalekkkpnaaDoor
