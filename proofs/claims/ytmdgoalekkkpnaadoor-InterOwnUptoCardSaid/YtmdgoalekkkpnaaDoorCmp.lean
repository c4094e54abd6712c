/- Order: the order of types. -/
import Derived.Test.YtmdgoalekkkpnaaDoorProg
import Derived.Test.YtmdgoalekkkpnaaDoorBase
import Derived.Test.YtmdgoalekkkpnaaDoorPure
set_option linter.unusedVariables false
set_option linter.unusedSimpArgs false
namespace Go.Proofs.YtmdgoalekkkpnaaDoor
open Go.RowKit

/-- What Order's contract says at two types. -/
def OrderAt (x y : Ty) : Prop := ∀ (w : World) (v0 v1 u0 u1 : Value), TyO w x [v0, v1] → TyO w y [u0, u1] →
  Calls Tryd.prog 55 #[.agg #[v0, v1], .agg #[u0, u1]] w (Ret w (.int .i64 (Ty.cmp x y)))
theorem cmp_bd {α : Type} {f : α → α → Int} (hf : ∀ x y, -1 ≤ f x y ∧ f x y ≤ 1) : ∀ xs ys, -1 ≤ cmpL f xs ys ∧ cmpL f xs ys ≤ 1
  | [], [] => by simp [cmpL]
  | [], _ :: _ => by simp [cmpL]
  | _ :: _, [] => by simp [cmpL]
  | x :: xs, y :: ys => by
    unfold cmpL
    split
    · exact hf x y
    · exact cmp_bd hf xs ys

set_option maxRecDepth 20000 in
set_option maxHeartbeats 400000 in
theorem cmpSet_calls (xs ys : List Ty) (IH : ∀ x ∈ xs, ∀ y ∈ ys, OrderAt x y) (w : World) (v u : Value) (hx : SlO w 2 TyO xs v) (hy : SlO w 2 TyO ys u) :
    Calls Tryd.prog 84 #[v, u, .func (.func 55) #[] #[]] w (Ret w (.int .i64 (cmpL Ty.cmp xs ys))) := by
  obtain ⟨A, c, rfl, hc, hm⟩ := hx.val
  obtain ⟨A', c', rfl, hc', hm'⟩ := hy.val
  have HI := Lib.hid IH
  clear IH
  go_enter Tryd.func84, Tryd.ntmps84
  go_wp2_with fail
  go_loopw [13] (fun i wr => ∃ k : Nat, k ≤ xs.length ∧ k ≤ ys.length ∧ i = .int .i64 k ∧ w.grownBy wr none ∧ Hid (cmpL Ty.cmp xs ys = cmpL Ty.cmp (xs.drop k) (ys.drop k))) (fun i _ => xs.length - (intOf i).toNat)
  case atStart => exact ⟨0, Nat.zero_le _, Nat.zero_le _, rfl, frm_refl _ _, rfl⟩
  case round =>
    obtain ⟨k, hk, hk', rfl, hfr, HC⟩ := hrel
    by_cases hlt : k < xs.length
    · obtain ⟨b, o, p0, p1, rfl, hb, hp0, hp1, hpt⟩ := (hx.frm hfr stays_ty).at2 k hlt
      obtain ⟨s1, A1, n1, c1, rfl, rfl⟩ := hpt.vals
      by_cases hlt' : k < ys.length
      · obtain ⟨b2, o2, q0, q1, rfl, hb2, hq0, hq1, hqt⟩ := (hy.frm hfr stays_ty).at2 k hlt'
        obtain ⟨s2, A2, n2, c2, rfl, rfl⟩ := hqt.vals
        have hd := Lib.hid (cmpL_drop Ty.cmp xs ys k hlt hlt')
        have ih := Lib.hid (HI.out _ (List.getElem_mem hlt) _ (List.getElem_mem hlt'))
        generalize xs[k] = x at *
        generalize ys[k] = y at *
        go_wp2_with fail
        refine (ih.out _ _ _ _ _ (stays_ty _ _ _ _ (frm_then_alloc (frm_alloc _ _) _) hpt) (stays_ty _ _ _ _ (frm_then_alloc (frm_alloc _ _) _) hqt)).mono ?_
        rintro e w1 ⟨rfl, hf1⟩
        have hf := frm_trans hfr (frm_trans (frm_then_alloc (frm_alloc _ _) _) hf1)
        by_cases hz : Ty.cmp x y = 0
        · have hz' : (Ty.cmp x y != 0) = false := by simp [hz]
          have HZ := Lib.hid hz
          clear hz
          go_wp2_with fail
          refine ⟨⟨k + 1, by omega, by omega, by go_num, hf, ?_⟩, by simp [intOf]; omega⟩
          have := HC.out
          rw [hd.out, if_neg (by simpa using HZ.out)] at this
          exact this
        · have hz' : (Ty.cmp x y != 0) = true := by simp [hz]
          go_wp2_with fail
          refine bodyPost_ret (results_tmp rfl _ _ _) rfl ⟨?_, hf⟩
          rw [HC.out, hd.out, if_pos hz]
          rfl
      · go_wp2_with fail
        refine bodyPost_ret (results_tmp rfl _ _ _) rfl ⟨?_, frm_then_alloc hfr _⟩
        rw [HC.out, cmpL_drop_short _ _ _ _ hlt (by omega)]
        rfl
    · obtain rfl : k = xs.length := by omega
      have he := cmpL_drop_end Ty.cmp xs ys xs.length (Nat.le_refl _) hk'
      by_cases hl : xs.length < ys.length
      · rw [if_pos hl] at he
        go_wp2_with fail
        refine bodyPost_ret (results_tmp rfl _ _ _) rfl ⟨?_, hfr⟩
        rw [HC.out, he]
        rfl
      · rw [if_neg hl] at he
        go_wp2_with fail
        refine bodyPost_ret (results_tmp rfl _ _ _) rfl ⟨?_, hfr⟩
        rw [HC.out, he]
        rfl

/-- What the comparison of two sets says. -/
def SetAt (x y : List Ty) : Prop := ∀ (w : World) (v u : Value), SetO w x [v] → SetO w y [u] →
  Calls Tryd.prog 83 #[v, u] w (Ret w (.int .i64 (cmpL Ty.cmp x y)))

theorem order1_calls (xs ys : List Ty) (IH : ∀ x ∈ xs, ∀ y ∈ ys, OrderAt x y) : SetAt xs ys := by
  intro w v u hv hu
  obtain ⟨_, hv1, hv⟩ := hv
  obtain ⟨_, hu1, hu⟩ := hu
  simp only [List.cons.injEq, and_true] at hv1 hu1
  subst hv1 hu1
  have h := cmpSet_calls xs ys IH w v u hv hu
  have H := Lib.hid h
  clear h hv hu IH
  go_enter Tryd.func83, Tryd.ntmps83
  go_wp2_with fail
  refine H.out.mono ?_
  rintro e w1 ⟨rfl, hf⟩
  go_wp2_with fail
  exact bodyPost_ret (results_tmp rfl _ _ _) rfl ⟨rfl, hf⟩

set_option maxRecDepth 20000 in
set_option maxHeartbeats 400000 in
theorem cmpRows_calls (xs ys : List (List Ty)) (IH : ∀ x ∈ xs, ∀ y ∈ ys, SetAt x y) (w : World) (v u : Value) (hx : SlO w 1 SetO xs v) (hy : SlO w 1 SetO ys u) :
    Calls Tryd.prog 82 #[v, u, .func (.func 83) #[] #[]] w (Ret w (.int .i64 (cmpL (cmpL Ty.cmp) xs ys))) := by
  obtain ⟨A, c, rfl, hc, hm⟩ := hx.val
  obtain ⟨A', c', rfl, hc', hm'⟩ := hy.val
  have HI := Lib.hid IH
  clear IH
  go_enter Tryd.func82, Tryd.ntmps82
  go_wp2_with fail
  go_loopw [13] (fun i wr => ∃ k : Nat, k ≤ xs.length ∧ k ≤ ys.length ∧ i = .int .i64 k ∧ w.grownBy wr none ∧ Hid (cmpL (cmpL Ty.cmp) xs ys = cmpL (cmpL Ty.cmp) (xs.drop k) (ys.drop k))) (fun i _ => xs.length - (intOf i).toNat)
  case atStart => exact ⟨0, Nat.zero_le _, Nat.zero_le _, rfl, frm_refl _ _, rfl⟩
  case round =>
    obtain ⟨k, hk, hk', rfl, hfr, HC⟩ := hrel
    by_cases hlt : k < xs.length
    · obtain ⟨b, o, p0, rfl, hb, hp0, hpt⟩ := (hx.frm hfr stays_set).at1 k hlt
      by_cases hlt' : k < ys.length
      · obtain ⟨b2, o2, q0, rfl, hb2, hq0, hqt⟩ := (hy.frm hfr stays_set).at1 k hlt'
        have hd := Lib.hid (cmpL_drop (cmpL Ty.cmp) xs ys k hlt hlt')
        have ih := Lib.hid (HI.out _ (List.getElem_mem hlt) _ (List.getElem_mem hlt'))
        generalize xs[k] = x at *
        generalize ys[k] = y at *
        go_wp2_with fail
        refine (ih.out _ _ _ (stays_set _ _ _ _ (frm_refl _ _) hpt) (stays_set _ _ _ _ (frm_refl _ _) hqt)).mono ?_
        rintro e w1 ⟨rfl, hf1⟩
        have hf := frm_trans hfr hf1
        by_cases hz : cmpL Ty.cmp x y = 0
        · have hz' : (cmpL Ty.cmp x y != 0) = false := by simp [hz]
          have HZ := Lib.hid hz
          clear hz
          go_wp2_with fail
          refine ⟨⟨k + 1, by omega, by omega, by go_num, hf, ?_⟩, by simp [intOf]; omega⟩
          have := HC.out
          rw [hd.out, if_neg (by simpa using HZ.out)] at this
          exact this
        · have hz' : (cmpL Ty.cmp x y != 0) = true := by simp [hz]
          go_wp2_with fail
          refine bodyPost_ret (results_tmp rfl _ _ _) rfl ⟨?_, hf⟩
          rw [HC.out, hd.out, if_pos hz]
          rfl
      · go_wp2_with fail
        refine bodyPost_ret (results_tmp rfl _ _ _) rfl ⟨?_, hfr⟩
        rw [HC.out, cmpL_drop_short _ _ _ _ hlt (by omega)]
        rfl
    · obtain rfl : k = xs.length := by omega
      have he := cmpL_drop_end (cmpL Ty.cmp) xs ys xs.length (Nat.le_refl _) hk'
      by_cases hl : xs.length < ys.length
      · rw [if_pos hl] at he
        go_wp2_with fail
        refine bodyPost_ret (results_tmp rfl _ _ _) rfl ⟨?_, hfr⟩
        rw [HC.out, he]
        rfl
      · rw [if_neg hl] at he
        go_wp2_with fail
        refine bodyPost_ret (results_tmp rfl _ _ _) rfl ⟨?_, hfr⟩
        rw [HC.out, he]
        rfl

theorem order_calls : ∀ x y : Ty, OrderAt x y := by
  intro x
  induction x using Ty.ind with
  | h s a ih =>
    rintro ⟨s', b⟩ w v0 v1 u0 u1 hx hy
    rw [TyO_mk] at hx hy
    obtain ⟨v, hv, h1, h2, hx⟩ := hx
    obtain ⟨u, hu, h3, h4, hy⟩ := hy
    obtain ⟨rfl, rfl⟩ : v0 = .int .i64 s ∧ v1 = v := by simpa using hv
    obtain ⟨rfl, rfl⟩ : u0 = .int .i64 s' ∧ u1 = u := by simpa using hu
    clear hv hu
    have H := Lib.hid fun (w' : World) (hf : w.grownBy w' none) => cmpRows_calls a b (fun xs hxs ys hys => order1_calls xs ys fun x hx y hy => ih xs hxs x hx y) w' v1 u1 (hx.frm hf stays_set) (hy.frm hf stays_set)
    clear ih
    have hc := Lib.hid (Ty.cmp_mk s s' a b)
    have hxv := hx.val
    have hyv := hy.val
    obtain ⟨A, c, rfl, _, _⟩ := hxv
    obtain ⟨A', c', rfl, _, _⟩ := hyv
    clear hx hy
    by_cases hs : s = s'
    · subst hs
      have hne : (s != s) = false := by simp
      go_enter Tryd.func55, Tryd.ntmps55
      go_wp2_with fail
      refine (H.out _ (frm_then_alloc (frm_alloc _ _) _)).mono ?_
      rintro e w1 ⟨rfl, hf⟩
      go_wp2_with fail
      refine bodyPost_ret (results_tmp rfl _ _ _) rfl ⟨?_, frm_trans (frm_then_alloc (frm_alloc _ _) _) hf⟩
      rw [hc.out, if_neg (by simp)]
      rfl
    · have hne : (s != s') = true := by simp [hs]
      by_cases hl : s < s'
      · go_enter Tryd.func55, Tryd.ntmps55
        go_wp2_with fail
        refine bodyPost_ret (results_tmp rfl _ _ _) rfl ⟨?_, frm_then_alloc (frm_alloc _ _) _⟩
        rw [hc.out, if_pos hs, if_pos hl]
        rfl
      · go_enter Tryd.func55, Tryd.ntmps55
        go_wp2_with fail
        refine bodyPost_ret (results_tmp rfl _ _ _) rfl ⟨?_, frm_then_alloc (frm_alloc _ _) _⟩
        rw [hc.out, if_pos hs, if_neg (by omega)]
        rfl
end Go.Proofs.YtmdgoalekkkpnaaDoor
