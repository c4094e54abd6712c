/- The reference's Before: the order of types. -/
import Derived.Test.YtmdgoalekkkpnaaDoorProg
import Derived.Test.YtmdgoalekkkpnaaDoorCmp
import Derived.Test.YtmdgoalekkkpnaaDoorOwn
import Derived.StillTailTactics
set_option linter.unusedVariables false
set_option linter.unusedSimpArgs false
namespace Go.Proofs.YtmdgoalekkkpnaaDoor
open Go.RowKit

/-- Two numbers compared. -/
def lessI (a b : Int) : Int := if a < b then -1 else if b < a then 1 else 0
theorem less_calls (a b : Int) (w : World) : Calls Tryd.prog 78 #[.int .i64 a, .int .i64 b] w (Ret w (.int .i64 (lessI a b))) := by
  by_cases h1 : a < b
  · have H : Hid (lessI a b = -1) := by unfold Hid lessI; rw [if_pos h1]
    go_enter Tryd.func78, Tryd.ntmps78
    go_wp2_with fail
    exact bodyPost_ret (results_tmp rfl _ _ _) rfl ⟨by rw [H.out]; rfl, frm_refl _ _⟩
  · by_cases h2 : b < a
    · have H : Hid (lessI a b = 1) := by unfold Hid lessI; rw [if_neg h1, if_pos h2]
      go_enter Tryd.func78, Tryd.ntmps78
      go_wp2_with fail
      exact bodyPost_ret (results_tmp rfl _ _ _) rfl ⟨by rw [H.out]; rfl, frm_refl _ _⟩
    · have H : Hid (lessI a b = 0) := by unfold Hid lessI; rw [if_neg h1, if_neg h2]
      go_enter Tryd.func78, Tryd.ntmps78
      go_wp2_with fail
      exact bodyPost_ret (results_tmp rfl _ _ _) rfl ⟨by rw [H.out]; rfl, frm_refl _ _⟩

/-- What Before's contract says at two types. -/
def BeforeAt (x y : Ty) : Prop := ∀ (w : World) (v0 v1 u0 u1 : Value), TyO w x [v0, v1] → TyO w y [u0, u1] →
  Calls Tryd.prog 53 #[.agg #[v0, v1], .agg #[u0, u1]] w (Ret w (.int .i64 (Ty.cmp x y)))

set_option maxRecDepth 100000 in
set_option maxHeartbeats 1000000 in
theorem beforeSet_calls (xs ys : List Ty) (IH : ∀ x ∈ xs, ∀ y ∈ ys, BeforeAt x y) (w : World) (v u : Value) (hx : SlO w 2 TyO xs v) (hy : SlO w 2 TyO ys u) :
    Calls Tryd.prog 77 #[v, u] w (Ret w (.int .i64 (cmpL Ty.cmp xs ys))) := by
  obtain ⟨A, c, rfl, hc, hm⟩ := hx.val
  obtain ⟨A', c', rfl, hc', hm'⟩ := hy.val
  have HI := Lib.hid IH
  clear IH
  go_enter Tryd.func77, Tryd.ntmps77
  go_wp2_with fail
  go_loopw [5] (fun i wr => ∃ k : Nat, k ≤ xs.length ∧ k ≤ ys.length ∧ i = .int .i64 k ∧ w.grownBy wr none ∧ Hid (cmpL Ty.cmp xs ys = cmpL Ty.cmp (xs.drop k) (ys.drop k))) (fun i _ => xs.length - (intOf i).toNat)
  case atStart => exact ⟨0, Nat.zero_le _, Nat.zero_le _, rfl, frm_refl _ _, rfl⟩
  case round =>
    obtain ⟨k, hk, hk', rfl, hfr, HC⟩ := hrel
    by_cases hlt : k < xs.length ∧ k < ys.length
    · obtain ⟨hlt, hlt'⟩ := hlt
      obtain ⟨b, o, p0, p1, rfl, hb, hp0, hp1, hpt⟩ := (hx.frm hfr stays_ty).at2 k hlt
      obtain ⟨s1, A1, n1, c1, rfl, rfl⟩ := hpt.vals
      obtain ⟨b2, o2, q0, q1, rfl, hb2, hq0, hq1, hqt⟩ := (hy.frm hfr stays_ty).at2 k hlt'
      obtain ⟨s2, A2, n2, c2, rfl, rfl⟩ := hqt.vals
      have hd := Lib.hid (cmpL_drop Ty.cmp xs ys k hlt hlt')
      have ih := Lib.hid (HI.out _ (List.getElem_mem hlt) _ (List.getElem_mem hlt'))
      generalize xs[k] = x at *
      generalize ys[k] = y at *
      go_wp2_with fail
      go_still_tail 8, (by kernel_rfl)
      go_wp2_with fail
      refine (ih.out _ _ _ _ _ (stays_ty _ _ _ _ (frm_drew _) hpt) (stays_ty _ _ _ _ (frm_drew _) hqt)).mono ?_
      rintro e w1 ⟨rfl, hf1⟩
      have hf := frm_trans hfr (frm_trans (frm_drew _) hf1)
      by_cases hz : Ty.cmp x y = 0
      · have hz' : (Ty.cmp x y != 0) = false := by simp [hz]
        have HZ := Lib.hid hz
        clear hz
        go_wp2_with fail
        refine ⟨⟨k + 1, by omega, by omega, by go_num, hf, ?_⟩, by simp [intOf]; omega⟩
        have := HC.out
        rw [hd.out, if_neg (by simpa using HZ.out)] at this
        exact this
      · have hz' : (Ty.cmp x y != 0) = true := by simp [hz]
        go_wp2_with fail
        refine bodyPost_ret (results_tmp rfl _ _ _) rfl ⟨?_, hf⟩
        rw [HC.out, hd.out, if_pos hz]
        rfl
    · have HE : Hid (cmpL Ty.cmp (xs.drop k) (ys.drop k) = lessI xs.length ys.length) := by
        unfold Hid
        by_cases h1 : k < xs.length
        · have h2 : ys.length ≤ k := by omega
          rw [cmpL_drop_short _ _ _ _ h1 h2]
          unfold lessI
          rw [if_neg (by omega), if_pos (by omega)]
        · rw [cmpL_drop_end _ _ _ _ (by omega) hk']
          unfold lessI
          by_cases h2 : k < ys.length
          · rw [if_pos h2, if_pos (by omega)]
          · rw [if_neg h2, if_neg (by omega), if_neg (by omega)]
      by_cases hlt1 : k < xs.length
      · have hlt2 : ys.length ≤ k := by omega
        clear hlt
        go_wp2_with fail
        refine (less_calls _ _ _).mono ?_
        rintro e w1 ⟨rfl, hf1⟩
        go_wp2_with fail
        refine bodyPost_ret (results_tmp rfl _ _ _) rfl ⟨?_, frm_trans hfr hf1⟩
        rw [HC.out, HE.out]
        rfl
      · clear hlt
        go_wp2_with fail
        refine (less_calls _ _ _).mono ?_
        rintro e w1 ⟨rfl, hf1⟩
        go_wp2_with fail
        refine bodyPost_ret (results_tmp rfl _ _ _) rfl ⟨?_, frm_trans hfr hf1⟩
        rw [HC.out, HE.out]
        rfl

set_option maxRecDepth 100000 in
set_option maxHeartbeats 1000000 in
theorem before_eq (s : Int) (xs ys : List (List Ty)) (IH : ∀ x ∈ xs, ∀ y ∈ ys, ∀ a ∈ x, ∀ b ∈ y, BeforeAt a b) (w : World) (v u : Value) (hx : SlO w 1 SetO xs v) (hy : SlO w 1 SetO ys u) :
    Calls Tryd.prog 53 #[.agg #[.int .i64 s, v], .agg #[.int .i64 s, u]] w (Ret w (.int .i64 (Ty.cmp (.mk s xs) (.mk s ys)))) := by
  have HEQ : Hid (Ty.cmp (.mk s xs) (.mk s ys) = cmpL (cmpL Ty.cmp) xs ys) := by unfold Hid; rw [Ty.cmp_mk, if_neg (by simp)]
  obtain ⟨A, c, rfl, hc, hm⟩ := hx.val
  obtain ⟨A', c', rfl, hc', hm'⟩ := hy.val
  have HI := Lib.hid IH
  clear IH
  have hne : (s != s) = false := by simp
  go_enter Tryd.func53, Tryd.ntmps53
  go_wp2_with fail
  have hfa : w.grownBy ((w.alloc (.cells #[.int .i64 s, .slice A xs.length c] 24)).alloc (.cells #[.int .i64 s, .slice A' ys.length c'] 24)) none := frm_then_alloc (frm_alloc _ _) _
  go_loopw [5] (fun i wr => ∃ k : Nat, k ≤ xs.length ∧ k ≤ ys.length ∧ i = .int .i64 k ∧ w.grownBy wr none ∧ TwoAt wr w.heap.size (.int .i64 s) (.slice A xs.length c) 24 ∧ TwoAt wr (w.heap.size + 1) (.int .i64 s) (.slice A' ys.length c') 24 ∧ Hid (cmpL (cmpL Ty.cmp) xs ys = cmpL (cmpL Ty.cmp) (xs.drop k) (ys.drop k))) (fun i _ => xs.length - (intOf i).toNat)
  case atStart => exact ⟨0, Nat.zero_le _, Nat.zero_le _, rfl, hfa, (TwoAt.new _ _ _ _).alloc _, TwoAt.new2 _ _ _ _ _, rfl⟩
  case round =>
    obtain ⟨k, hk, hk', rfl, hfr, hbx, hby, HC⟩ := hrel
    obtain ⟨x0, x1, _, _⟩ := hbx.cells
    obtain ⟨y0, y1, _, _⟩ := hby.cells
    by_cases hlt : k < xs.length ∧ k < ys.length
    · obtain ⟨hlt, hlt'⟩ := hlt
      obtain ⟨b, o, p0, rfl, hb, hp0, hpt⟩ := (hx.frm hfr stays_set).at1 k hlt
      obtain ⟨b2, o2, q0, rfl, hb2, hq0, hqt⟩ := (hy.frm hfr stays_set).at1 k hlt'
      have hd := Lib.hid (cmpL_drop (cmpL Ty.cmp) xs ys k hlt hlt')
      have ih := Lib.hid (fun (w : World) (v u : Value) => beforeSet_calls xs[k] ys[k] (HI.out _ (List.getElem_mem hlt) _ (List.getElem_mem hlt')) w v u)
      generalize xs[k] = x at *
      generalize ys[k] = y at *
      go_wp2_with fail
      go_still_tail 10, (by kernel_rfl)
      go_wp2_with fail
      refine (ih.out _ _ _ (SetO.sl (stays_set _ _ _ _ (frm_drew _) hpt)) (SetO.sl (stays_set _ _ _ _ (frm_drew _) hqt))).mono ?_
      rintro e w1 ⟨rfl, hf1⟩
      have hf := frm_trans hfr (frm_trans (frm_drew _) hf1)
      by_cases hz : cmpL Ty.cmp x y = 0
      · have hz' : (cmpL Ty.cmp x y != 0) = false := by simp [hz]
        have HZ := Lib.hid hz
        clear hz
        go_wp2_with fail
        refine ⟨⟨k + 1, by omega, by omega, by go_num, hf, hbx.frm (frm_trans (frm_drew _) hf1), hby.frm (frm_trans (frm_drew _) hf1), ?_⟩, by simp [intOf]; omega⟩
        have := HC.out
        rw [hd.out, if_neg (by simpa using HZ.out)] at this
        exact this
      · have hz' : (cmpL Ty.cmp x y != 0) = true := by simp [hz]
        go_wp2_with fail
        refine bodyPost_ret (results_tmp rfl _ _ _) rfl ⟨?_, hf⟩
        rw [HEQ.out, HC.out, hd.out, if_pos hz]
        rfl
    · have HE : Hid (cmpL (cmpL Ty.cmp) (xs.drop k) (ys.drop k) = lessI xs.length ys.length) := by
        unfold Hid
        by_cases h1 : k < xs.length
        · have h2 : ys.length ≤ k := by omega
          rw [cmpL_drop_short _ _ _ _ h1 h2]
          unfold lessI
          rw [if_neg (by omega), if_pos (by omega)]
        · rw [cmpL_drop_end _ _ _ _ (by omega) hk']
          unfold lessI
          by_cases h2 : k < ys.length
          · rw [if_pos h2, if_pos (by omega)]
          · rw [if_neg h2, if_neg (by omega), if_neg (by omega)]
      by_cases hlt1 : k < xs.length
      · have hlt2 : ys.length ≤ k := by omega
        clear hlt
        go_wp2_with fail
        refine (less_calls _ _ _).mono ?_
        rintro e w1 ⟨rfl, hf1⟩
        go_wp2_with fail
        refine bodyPost_ret (results_tmp rfl _ _ _) rfl ⟨?_, frm_trans hfr hf1⟩
        rw [HEQ.out, HC.out, HE.out]
        rfl
      · clear hlt
        go_wp2_with fail
        refine (less_calls _ _ _).mono ?_
        rintro e w1 ⟨rfl, hf1⟩
        go_wp2_with fail
        refine bodyPost_ret (results_tmp rfl _ _ _) rfl ⟨?_, frm_trans hfr hf1⟩
        rw [HEQ.out, HC.out, HE.out]
        rfl

set_option maxRecDepth 100000 in
theorem before_ne (s s' : Int) (xs ys : List (List Ty)) (hs : s ≠ s') (w : World) (v u : Value) (hx : SlO w 1 SetO xs v) (hy : SlO w 1 SetO ys u) :
    Calls Tryd.prog 53 #[.agg #[.int .i64 s, v], .agg #[.int .i64 s', u]] w (Ret w (.int .i64 (Ty.cmp (.mk s xs) (.mk s' ys)))) := by
  have hc := Lib.hid (Ty.cmp_mk s s' xs ys)
  obtain ⟨A, c, rfl, _, hm⟩ := hx.val
  obtain ⟨A', c', rfl, _, hm'⟩ := hy.val
  have hne : (s != s') = true := by simp [hs]
  by_cases hl : s < s'
  · go_enter Tryd.func53, Tryd.ntmps53
    go_wp2_with fail
    refine bodyPost_ret (results_tmp rfl _ _ _) rfl ⟨?_, frm_then_alloc (frm_alloc _ _) _⟩
    rw [hc.out, if_pos hs, if_pos hl]
    rfl
  · go_enter Tryd.func53, Tryd.ntmps53
    go_wp2_with fail
    refine bodyPost_ret (results_tmp rfl _ _ _) rfl ⟨?_, frm_then_alloc (frm_alloc _ _) _⟩
    rw [hc.out, if_pos hs, if_neg (by omega)]
    rfl

theorem before_calls : ∀ x y : Ty, BeforeAt x y := by
  intro x
  induction x using Ty.ind with
  | h s a ih =>
    rintro ⟨s', b⟩ w v0 v1 u0 u1 hx hy
    rw [TyO_mk] at hx hy
    obtain ⟨v, hv, h1, h2, hx⟩ := hx
    obtain ⟨u, hu, h3, h4, hy⟩ := hy
    obtain ⟨rfl, rfl⟩ : v0 = .int .i64 s ∧ v1 = v := by simpa using hv
    obtain ⟨rfl, rfl⟩ : u0 = .int .i64 s' ∧ u1 = u := by simpa using hu
    by_cases hs : s = s'
    · subst hs
      exact before_eq s a b (fun x hx y _ p hp q _ => ih x hx p hp q) w v1 u1 hx hy
    · exact before_ne s s' a b hs w v1 u1 hx hy
end Go.Proofs.YtmdgoalekkkpnaaDoor
