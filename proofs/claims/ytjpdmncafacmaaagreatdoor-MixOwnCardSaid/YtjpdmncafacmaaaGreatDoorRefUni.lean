/- The reference's Union. -/
import Derived.Test.YtjpdmncafacmaaaGreatDoorRefCopy
import Derived.Test.YtjpdmncafacmaaaGreatDoorRefCmp
set_option linter.unusedVariables false
set_option linter.unusedSimpArgs false
namespace Go.Proofs.YtjpdmncafacmaaaGreatDoor
open Go.RowKit

def uni : List Nd → List Nd → List Nd
  | [], b => b
  | x :: a, [] => x :: a
  | x :: a, y :: b => if Nd.sgn x y < 0 then x :: uni a (y :: b) else if 0 < Nd.sgn x y then y :: uni (x :: a) b else x :: uni a b
termination_by a b => a.length + b.length
theorem uni_nil_right (a : List Nd) : uni a [] = a := by
  cases a <;> unfold uni <;> rfl
theorem uni_left {a b : List Nd} {i k : Nat} (hi : i < a.length) (hk : b.length ≤ k) : uni (a.drop i) (b.drop k) = a[i] :: uni (a.drop (i + 1)) (b.drop k) := by
  rw [List.drop_eq_nil_of_le hk, uni_nil_right, uni_nil_right, List.drop_eq_getElem_cons hi]
theorem uni_right {a b : List Nd} {i k : Nat} (hi : a.length ≤ i) (hk : k < b.length) : uni (a.drop i) (b.drop k) = b[k] :: uni (a.drop i) (b.drop (k + 1)) := by
  rw [List.drop_eq_nil_of_le hi]
  unfold uni
  rw [List.drop_eq_getElem_cons hk]
theorem uni_lt {a b : List Nd} {i k : Nat} (hi : i < a.length) (hk : k < b.length) (h : Nd.sgn a[i] b[k] < 0) : uni (a.drop i) (b.drop k) = a[i] :: uni (a.drop (i + 1)) (b.drop k) := by
  rw [List.drop_eq_getElem_cons hi, List.drop_eq_getElem_cons hk, uni, if_pos h]
theorem uni_gt {a b : List Nd} {i k : Nat} (hi : i < a.length) (hk : k < b.length) (h : 0 < Nd.sgn a[i] b[k]) : uni (a.drop i) (b.drop k) = b[k] :: uni (a.drop i) (b.drop (k + 1)) := by
  rw [List.drop_eq_getElem_cons hi, List.drop_eq_getElem_cons hk, uni, if_neg (by omega), if_pos h]
theorem uni_eq {a b : List Nd} {i k : Nat} (hi : i < a.length) (hk : k < b.length) (h : Nd.sgn a[i] b[k] = 0) : uni (a.drop i) (b.drop k) = a[i] :: uni (a.drop (i + 1)) (b.drop (k + 1)) := by
  rw [List.drop_eq_getElem_cons hi, List.drop_eq_getElem_cons hk, uni, if_neg (by omega), if_neg (by omega)]
theorem uni_end {a b : List Nd} {i k : Nat} (hi : a.length ≤ i) (hk : b.length ≤ k) : uni (a.drop i) (b.drop k) = [] := by
  rw [List.drop_eq_nil_of_le hi, List.drop_eq_nil_of_le hk]
  unfold uni
  rfl

theorem two_at {w : World} {g : Nat} {v0 v1 : Value} {T : TypeId} (h : TwoAt w g v0 v1 T) : ∀ j u, ([v0, v1] : List Value)[j]? = some u → w.cell? ⟨g, j, none⟩ = some u := by
  intro j u hj
  match j with
  | 0 => simp at hj; subst hj; exact h.cells.1
  | 1 => simp at hj; subst hj; exact h.cells.2.1
  | j + 2 => simp at hj

set_option maxRecDepth 100000 in
set_option maxHeartbeats 2000000 in
theorem union_calls (a b : List Nd) (w : World) (v u : Value) (ha : rdO AltR w a [v]) (hb : rdO AltR w b [u]) (hla : a.length ≤ 1000) (hlb : b.length ≤ 1000) :
    Calls Tryz.prog 111 #[v, u] w fun e w' => ∃ z, e = .returned z ∧ Grew w w' ∧ Own NdR w' w.heap.size 80 2 (fun _ => True) z (uni a b) := by
  have hA := RowS.sl ha
  have hB := RowS.sl hb
  obtain ⟨A, c, rfl, hc, hm⟩ := hA.val
  obtain ⟨B, d, rfl, hd, hm'⟩ := hB.val
  clear ha hb
  go_enter Tryz.func111, Tryz.ntmps111
  go_wp2_with fail
  go_loopw [5, 6, 7] (fun z i k wr => ∃ (p q : Nat) (acc : List Nd), i = .int .i64 p ∧ k = .int .i64 q ∧ p ≤ a.length ∧ q ≤ b.length ∧ Grew w wr ∧ acc.length ≤ p + q ∧ Own NdR wr w.heap.size 80 2 (fun _ => True) z acc ∧ Hid (uni a b = acc ++ uni (a.drop p) (b.drop q))) (fun _ i k _ => a.length + b.length - (intOf i).toNat - (intOf k).toNat)
  case atStart => exact ⟨0, 0, [], rfl, rfl, Nat.zero_le _, Nat.zero_le _, grew_refl _, Nat.zero_le _, Own.nil _ _ _ _ _ _, rfl⟩
  case round =>
    obtain ⟨p, q, acc, rfl, rfl, hp, hq, hfr, hacc, hO, HC⟩ := hrel
    obtain ⟨Az, cz, he, hcz⟩ := hO.val
    subst he
    have HO := Lib.hid hO
    clear hO
    have p0 : (0 : Int) ≤ (p : Int) := by omega
    have q0 : (0 : Int) ≤ (q : Int) := by omega
    by_cases hltp : p < a.length
    · obtain ⟨bA, oA, x0, x1, hAe, hbA, hx0, hx1, hxt⟩ := (hA.frm hfr.1 (stays_rd moves_nd)).at2 p hltp
      subst hAe
      obtain ⟨hxv, hbx⟩ := hxt
      simp only [List.cons.injEq, and_true] at hxv
      obtain ⟨rfl, rfl⟩ := hxv
      have p1 : (p : Int) < a.length := by omega
      have p2 : decide (p < a.length) = true := by simp; omega
      have p3 : ((p : Int) == (a.length : Int)) = false := by rw [beq_eq_false_iff_ne]; omega
      have p4 : (p : Int) ≤ a.length := by omega
      have HUL := Lib.hid fun (h : b.length ≤ q) => uni_left (a := a) (b := b) hltp h
      have HULT := Lib.hid fun (hk : q < b.length) h => uni_lt (a := a) (b := b) hltp hk h
      have HUGT := Lib.hid fun (hk : q < b.length) h => uni_gt (a := a) (b := b) hltp hk h
      have HUEQ := Lib.hid fun (hk : q < b.length) h => uni_eq (a := a) (b := b) hltp hk h
      generalize a[p] = x at *
      by_cases hltq : q < b.length
      · obtain ⟨bB, oB, y0, y1, hBe, hbB, hy0, hy1, hyt⟩ := (hB.frm hfr.1 (stays_rd moves_nd)).at2 q hltq
        subst hBe
        obtain ⟨hyv, hby⟩ := hyt
        simp only [List.cons.injEq, and_true] at hyv
        obtain ⟨rfl, rfl⟩ := hyv
        have q1 : (q : Int) < b.length := by omega
        have q2 : decide (q < b.length) = true := by simp; omega
        have q3 : ((q : Int) == (b.length : Int)) = false := by rw [beq_eq_false_iff_ne]; omega
        have q4 : (q : Int) ≤ b.length := by omega
        replace HULT := Lib.hid (HULT.out hltq)
        replace HUGT := Lib.hid (HUGT.out hltq)
        replace HUEQ := Lib.hid (HUEQ.out hltq)
        clear HUL
        generalize b[q] = y at *
        have ih := Lib.hid fun (w' : World) => rbefore_calls x.1 x.2 y.1 y.2 w'
        have hbd := Nd.sgn_bd x y
        have hk0 : ∀ w', Grew wr w' → (Grew wr w' ∧ w'.cell? ⟨bA, oA + p * 2, none⟩ = some (.int .i64 x.1) ∧ w'.cell? ⟨bA, oA + p * 2 + 1, none⟩ = some (.int .i64 x.2) ∧ w'.cell? ⟨bB, oB + q * 2, none⟩ = some (.int .i64 y.1) ∧ w'.cell? ⟨bB, oB + q * 2 + 1, none⟩ = some (.int .i64 y.2)) := fun w' h => ⟨h, frm_cell h.1 hx0, frm_cell h.1 hx1, frm_cell h.1 hy0, frm_cell h.1 hy1⟩
        have HK0 := Lib.hid hk0
        have HG0 : Grew wr wr.drew := grew_drew _
        clear hk0 hx0 hx1 hy0 hy1
        go_wp2_with fail
        go_region_held3 (fun w' => Grew wr w' ∧ w'.cell? ⟨bA, oA + p * 2, none⟩ = some (.int .i64 x.1) ∧ w'.cell? ⟨bA, oA + p * 2 + 1, none⟩ = some (.int .i64 x.2) ∧ w'.cell? ⟨bB, oB + q * 2, none⟩ = some (.int .i64 y.1) ∧ w'.cell? ⟨bB, oB + q * 2 + 1, none⟩ = some (.int .i64 y.2)) (first | exact HK0.out _ (by assumption) | exact HK0.out _ (grew_trans (by assumption) (by assumption))) ((go_at_call 108; refine (ih.out _).mono ?_; rintro e w5 ⟨rfl, hfw⟩; have hG5 := grew_trans HG0 hfw))
        have hxy : Nd.sgn (x.1, x.2) (y.1, y.2) = Nd.sgn x y := rfl
        rw [hxy]
        clear hxy
        by_cases hz : Nd.sgn x y < 0
        · have hz1 : decide (Nd.sgn x y < 0) = true := by simp; omega
          rename_i hHeld
          obtain ⟨hwx, hx0, hx1, hy0, hy1⟩ := hHeld
          generalize w5 = wx at *
          have hGx := grew_trans hfr hwx
          have HC2 : Hid (uni a b = (acc ++ [x]) ++ uni (a.drop (p + 1)) (b.drop (q))) := by
            unfold Hid
            rw [HC.out, HULT.out hz, List.append_assoc]
            rfl
          clear HULT HUGT HUEQ
          repeat ((fail_if_success at_builtin); first | go_values | go_skip | go_guarded | go_step | go_upon)
          have hf5 := grew_then_alloc hwx (.cells #[.int .i64 x.1, .int .i64 x.2] 80)
          have hO5 := HO.out.kept moves_nd hf5.1 (ownNone _) (by simp)
          have htw := TwoAt.new wx (.int .i64 x.1) (.int .i64 x.2) 80
          have hltO := HO.out.lt
          have hs5 := hf5.1.size
          have hsr := hfr.1.size
          refine Own.app1 moves_nd elem_nd hO5 rfl _ _ rfl rfl rfl x [.int .i64 x.1, .int .i64 x.2] rfl (two_at htw) ?_ ⟨rfl, hbx⟩ (by omega) (by omega) (by omega) ?_
          · intro u hu
            simp at hu
            rcases hu with rfl | rfl <;> rfl
          intro v7 w7 hO7 hg7 hp7
          have hfr7 : Grew w w7 := grew_own (grew_trans hfr hf5) (fun b hb => (hltO b hb).1) hg7.1 hg7.2
          obtain ⟨A7, c7, he7, hcc7⟩ := hO7.val
          rw [List.length_append, List.length_singleton] at he7
          have HO7 := Lib.hid hO7
          clear hO7 hO5 htw hltO
          subst he7
          go_wp2_with fail
          exact ⟨⟨p + 1, q, acc ++ [x], by go_num, by go_num, by omega, by omega, hfr7, by rw [List.length_append, List.length_singleton]; omega, HO7.out, HC2.out⟩, by simp [intOf]; omega⟩
        · have hz1 : decide (Nd.sgn x y < 0) = false := by simp; omega
          go_wp2_with fail
          have HG6 : Grew wr w5.drew := grew_trans hG5 (grew_drew _)
          go_region_held3 (fun w' => Grew wr w' ∧ w'.cell? ⟨bA, oA + p * 2, none⟩ = some (.int .i64 x.1) ∧ w'.cell? ⟨bA, oA + p * 2 + 1, none⟩ = some (.int .i64 x.2) ∧ w'.cell? ⟨bB, oB + q * 2, none⟩ = some (.int .i64 y.1) ∧ w'.cell? ⟨bB, oB + q * 2 + 1, none⟩ = some (.int .i64 y.2)) (first | exact HK0.out _ (by assumption) | exact HK0.out _ (grew_trans (by assumption) (by assumption))) ((go_at_call 108; refine (ih.out _).mono ?_; rintro e w6 ⟨rfl, hfw6⟩; have hG7 := grew_trans HG6 hfw6))
          have hxy : Nd.sgn (x.1, x.2) (y.1, y.2) = Nd.sgn x y := rfl
          rw [hxy]
          clear hxy
          rename_i hHeld
          obtain ⟨hwx, hx0, hx1, hy0, hy1⟩ := hHeld
          generalize w6 = wx at *
          by_cases hz2 : 0 < Nd.sgn x y
          · have hz3 : decide (0 < Nd.sgn x y) = true := by simp; omega
            have hGx := grew_trans hfr hwx
            have HC2 : Hid (uni a b = (acc ++ [y]) ++ uni (a.drop (p)) (b.drop (q + 1))) := by
              unfold Hid
              rw [HC.out, HUGT.out hz2, List.append_assoc]
              rfl
            clear HULT HUGT HUEQ
            repeat ((fail_if_success at_builtin); first | go_values | go_skip | go_guarded | go_step | go_upon)
            have hf5 := grew_then_alloc hwx (.cells #[.int .i64 y.1, .int .i64 y.2] 80)
            have hO5 := HO.out.kept moves_nd hf5.1 (ownNone _) (by simp)
            have htw := TwoAt.new wx (.int .i64 y.1) (.int .i64 y.2) 80
            have hltO := HO.out.lt
            have hs5 := hf5.1.size
            have hsr := hfr.1.size
            refine Own.app1 moves_nd elem_nd hO5 rfl _ _ rfl rfl rfl y [.int .i64 y.1, .int .i64 y.2] rfl (two_at htw) ?_ ⟨rfl, hby⟩ (by omega) (by omega) (by omega) ?_
            · intro u hu
              simp at hu
              rcases hu with rfl | rfl <;> rfl
            intro v7 w7 hO7 hg7 hp7
            have hfr7 : Grew w w7 := grew_own (grew_trans hfr hf5) (fun b hb => (hltO b hb).1) hg7.1 hg7.2
            obtain ⟨A7, c7, he7, hcc7⟩ := hO7.val
            rw [List.length_append, List.length_singleton] at he7
            have HO7 := Lib.hid hO7
            clear hO7 hO5 htw hltO
            subst he7
            go_wp2_with fail
            exact ⟨⟨p, q + 1, acc ++ [y], by go_num, by go_num, by omega, by omega, hfr7, by rw [List.length_append, List.length_singleton]; omega, HO7.out, HC2.out⟩, by simp [intOf]; omega⟩
          · have hz3 : decide (0 < Nd.sgn x y) = false := by simp; omega
            have hGx := grew_trans hfr hwx
            have HC2 : Hid (uni a b = (acc ++ [x]) ++ uni (a.drop (p + 1)) (b.drop (q + 1))) := by
              unfold Hid
              rw [HC.out, HUEQ.out (by omega), List.append_assoc]
              rfl
            clear HULT HUGT HUEQ
            repeat ((fail_if_success at_builtin); first | go_values | go_skip | go_guarded | go_step | go_upon)
            have hf5 := grew_then_alloc hwx (.cells #[.int .i64 x.1, .int .i64 x.2] 80)
            have hO5 := HO.out.kept moves_nd hf5.1 (ownNone _) (by simp)
            have htw := TwoAt.new wx (.int .i64 x.1) (.int .i64 x.2) 80
            have hltO := HO.out.lt
            have hs5 := hf5.1.size
            have hsr := hfr.1.size
            refine Own.app1 moves_nd elem_nd hO5 rfl _ _ rfl rfl rfl x [.int .i64 x.1, .int .i64 x.2] rfl (two_at htw) ?_ ⟨rfl, hbx⟩ (by omega) (by omega) (by omega) ?_
            · intro u hu
              simp at hu
              rcases hu with rfl | rfl <;> rfl
            intro v7 w7 hO7 hg7 hp7
            have hfr7 : Grew w w7 := grew_own (grew_trans hfr hf5) (fun b hb => (hltO b hb).1) hg7.1 hg7.2
            obtain ⟨A7, c7, he7, hcc7⟩ := hO7.val
            rw [List.length_append, List.length_singleton] at he7
            have HO7 := Lib.hid hO7
            clear hO7 hO5 htw hltO
            subst he7
            go_wp2_with fail
            exact ⟨⟨p + 1, q + 1, acc ++ [x], by go_num, by go_num, by omega, by omega, hfr7, by rw [List.length_append, List.length_singleton]; omega, HO7.out, HC2.out⟩, by simp [intOf]; omega⟩
      · have q1 : decide (q < b.length) = false := by simp; omega
        have q3 : ((q : Int) == (b.length : Int)) = true := by rw [beq_iff_eq]; omega
        have q5 : (b.length : Int) ≤ (q : Int) := by omega
        go_wp2_with fail
        go_quiet (fail)
        have hwx : Grew wr (wr.drewN nq) := ⟨frm_drewN _ nq, Nat.le_add_right _ _⟩
        replace hx0 := frm_cell hwx.1 hx0
        replace hx1 := frm_cell hwx.1 hx1
        generalize wr.drewN nq = wx at *
        have hGx := grew_trans hfr hwx
        have HC2 : Hid (uni a b = (acc ++ [x]) ++ uni (a.drop (p + 1)) (b.drop (q))) := by
          unfold Hid
          rw [HC.out, HUL.out (by omega), List.append_assoc]
          rfl
        clear HUL HULT HUGT HUEQ
        repeat ((fail_if_success at_builtin); first | go_values | go_skip | go_guarded | go_step | go_upon)
        have hf5 := grew_then_alloc hwx (.cells #[.int .i64 x.1, .int .i64 x.2] 80)
        have hO5 := HO.out.kept moves_nd hf5.1 (ownNone _) (by simp)
        have htw := TwoAt.new wx (.int .i64 x.1) (.int .i64 x.2) 80
        have hltO := HO.out.lt
        have hs5 := hf5.1.size
        have hsr := hfr.1.size
        refine Own.app1 moves_nd elem_nd hO5 rfl _ _ rfl rfl rfl x [.int .i64 x.1, .int .i64 x.2] rfl (two_at htw) ?_ ⟨rfl, hbx⟩ (by omega) (by omega) (by omega) ?_
        · intro u hu
          simp at hu
          rcases hu with rfl | rfl <;> rfl
        intro v7 w7 hO7 hg7 hp7
        have hfr7 : Grew w w7 := grew_own (grew_trans hfr hf5) (fun b hb => (hltO b hb).1) hg7.1 hg7.2
        obtain ⟨A7, c7, he7, hcc7⟩ := hO7.val
        rw [List.length_append, List.length_singleton] at he7
        have HO7 := Lib.hid hO7
        clear hO7 hO5 htw hltO
        subst he7
        go_wp2_with fail
        exact ⟨⟨p + 1, q, acc ++ [x], by go_num, by go_num, by omega, by omega, hfr7, by rw [List.length_append, List.length_singleton]; omega, HO7.out, HC2.out⟩, by simp [intOf]; omega⟩
    · have p1 : decide (p < a.length) = false := by simp; omega
      have p3 : ((p : Int) == (a.length : Int)) = true := by rw [beq_iff_eq]; omega
      have p5 : (a.length : Int) ≤ (p : Int) := by omega
      by_cases hltq : q < b.length
      · obtain ⟨bB, oB, y0, y1, hBe, hbB, hy0, hy1, hyt⟩ := (hB.frm hfr.1 (stays_rd moves_nd)).at2 q hltq
        subst hBe
        obtain ⟨hyv, hby⟩ := hyt
        simp only [List.cons.injEq, and_true] at hyv
        obtain ⟨rfl, rfl⟩ := hyv
        have q1 : (q : Int) < b.length := by omega
        have q2 : decide (q < b.length) = true := by simp; omega
        have q3 : ((q : Int) == (b.length : Int)) = false := by rw [beq_eq_false_iff_ne]; omega
        have q4 : (q : Int) ≤ b.length := by omega
        have HUR := Lib.hid fun (h : a.length ≤ p) => uni_right (a := a) (b := b) h hltq
        generalize b[q] = y at *
        go_wp2_with fail
        go_quiet (fail)
        have hwy : Grew wr (wr.drewN nq) := ⟨frm_drewN _ nq, Nat.le_add_right _ _⟩
        replace hy0 := frm_cell hwy.1 hy0
        replace hy1 := frm_cell hwy.1 hy1
        generalize wr.drewN nq = wy at *
        go_wp2_with fail
        go_quiet (fail)
        have hwx : Grew wr (wy.drewN nq) := grew_trans hwy ⟨frm_drewN _ _, Nat.le_add_right _ _⟩
        replace hy0 := frm_cell (frm_drewN wy nq) hy0
        replace hy1 := frm_cell (frm_drewN wy nq) hy1
        generalize wy.drewN nq = wx at *
        have hGx := grew_trans hfr hwx
        have HC2 : Hid (uni a b = (acc ++ [y]) ++ uni (a.drop (p)) (b.drop (q + 1))) := by
          unfold Hid
          rw [HC.out, HUR.out (by omega), List.append_assoc]
          rfl
        clear HUR
        repeat ((fail_if_success at_builtin); first | go_values | go_skip | go_guarded | go_step | go_upon)
        have hf5 := grew_then_alloc hwx (.cells #[.int .i64 y.1, .int .i64 y.2] 80)
        have hO5 := HO.out.kept moves_nd hf5.1 (ownNone _) (by simp)
        have htw := TwoAt.new wx (.int .i64 y.1) (.int .i64 y.2) 80
        have hltO := HO.out.lt
        have hs5 := hf5.1.size
        have hsr := hfr.1.size
        refine Own.app1 moves_nd elem_nd hO5 rfl _ _ rfl rfl rfl y [.int .i64 y.1, .int .i64 y.2] rfl (two_at htw) ?_ ⟨rfl, hby⟩ (by omega) (by omega) (by omega) ?_
        · intro u hu
          simp at hu
          rcases hu with rfl | rfl <;> rfl
        intro v7 w7 hO7 hg7 hp7
        have hfr7 : Grew w w7 := grew_own (grew_trans hfr hf5) (fun b hb => (hltO b hb).1) hg7.1 hg7.2
        obtain ⟨A7, c7, he7, hcc7⟩ := hO7.val
        rw [List.length_append, List.length_singleton] at he7
        have HO7 := Lib.hid hO7
        clear hO7 hO5 htw hltO
        subst he7
        go_wp2_with fail
        exact ⟨⟨p, q + 1, acc ++ [y], by go_num, by go_num, by omega, by omega, hfr7, by rw [List.length_append, List.length_singleton]; omega, HO7.out, HC2.out⟩, by simp [intOf]; omega⟩
      · have hE : Hid (uni a b = acc) := by
          unfold Hid
          rw [HC.out, uni_end (by omega) (by omega), List.append_nil]
        go_wp2_with fail
        refine bodyPost_ret (v := .slice Az acc.length cz) (by simp [results, Tryz.results111, go_sem]) rfl ⟨_, rfl, hfr, ?_⟩
        rw [hE.out]
        exact HO.out
end Go.Proofs.YtjpdmncafacmaaaGreatDoor
