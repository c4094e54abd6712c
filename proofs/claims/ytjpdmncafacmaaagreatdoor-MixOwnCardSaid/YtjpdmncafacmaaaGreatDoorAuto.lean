/- Automata: their reading; the order of needs and of lists; rising lists; ranks. -/
import Derived.Test.YtjpdmncafacmaaaGreatDoorProg
import Derived.Test.YtjpdmncafacmaaaGreatDoorMore
set_option linter.unusedVariables false
set_option linter.unusedSimpArgs false
namespace Go.Proofs.YtjpdmncafacmaaaGreatDoor
open Go.RowKit

/-- New blocks, and draws forward. -/
def Grew (w w' : World) : Prop := w.grownBy w' none ∧ w.drawn ≤ w'.drawn
theorem grew_refl (w : World) : Grew w w := ⟨frm_refl _ _, Nat.le_refl _⟩
theorem grew_trans {w w1 w2 : World} (h : Grew w w1) (h' : Grew w1 w2) : Grew w w2 := ⟨frm_trans h.1 h'.1, Nat.le_trans h.2 h'.2⟩
theorem grew_alloc (w : World) (o : Obj) : Grew w (w.alloc o) := ⟨frm_alloc _ _, Nat.le_refl _⟩
theorem grew_then_alloc {w w1 : World} (h : Grew w w1) (o : Obj) : Grew w (w1.alloc o) := grew_trans h (grew_alloc _ _)
theorem grew_drew (w : World) : Grew w w.drew := ⟨frm_drew _, Nat.le_succ _⟩
def RetD (w : World) (v : Value) (e : Ending) (w' : World) : Prop := e = .returned v ∧ Grew w w'

/-! ### The order of lists -/
def cmpL {α : Type} (f : α → α → Int) : List α → List α → Int
  | [], [] => 0
  | [], _ :: _ => -1
  | _ :: _, [] => 1
  | x :: xs, y :: ys => if f x y ≠ 0 then f x y else cmpL f xs ys
theorem cmpL_drop {α : Type} (f : α → α → Int) (xs ys : List α) (k : Nat) (h : k < xs.length) (h' : k < ys.length) :
    cmpL f (xs.drop k) (ys.drop k) = if f xs[k] ys[k] ≠ 0 then f xs[k] ys[k] else cmpL f (xs.drop (k + 1)) (ys.drop (k + 1)) := by
  rw [List.drop_eq_getElem_cons h, List.drop_eq_getElem_cons h', cmpL]
theorem cmpL_drop_short {α : Type} (f : α → α → Int) (xs ys : List α) (k : Nat) (h : k < xs.length) (h' : ys.length ≤ k) : cmpL f (xs.drop k) (ys.drop k) = 1 := by
  rw [List.drop_eq_getElem_cons h, List.drop_eq_nil_of_le h', cmpL]
theorem cmpL_drop_end {α : Type} (f : α → α → Int) (xs ys : List α) (k : Nat) (h : xs.length ≤ k) (hk : k ≤ ys.length) : cmpL f (xs.drop k) (ys.drop k) = if k < ys.length then -1 else 0 := by
  rw [List.drop_eq_nil_of_le h]
  by_cases h' : k < ys.length
  · rw [List.drop_eq_getElem_cons h', cmpL, if_pos h']
  · rw [List.drop_eq_nil_of_le (by omega), cmpL, if_neg h']
/-- Each element before the next one. -/
def rise {α : Type} (f : α → α → Int) : List α → Bool
  | x :: y :: l => decide (f x y < 0) && rise f (y :: l)
  | _ => true
theorem rise_drop {α : Type} (f : α → α → Int) (xs : List α) (k : Nat) (h : k + 1 < xs.length) : rise f (xs.drop k) = (decide (f xs[k] xs[k + 1] < 0) && rise f (xs.drop (k + 1))) := by
  rw [List.drop_eq_getElem_cons (show k < xs.length by omega), List.drop_eq_getElem_cons h, rise]
theorem rise_drop_end {α : Type} (f : α → α → Int) (xs : List α) (k : Nat) (h : xs.length ≤ k + 1) : rise f (xs.drop k) = true := by
  have hl : (xs.drop k).length ≤ 1 := by simp; omega
  match xs.drop k, hl with
  | [], _ => rfl
  | [_], _ => rfl

/-! ### Needs -/
/-- A need: a kid, and a state. -/
abbrev Nd := Int × Int
def NdR : RdS Nd := fun _ _ n cs => cs = [.int .i64 n.1, .int .i64 n.2] ∧ (-9223372036854775808 ≤ n.1 ∧ n.1 ≤ 9223372036854775807) ∧ -9223372036854775808 ≤ n.2 ∧ n.2 ≤ 9223372036854775807
theorem moves_nd : Moves NdR := fun S S' w w' x cs hS hw h => h
/-- Lists of needs, of these, and so on: each behind one cell. -/
abbrev AltR : RdS (List Nd) := RowS 2 NdR
abbrev AltsR : RdS (List (List Nd)) := RowS 1 AltR
abbrev RuleR : RdS (List (List (List Nd))) := RowS 1 AltsR
abbrev MovesR : RdS (List (List (List (List Nd)))) := RowS 1 RuleR
theorem moves_alt : Moves AltR := moves_row moves_nd
theorem moves_alts : Moves AltsR := moves_row moves_alt
theorem moves_rule : Moves RuleR := moves_row moves_alts
theorem moves_moves : Moves MovesR := moves_row moves_rule
/-- An automaton. -/
structure Au where
  ranks : List Int
  start : Int
  moves : List (List (List (List Nd)))
def AuR : RdS Au := fun S w a cs => ∃ r m, cs = [r, .int .i64 a.start, m] ∧ RowS 1 IntR S w a.ranks [r] ∧ MovesR S w a.moves [m] ∧ -9223372036854775808 ≤ a.start ∧ a.start ≤ 9223372036854775807
theorem moves_au : Moves AuR := by
  rintro S S' w w' a cs hS hw ⟨r, m, h1, h2, h3, h4⟩
  exact ⟨r, m, h1, moves_row moves_int _ _ _ _ _ _ hS hw h2, moves_moves _ _ _ _ _ _ hS hw h3, h4⟩
/-- No number is large. -/
def Nd.small (n : Nd) : Prop := (0 ≤ n.1 ∧ n.1 ≤ 63) ∧ 0 ≤ n.2 ∧ n.2 ≤ 63
def Nd.cmp (a b : Nd) : Int := if a.1 ≠ b.1 then a.1 - b.1 else a.2 - b.2

set_option maxRecDepth 20000 in
theorem before_calls (a b : Nd) (ha : Nd.small a) (hb : Nd.small b) (w : World) :
    Calls Tryz.prog 73 #[.agg #[.int .i64 a.1, .int .i64 a.2], .agg #[.int .i64 b.1, .int .i64 b.2]] w (RetD w (.int .i64 (Nd.cmp a b))) := by
  obtain ⟨a1, a2⟩ := a
  obtain ⟨b1, b2⟩ := b
  obtain ⟨⟨h1, h2⟩, h3, h4⟩ := ha
  obtain ⟨⟨h5, h6⟩, h7, h8⟩ := hb
  simp only at h1 h2 h3 h4 h5 h6 h7 h8
  by_cases he : a1 = b1
  · subst he
    have hz : (a1 != a1) = false := by simp
    go_enter Tryz.func73, Tryz.ntmps73
    go_wp2_with fail
    refine bodyPost_ret (results_tmp rfl _ _ _) rfl ⟨?_, grew_then_alloc (grew_alloc _ _) _⟩
    simp only [Nd.cmp, ne_eq, not_true_eq_false, if_false]
    rfl
  · have hz : (a1 != b1) = true := by simp [he]
    have HE := Lib.hid he
    clear he
    go_enter Tryz.func73, Tryz.ntmps73
    go_wp2_with fail
    refine bodyPost_ret (results_tmp rfl _ _ _) rfl ⟨?_, grew_then_alloc (grew_alloc _ _) _⟩
    simp only [Nd.cmp, ne_eq, HE.out, not_false_eq_true, if_true]
    rfl

set_option maxRecDepth 20000 in
set_option maxHeartbeats 400000 in
theorem cmpAlt_calls (xs ys : List Nd) (hsx : ∀ x ∈ xs, Nd.small x) (hsy : ∀ y ∈ ys, Nd.small y) (w : World) (v u : Value) (hx : SlO w 2 (rdO NdR) xs v) (hy : SlO w 2 (rdO NdR) ys u) :
    Calls Tryz.prog 110 #[v, u, .func (.func 73) #[] #[]] w (RetD w (.int .i64 (cmpL Nd.cmp xs ys))) := by
  obtain ⟨A, c, rfl, hc, hm⟩ := hx.val
  obtain ⟨A', c', rfl, hc', hm'⟩ := hy.val
  have HX := Lib.hid hsx
  have HY := Lib.hid hsy
  clear hsx hsy
  go_enter Tryz.func110, Tryz.ntmps110
  go_wp2_with fail
  go_loopw [13] (fun i wr => ∃ k : Nat, k ≤ xs.length ∧ k ≤ ys.length ∧ i = .int .i64 k ∧ Grew w wr ∧ Hid (cmpL Nd.cmp xs ys = cmpL Nd.cmp (xs.drop k) (ys.drop k))) (fun i _ => xs.length - (intOf i).toNat)
  case atStart => exact ⟨0, Nat.zero_le _, Nat.zero_le _, rfl, grew_refl _, rfl⟩
  case round =>
    obtain ⟨k, hk, hk', rfl, hfr, HC⟩ := hrel
    by_cases hlt : k < xs.length
    · obtain ⟨b, o, p0, p1, rfl, hb, hp0, hp1, hpt⟩ := (hx.frm hfr.1 (stays_rd moves_nd)).at2 k hlt
      obtain ⟨hpv, _⟩ := hpt
      simp only [List.cons.injEq, and_true] at hpv
      obtain ⟨rfl, rfl⟩ := hpv
      by_cases hlt' : k < ys.length
      · obtain ⟨b2, o2, q0, q1, rfl, hb2, hq0, hq1, hqt⟩ := (hy.frm hfr.1 (stays_rd moves_nd)).at2 k hlt'
        obtain ⟨hqv, _⟩ := hqt
        simp only [List.cons.injEq, and_true] at hqv
        obtain ⟨rfl, rfl⟩ := hqv
        have hd := Lib.hid (cmpL_drop Nd.cmp xs ys k hlt hlt')
        have ih := Lib.hid (before_calls _ _ (HX.out _ (List.getElem_mem hlt)) (HY.out _ (List.getElem_mem hlt')))
        generalize xs[k] = x at *
        generalize ys[k] = y at *
        go_wp2_with fail
        refine (ih.out _).mono ?_
        rintro e w1 ⟨rfl, hf1⟩
        have hf := grew_trans hfr (grew_trans (grew_then_alloc (grew_alloc _ _) _) hf1)
        by_cases hz : Nd.cmp x y = 0
        · have hz' : (Nd.cmp x y != 0) = false := by simp [hz]
          have HZ := Lib.hid hz
          clear hz
          go_wp2_with fail
          refine ⟨⟨k + 1, by omega, by omega, by go_num, hf, ?_⟩, by simp [intOf]; omega⟩
          have := HC.out
          rw [hd.out, if_neg (by simpa using HZ.out)] at this
          exact this
        · have hz' : (Nd.cmp x y != 0) = true := by simp [hz]
          go_wp2_with fail
          refine bodyPost_ret (results_tmp rfl _ _ _) rfl ⟨?_, hf⟩
          rw [HC.out, hd.out, if_pos hz]
          rfl
      · go_wp2_with fail
        refine bodyPost_ret (results_tmp rfl _ _ _) rfl ⟨?_, grew_then_alloc hfr _⟩
        rw [HC.out, cmpL_drop_short _ _ _ _ hlt (by omega)]
        rfl
    · obtain rfl : k = xs.length := by omega
      have he := cmpL_drop_end Nd.cmp xs ys xs.length (Nat.le_refl _) hk'
      by_cases hl : xs.length < ys.length
      · rw [if_pos hl] at he
        go_wp2_with fail
        refine bodyPost_ret (results_tmp rfl _ _ _) rfl ⟨?_, hfr⟩
        rw [HC.out, he]
        rfl
      · rw [if_neg hl] at he
        go_wp2_with fail
        refine bodyPost_ret (results_tmp rfl _ _ _) rfl ⟨?_, hfr⟩
        rw [HC.out, he]
        rfl

theorem lists_calls (xs ys : List Nd) (hsx : ∀ x ∈ xs, Nd.small x) (hsy : ∀ y ∈ ys, Nd.small y) (w : World) (v u : Value) (hx : rdO AltR w xs [v]) (hy : rdO AltR w ys [u]) :
    Calls Tryz.prog 75 #[v, u] w (RetD w (.int .i64 (cmpL Nd.cmp xs ys))) := by
  have H := Lib.hid (cmpAlt_calls xs ys hsx hsy w v u (RowS.sl hx) (RowS.sl hy))
  clear hx hy hsx hsy
  go_enter Tryz.func75, Tryz.ntmps75
  go_wp2_with fail
  refine H.out.mono ?_
  rintro e w1 ⟨rfl, hf⟩
  go_wp2_with fail
  exact bodyPost_ret (results_tmp rfl _ _ _) rfl ⟨rfl, hf⟩
end Go.Proofs.YtjpdmncafacmaaaGreatDoor
