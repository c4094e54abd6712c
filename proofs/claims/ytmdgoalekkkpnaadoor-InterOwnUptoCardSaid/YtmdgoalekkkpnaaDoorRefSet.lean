/- The reference's Set: insertion into a rising list. -/
import Derived.Test.YtmdgoalekkkpnaaDoorOwnAll
import Derived.Test.YtmdgoalekkkpnaaDoorSetI
import Derived.Test.YtmdgoalekkkpnaaDoorCopy
import Derived.Test.YtmdgoalekkkpnaaDoorRefCmp
import Derived.Test.YtmdgoalekkkpnaaDoorNodes
import Derived.Test.YtmdgoalekkkpnaaDoorLeast
import Derived.Deep.DeepCutAuto
import Derived.Deep.CutBlock
import Derived.StillTailTactics
set_option linter.unusedVariables false
set_option linter.unusedSimpArgs false
namespace Go.Proofs.YtmdgoalekkkpnaaDoor
open Go.RowKit

theorem any_take_succ {α : Type} (f : α → Bool) (l : List α) (k : Nat) (h : k < l.length) : (l.take (k + 1)).any f = ((l.take k).any f || f l[k]) := by
  rw [List.take_succ_eq_append_getElem h, List.any_append]
  simp
set_option maxRecDepth 100000 in
theorem listed_calls (l : List Ty) (w : World) (v : Value) (hv : SetO w l [v]) : Calls Tryd.prog 69 #[v] w (Ret w (.int .i64 (setE l))) := by
  have hs := SetO.sl hv
  obtain ⟨A, c, rfl, hc, hm⟩ := hs.val
  have HS := Lib.hid hs
  clear hs hv
  by_cases hlong : 4096 < l.length
  · have hE : Hid (setE l = 3) := by unfold Hid setE; rw [if_pos hlong]
    have hl2 : (4096 : Int) < l.length := by omega
    go_enter Tryd.func69, Tryd.ntmps69
    go_wp2_with fail
    exact bodyPost_ret (results_tmp rfl _ _ _) rfl ⟨by rw [hE.out]; rfl, frm_refl _ _⟩
  · have hl2 : ¬ (4096 : Int) < l.length := by omega
    go_enter Tryd.func69, Tryd.ntmps69
    go_wp2_with fail
    go_loopw [10] (fun i wr => ∃ k : Nat, k ≤ l.length ∧ i = .int .i64 k ∧ w.grownBy wr none ∧ Hid ((l.take k).any Ty.large = false)) (fun i _ => l.length - (intOf i).toNat)
    case atStart => exact ⟨0, Nat.zero_le _, rfl, frm_refl _ _, rfl⟩
    case round =>
      obtain ⟨k, hk, rfl, hfr, HA⟩ := hrel
      by_cases hlt : k < l.length
      · obtain ⟨b, o, p0, p1, rfl, hb, hp0, hp1, hpt⟩ := (HS.out.frm hfr stays_ty).at2 k hlt
        obtain ⟨s1, A1, n1, c1, rfl, rfl⟩ := hpt.vals
        have HP := Lib.hid hpt
        have hs := Lib.hid (any_take_succ Ty.large l k hlt)
        have hmem : l[k] ∈ l := List.getElem_mem hlt
        clear hpt
        generalize l[k] = t at *
        go_wp2_with fail
        refine (rlarge_calls t _ _ _ (stays_ty _ _ _ _ (frm_alloc _ _) HP.out)).mono ?_
        rintro e w1 ⟨rfl, hf1⟩
        have hfr2 := frm_trans hfr (frm_trans (frm_alloc _ _) hf1)
        cases hl : t.large
        · have HN : Hid ((l.take (k + 1)).any Ty.large = false) := by unfold Hid; rw [hs.out, HA.out, hl]; rfl
          clear hl
          go_wp2_with fail
          exact ⟨⟨k + 1, by omega, by go_num, hfr2, HN⟩, by simp [intOf]; omega⟩
        · have hE : Hid (setE l = 12) := by
            unfold Hid setE
            rw [if_neg hlong, if_pos (List.any_eq_true.2 ⟨t, hmem, hl⟩)]
          clear hl
          go_wp2_with fail
          exact bodyPost_ret (results_tmp rfl _ _ _) rfl ⟨by rw [hE.out]; rfl, hfr2⟩
      · obtain rfl : k = l.length := by omega
        have hE : Hid (setE l = 0) := by
          have := HA.out
          rw [List.take_length] at this
          unfold Hid setE
          rw [if_neg hlong, this, if_neg (by simp)]
        go_wp2_with fail
        exact bodyPost_ret (results_tmp rfl _ _ _) rfl ⟨by rw [hE.out]; rfl, hfr⟩

/-! ### Insertion -/
theorem insL_drop {f : Ty → Ty → Int} (x : Ty) : ∀ (s : List Ty) (k : Nat), k ≤ s.length → (∀ j (h : j < s.length), j < k → f s[j] x < 0) → insL f x s = s.take k ++ insL f x (s.drop k)
  | s, 0, _, _ => by simp
  | [], k + 1, h, _ => by simp at h
  | y :: s, k + 1, h, hlt => by
    have h0 := hlt 0 (by simp) (by omega)
    simp only [List.getElem_cons_zero] at h0
    rw [List.take_succ_cons, List.drop_succ_cons, insL, if_pos h0, insL_drop x s k (by simpa using h) (fun j hj hjk => by have h9 := hlt (j + 1) (by simpa using hj) (by omega); rw [List.getElem_cons_succ] at h9; exact h9)]
    rfl
theorem oneCell_ty {S : Nat → Prop} {w : World} {x : Ty} {cs : List Value} (h : TyR S w x cs) : ∀ u ∈ cs, u.oneCell' = true := by
  obtain ⟨v0, v1, rfl⟩ := TyR_len h
  obtain ⟨st, A, n, c, rfl, rfl⟩ := h.vals
  intro u hu
  simp at hu
  rcases hu with rfl | rfl <;> rfl

theorem run_append_zero2 {P : Program} {w : World} {base : Nat} {t ty e : TypeId} {i : TypeInfo} {k n : Nat} {v : Value} {xs : List Value} (ht : P.underlying t = some (.slice e)) (hi : P.info? e = some i) (hown : w.ownsRow base e k v n xs) (a : Addr) (c : Nat) :
    (Builtin.append_ #[t, t] ty #[v, .slice (some a) 0 c]).run P w = .ok v w := by
  have hf : (Builtin.firstCells i.size 0 (.slice (some a) 0 c)).run P w = .ok #[] w := by
    simpa using run_firstCells_some (P := P) w i.size 0 a 0 c [] (by simp) (by simp)
  rcases hown.2 with ⟨rfl, rfl⟩ | ⟨g, cap, cur, rfl, _, _, hnc, _⟩
  · simp [Builtin.append_, run_underlying ht, sizeOf, typeInfo, hi, Builtin.lenOf, hf]
  · simp [Builtin.append_, run_underlying ht, sizeOf, typeInfo, hi, Builtin.lenOf, hf, hnc, storeCells]
theorem append_list {P : Program} {ops : Array Oper} {rest : List Oper} {o : Oper} {a : Act} {w : World} {Q : Exit → Act → World → Prop} (s x : Operand) {t : TypeId} {v sl v' : Value} {w' : World}
    (hgd : o.guard = none) (ho : o.op = .call { callee := .builtin .append, args := #[s, x], argTypes := #[t, t] }) (hs : a.eval s = v) (hx : a.eval x = sl)
    (hrun : (Builtin.append_ #[t, t] o.type #[v, sl]).run P w = .ok v' w') (h : wpList P ops Q rest (a.put o.dst v') w') : wpList P ops Q (o :: rest) a w := by
  refine wpList_plain hgd fun K hK => ?_
  exact append_wp s x ho hs hx hrun (hK _ _ h)
/-- The end of a slice. -/
theorem Sl.drop {α : Type} {S : Nat → Prop} {w : World} {r : α → List Value → Prop} {xs : List α} {b o n c k : Nat} (h : Sl S w 2 r xs (.slice (some ⟨b, o, none⟩) n c)) (hk : k < xs.length) :
    Sl S w 2 r (xs.drop k) (.slice (some ⟨b, o + k * 2, none⟩) (xs.length - k) (c - k)) := by
  obtain ⟨A', c', he, hc, hm, hp⟩ := h
  injection he with h1 h2 h3
  subst h3
  obtain ⟨b', o', ha, hb, hcs⟩ := hp (by omega)
  rw [← h1] at ha
  injection ha with ha
  injection ha with e1 e2 _
  subst e1 e2
  refine ⟨_, c - k, by rw [List.length_drop], by rw [List.length_drop]; omega, by rw [List.length_drop]; omega, fun h0 => ⟨b, o + k * 2, rfl, hb, fun i hi => ?_⟩⟩
  rw [List.length_drop] at hi
  obtain ⟨cs, q1, q2, q3⟩ := hcs (k + i) (by omega)
  refine ⟨cs, q1, fun j hj => ?_, by rw [List.getElem_drop]; exact q3⟩
  rw [← q2 j hj]
  congr 2
  omega
/-- A list's slice that starts a block. -/
def OwnVal {α : Type} (xs : List α) (v : Value) : Prop := (xs.length = 0 ∧ v = .slice none 0 0) ∨ ∃ g c, v = .slice (some ⟨g, 0, none⟩) xs.length c
theorem Own.ownVal {α : Type} {r : RdS α} {w : World} {base e k : Nat} {ok : Nat → Prop} {v : Value} {xs : List α} (h : Own r w base e k ok v xs) : OwnVal xs v := by
  obtain ⟨inner, ⟨hl, ho⟩, _⟩ := h
  rcases ho with ⟨h, h0⟩ | ⟨g, cap, cur, h, _⟩
  · exact .inl ⟨h0, h⟩
  · exact .inr ⟨g, cap, h⟩

set_option maxRecDepth 100000 in
set_option maxHeartbeats 2000000 in
theorem insert_calls (s : List Ty) (x : Ty) (w : World) (v x0 x1 : Value) (hv : SetO w s [v]) (hvv : OwnVal s v) (hx : TyO w x [x0, x1]) (hb : (s.length + 1) * 32 ≤ 140737488351232) :
    Calls Tryd.prog 70 #[v, .agg #[x0, x1]] w fun e w' => ∃ u, e = .returned u ∧ w.grownBy w' none ∧ SetO w' (insL Ty.cmp x s) [u] ∧ OwnVal (insL Ty.cmp x s) u := by
  have hs := SetO.sl hv
  obtain ⟨A, c, rfl, hc, hm⟩ := hs.val
  obtain ⟨xs, xA, xn, xc, rfl, rfl⟩ := hx.vals
  have HS := Lib.hid hs
  have HX := Lib.hid hx
  have HVV := Lib.hid hvv
  clear hs hv hx hvv
  have xb : TwoAt (w.alloc (.cells #[.int .i64 xs, .slice xA xn xc] 24)) w.heap.size (.int .i64 xs) (.slice xA xn xc) 24 := TwoAt.new _ _ _ _
  have hf0 := frm_alloc w (.cells #[.int .i64 xs, .slice xA xn xc] 24)
  go_enter Tryd.func70, Tryd.ntmps70
  go_wp2_with fail
  go_loopw [5, 6] (fun u i wr => ∃ k : Nat, k ≤ s.length ∧ i = .int .i64 k ∧ w.grownBy wr none ∧ TwoAt wr w.heap.size (.int .i64 xs) (.slice xA xn xc) 24 ∧ Own TyR wr (w.heap.size + 1) 24 2 (fun b => b < w.heap.size) u (s.take k) ∧ Hid (insL Ty.cmp x s = s.take k ++ insL Ty.cmp x (s.drop k))) (fun _ i _ => s.length - (intOf i).toNat)
  case atStart => exact ⟨0, Nat.zero_le _, rfl, hf0, xb, Own.nil _ _ _ _ _ _, by unfold Hid; simp⟩
  case round =>
    obtain ⟨k, hk, rfl, hfr, hbx, hO, HI⟩ := hrel
    -- BEGIN
    obtain ⟨Au, cu, hAu, hcu⟩ := hO.val
    have hlk : (s.take k).length = k := by rw [List.length_take]; omega
    rw [hlk] at hAu hcu
    subst hAu
    by_cases hlt : k < s.length
    · obtain ⟨b, o, p0, p1, rfl, hb0, hp0, hp1, hpt⟩ := (HS.out.move (S' := fun b => b < w.heap.size) (w' := wr) (r' := TyR (fun b => b < w.heap.size) wr) (fun b hb => hb) (fun b hb => frm_lt hfr b hb) (fun t _ cs h => h.move (fun b hb => hb) (fun b hb => frm_lt hfr b hb))).at2 k hlt
      obtain ⟨s1, A1, n1, c1, rfl, rfl⟩ := hpt.vals
      have HPt := Lib.hid hpt
      have hsz := hfr.size
      have HP := Lib.hid (TyR.move (w := wr) (S' := fun b => b < wr.drew.heap.size) (w' := wr.drew) (fun b hb => Nat.lt_of_lt_of_le hb hsz) (fun b hb => rfl) hpt)
      have htk := Lib.hid (List.take_succ_eq_append_getElem hlt)
      have hdk := Lib.hid (List.drop_eq_getElem_cons hlt)
      have hfd := frm_trans hfr (frm_drew wr)
      clear hpt
      generalize s[k] = y at *
      obtain ⟨x0, x1, _, _⟩ := hbx.cells
      have hxl := hbx.lt
      go_wp2_with fail
      go_still_tail 10, (by kernel_rfl)
      go_wp2_with fail
      refine (before_calls y x _ _ _ _ _ HP.out (stays_ty _ _ _ _ hfd HX.out)).mono ?_
      rintro e w1 ⟨rfl, hf1⟩
      have hd1 := frm_trans (frm_drew wr) hf1
      have hfr1 := frm_trans hfr hd1
      have hbx1 := hbx.frm hd1
      have hO1 := hO.kept moves_ty hd1 (ownNone _) (by simp)
      have hc0 := frm_cell hd1 hp0
      have hc1 := frm_cell hd1 hp1
      clear hp0 hp1 x0 x1
      obtain ⟨x0, x1, _, _⟩ := hbx1.cells
      by_cases hcm : Ty.cmp y x < 0
      · have HN : Hid (insL Ty.cmp x s = s.take (k + 1) ++ insL Ty.cmp x (s.drop (k + 1))) := by
          unfold Hid
          rw [HI.out, hdk.out, insL, if_pos hcm, htk.out, List.append_assoc]
          rfl
        dsimp only
        repeat ((fail_if_success at_builtin); first | go_values | go_skip | go_guarded | go_step | go_upon)
        have hf6 := frm_alloc w1 (.cells #[.int .i64 s1, .slice A1 n1 c1] 24)
        have hO5 := hO1.kept moves_ty hf6 (ownNone _) (by simp)
        have htw := TwoAt.new w1 (.int .i64 s1) (.slice A1 n1 c1) 24
        have hlt5 := hO1.lt
        refine Own.append1 moves_ty elem_ty hO5 rfl _ _ rfl rfl rfl y [.int .i64 s1, .slice A1 n1 c1] rfl ?_ ?_ ?_ (by first | omega | (simp only [List.length_append, List.length_cons, List.length_nil]; omega)) (by omega) (by have := hfr1.size; simp; omega) ?_
        · intro j u hj
          match j with
          | 0 => simp at hj; subst hj; exact htw.cells.1
          | 1 => simp at hj; subst hj; exact htw.cells.2.1
          | j + 2 => simp at hj
        · intro u hu
          simp at hu
          rcases hu with rfl | rfl <;> rfl
        · exact ((HPt.out.move (S' := fun b => b < w.heap.size) (fun b hb => hb) (fun b hb => frm_lt hd1 b (Nat.lt_of_lt_of_le hb hsz))).move (S' := fun b => b < w.heap.size) (fun b hb => hb) (fun b hb => frm_lt hf6 b (Nat.lt_of_lt_of_le hb hfr1.size))).move (fun b hb => ⟨hb, by have := hfr1.size; simp; omega, fun e => by have := (hlt5 b e.symm).1; omega⟩) (fun b hb => rfl)
        intro v7 w7 hO8 hg7 hp7
        have hfr7 := frm_own (frm_trans hfr1 hf6) (fun b hb => by have := (hlt5 b hb).1; omega) hg7
        have hbx7 := (hbx1.frm hf6).frm_row hg7 (fun e => by have := (hlt5 _ e).1; omega)
        obtain ⟨A7, c7, rfl, _⟩ := hO8.val
        rw [← htk.out] at hO8
        go_wp2_with fail
        refine ⟨⟨k + 1, by omega, by go_num, hfr7, hbx7, ?_, HN⟩, by simp [intOf]; omega⟩
        have hl8 : (s.take (k + 1)).length = k + 1 := by rw [List.length_take]; omega
        rw [hl8] at hO8
        simpa [hlk] using hO8
      · have HC := Lib.hid hcm
        have hc2 : ¬ Ty.cmp y x < 0 := hcm
        have hne : ((k : Int) == (s.length : Int)) = false := by simp; omega
        have hne2 : (k == s.length) = false := by simp; omega
        have HP1 := Lib.hid (TyR.move (w := wr) (S' := fun b => b < w1.drew.heap.size) (w' := w1.drew) (fun b hb => by have := hfr1.size; show b < w1.heap.size; omega) (fun b hb => frm_lt hd1 b (Nat.lt_of_lt_of_le hb hsz)) HPt.out)
        have hxl1 := hbx1.lt
        clear hcm
        go_wp2_with fail
        go_still_tail 10, (by kernel_rfl)
        go_wp2_with fail
        refine (before_calls y x _ _ _ _ _ HP1.out (stays_ty _ _ _ _ (frm_trans hfr1 (frm_drew _)) HX.out)).mono ?_
        rintro e w2 ⟨rfl, hf2⟩
        have hd2 := frm_trans (frm_drew w1) hf2
        have hfr2 := frm_trans hfr1 hd2
        have hbx2 := hbx1.frm hd2
        have hO2 := hO1.kept moves_ty hd2 (ownNone _) (by simp)
        clear hc0 hc1 x0 x1
        obtain ⟨x0, x1, _, _⟩ := hbx2.cells
        have hxl2 := hbx2.lt
        have hck : ¬ c = k := by omega
        by_cases hcp : 0 < Ty.cmp y x
        · have HEQ : Hid (insL Ty.cmp x s = (s.take k ++ [x]) ++ s.drop k) := by
            unfold Hid
            rw [HI.out, hdk.out, insL, if_neg (Int.not_lt.2 HC.out), if_pos hcp, List.append_assoc]
            rfl
          dsimp only
          repeat ((fail_if_success at_builtin); first | go_values | go_skip | go_guarded | go_step | go_upon)
          have hf6 := frm_alloc w2 (.cells #[.int .i64 xs, .slice xA xn xc] 24)
          have hO5 := hO2.kept moves_ty hf6 (ownNone _) (by simp)
          have htw := TwoAt.new w2 (.int .i64 xs) (.slice xA xn xc) 24
          have hlt5 := hO2.lt
          refine Own.append1 moves_ty elem_ty hO5 rfl _ _ rfl rfl rfl x [.int .i64 xs, .slice xA xn xc] rfl ?_ ?_ ?_ (by first | omega | (simp only [List.length_append, List.length_cons, List.length_nil]; omega)) (by omega) (by have := hfr2.size; simp; omega) ?_
          · intro j u hj
            match j with
            | 0 => simp at hj; subst hj; exact htw.cells.1
            | 1 => simp at hj; subst hj; exact htw.cells.2.1
            | j + 2 => simp at hj
          · intro u hu
            simp at hu
            rcases hu with rfl | rfl <;> rfl
          · exact (((HX.out : TyR (fun b => b < w.heap.size) w x _).move (S' := fun b => b < w.heap.size) (fun b hb => hb) (fun b hb => frm_lt hfr2 b hb)).move (S' := fun b => b < w.heap.size) (fun b hb => hb) (fun b hb => frm_lt hf6 b (Nat.lt_of_lt_of_le hb hfr2.size))).move (fun b hb => ⟨hb, by have := hfr2.size; simp; omega, fun e => by have := (hlt5 b e.symm).1; omega⟩) (fun b hb => rfl)
          intro v7 w7 hO8 hg7 hp7
          have hfr7 := frm_own (frm_trans hfr2 hf6) (fun b hb => by have := (hlt5 b hb).1; omega) hg7
          have hbx7 := (hbx2.frm hf6).frm_row hg7 (fun e => by have := (hlt5 _ e).1; omega)
          obtain ⟨A7, c7, rfl, _⟩ := hO8.val
          have hl8 : (s.take k ++ [x]).length = k + 1 := by simp [hlk]
          rw [hl8] at hO8
          repeat ((fail_if_success at_builtin); first | go_values | go_skip | go_guarded | go_step | go_upon)
          have hlt9 := hO8.lt
          have sz9 := hfr7.size
          have sb9 := hbx7.lt
          obtain ⟨v9, w9, hrun, hO9, hg9⟩ := Own.append_sl moves_ty elem_ty hO8 36 (S := fun b => b < w.heap.size) (((HS.out.move (S' := fun b => b < w.heap.size) (fun b hb => hb) (fun b hb => frm_lt hfr7 b hb) (fun t _ cs h => h.move (fun b hb => hb) (fun b hb => frm_lt hfr7 b hb)))).drop hlt) (fun b hb => ⟨hb, by omega, fun e => by have := (hlt9 b e.symm).1; omega⟩) (fun _ _ h => oneCell_ty h) (by simp only [List.length_append, List.length_cons, List.length_nil, List.length_take, List.length_drop]; omega) (by omega) (by omega)
          have hf9 := frm_own hfr7 (fun b hb => by have := (hlt9 b hb).1; omega) hg9
          have hlr : ((s.take k ++ [x]) ++ s.drop k).length ≤ s.length + 1 := by simp only [List.length_append, List.length_cons, List.length_nil, List.length_take, List.length_drop]; omega
          have HS9 : Hid (SetO w9 (insL Ty.cmp x s) [v9] ∧ OwnVal (insL Ty.cmp x s) v9) := by
            rw [show insL Ty.cmp x s = (s.take k ++ [x]) ++ s.drop k from HEQ.out]
            have s9 := hg9.size
            exact ⟨⟨_, rfl, hO9.sl moves_ty (by omega) (fun b h1 h2 => h2) (fun b h1 h2 => h2)⟩, hO9.ownVal⟩
          obtain ⟨A9, n9, c9, rfl⟩ : ∃ A9 n9 c9, v9 = .slice A9 n9 c9 := by obtain ⟨a, b, h, _⟩ := hO9.val; exact ⟨_, _, _, h⟩
          refine append_list _ _ rfl rfl rfl rfl hrun ?_
          clear hO9 hg9 hrun
          go_wp2_with fail
          exact bodyPost_ret (results_tmp rfl _ _ _) rfl ⟨.slice A9 n9 c9, rfl, hf9, HS9.out⟩
        · have HEQ : Hid (insL Ty.cmp x s = s.take k ++ s.drop k) := by
            unfold Hid
            rw [HI.out, hdk.out, insL, if_neg (Int.not_lt.2 HC.out), if_neg hcp]
          dsimp only
          repeat ((fail_if_success at_builtin); first | go_values | go_skip | go_guarded | go_step | go_upon)
          have hlt9 := hO2.lt
          have sz9 := hfr2.size
          have sb9 := hbx2.lt
          obtain ⟨v9, w9, hrun, hO9, hg9⟩ := Own.append_sl moves_ty elem_ty hO2 36 (S := fun b => b < w.heap.size) (((HS.out.move (S' := fun b => b < w.heap.size) (fun b hb => hb) (fun b hb => frm_lt hfr2 b hb) (fun t _ cs h => h.move (fun b hb => hb) (fun b hb => frm_lt hfr2 b hb)))).drop hlt) (fun b hb => ⟨hb, by omega, fun e => by have := (hlt9 b e.symm).1; omega⟩) (fun _ _ h => oneCell_ty h) (by simp only [List.length_append, List.length_cons, List.length_nil, List.length_take, List.length_drop]; omega) (by omega) (by omega)
          have hf9 := frm_own hfr2 (fun b hb => by have := (hlt9 b hb).1; omega) hg9
          have hlr : (s.take k ++ s.drop k).length ≤ s.length + 1 := by simp only [List.length_append, List.length_cons, List.length_nil, List.length_take, List.length_drop]; omega
          have HS9 : Hid (SetO w9 (insL Ty.cmp x s) [v9] ∧ OwnVal (insL Ty.cmp x s) v9) := by
            rw [show insL Ty.cmp x s = s.take k ++ s.drop k from HEQ.out]
            have s9 := hg9.size
            exact ⟨⟨_, rfl, hO9.sl moves_ty (by omega) (fun b h1 h2 => h2) (fun b h1 h2 => h2)⟩, hO9.ownVal⟩
          obtain ⟨A9, n9, c9, rfl⟩ : ∃ A9 n9 c9, v9 = .slice A9 n9 c9 := by obtain ⟨a, b, h, _⟩ := hO9.val; exact ⟨_, _, _, h⟩
          refine append_list _ _ rfl rfl rfl rfl hrun ?_
          clear hO9 hg9 hrun
          go_wp2_with fail
          exact bodyPost_ret (results_tmp rfl _ _ _) rfl ⟨.slice A9 n9 c9, rfl, hf9, HS9.out⟩
    · obtain rfl : k = s.length := by omega
      rw [List.take_length] at hO HI hlk
      rw [List.drop_length] at HI
      have HEQ : Hid (insL Ty.cmp x s = s ++ [x]) := HI.out
      have heq1 : ((s.length : Int) == (s.length : Int)) = true := by simp
      obtain ⟨x0, x1, _, _⟩ := hbx.cells
      have hxl := hbx.lt
      go_wp2_with fail
      go_quiet (fail)
      go_wp2_with fail
      go_quiet (fail)
      generalize hwd : (wr.drewN _).drewN _ = wd at *
      have hdd : wr.grownBy wd none := by rw [← hwd]; exact frm_trans (frm_drewN _ _) (frm_drewN _ _)
      clear hwd
      have hfr1 := frm_trans hfr hdd
      have hO1 := hO.kept moves_ty hdd (ownNone _) (by simp)
      have hbx1 := hbx.frm hdd
      clear x0 x1 hxl
      obtain ⟨x0, x1, _, _⟩ := hbx1.cells
      have hxl := hbx1.lt
      (try dsimp only)
      repeat ((fail_if_success at_builtin); first | go_values | go_skip | go_guarded | go_step | go_upon)
      have hf6 := frm_alloc wd (.cells #[.int .i64 xs, .slice xA xn xc] 24)
      have hO5 := hO1.kept moves_ty hf6 (ownNone _) (by simp)
      have htw := TwoAt.new wd (.int .i64 xs) (.slice xA xn xc) 24
      have hlt5 := hO1.lt
      refine Own.append1 moves_ty elem_ty hO5 rfl _ _ rfl rfl rfl x [.int .i64 xs, .slice xA xn xc] rfl ?_ ?_ ?_ (by first | omega | (simp only [List.length_append, List.length_cons, List.length_nil]; omega)) (by omega) (by have := hfr1.size; simp; omega) ?_
      · intro j u hj
        match j with
        | 0 => simp at hj; subst hj; exact htw.cells.1
        | 1 => simp at hj; subst hj; exact htw.cells.2.1
        | j + 2 => simp at hj
      · intro u hu
        simp at hu
        rcases hu with rfl | rfl <;> rfl
      · exact (((HX.out : TyR (fun b => b < w.heap.size) w x _).move (S' := fun b => b < w.heap.size) (fun b hb => hb) (fun b hb => frm_lt hfr1 b hb)).move (S' := fun b => b < w.heap.size) (fun b hb => hb) (fun b hb => frm_lt hf6 b (Nat.lt_of_lt_of_le hb hfr1.size))).move (fun b hb => ⟨hb, by have := hfr1.size; simp; omega, fun e => by have := (hlt5 b e.symm).1; omega⟩) (fun b hb => rfl)
      intro v7 w7 hO8 hg7 hp7
      have hfr7 := frm_own (frm_trans hfr1 hf6) (fun b hb => by have := (hlt5 b hb).1; omega) hg7
      have hbx7 := (hbx1.frm hf6).frm_row hg7 (fun e => by have := (hlt5 _ e).1; omega)
      obtain ⟨A7, c7, rfl, _⟩ := hO8.val
      have hl8 : (s ++ [x]).length = s.length + 1 := by simp
      rw [hl8] at hO8
      have HSE : Hid (SetO w7 (insL Ty.cmp x s) [.slice A7 (s.length + 1) c7] ∧ OwnVal (insL Ty.cmp x s) (.slice A7 (s.length + 1) c7)) := by
        rw [show insL Ty.cmp x s = s ++ [x] from HEQ.out]
        exact ⟨⟨_, rfl, hO8.sl moves_ty (by rw [hl8]; omega) (fun b h1 h2 => h2) (fun b h1 h2 => h2)⟩, hO8.ownVal⟩
      have hz : ∀ (A' : Option Addr) (c' : Nat), (Builtin.append_ #[36, 36] 36 #[.slice A7 (s.length + 1) c7, .slice A' 0 c']).run Tryd.prog w7 = .ok (.slice A7 (s.length + 1) c7) w7 := fun A' c' => by
        obtain ⟨i0, z, hi, _⟩ := elem_ty.info
        obtain ⟨inner, hown, _⟩ := hO8
        rw [hl8] at hown
        cases A' with
        | none => exact run_append_none_any _ _ _ _ i0 2 c' elem_ty.under hi _ _ inner hown
        | some a => exact run_append_zero2 elem_ty.under hi hown a c'
      have HZ := Lib.hid hz
      clear hz hO8 hlt5
      rcases HVV.out with ⟨h0, hv0⟩ | ⟨gg, cg, hv0⟩
      · injection hv0 with e1 e2 e3
        subst e1 e3
        have hs0 : s = [] := List.eq_nil_of_length_eq_zero h0
        subst hs0
        simp only [List.length_nil] at *
        repeat ((fail_if_success at_builtin); first | go_values | go_skip | go_guarded | go_step | go_upon)
        refine append_list _ _ rfl rfl rfl rfl (HZ.out _ _) ?_
        go_wp2_with fail
        exact bodyPost_ret (results_tmp rfl _ _ _) rfl ⟨.slice A7 (0 + 1) c7, rfl, hfr7, HSE.out⟩
      · injection hv0 with e1 e2 e3
        subst e1 e3
        by_cases hck : c = s.length
        · subst hck
          repeat ((fail_if_success at_builtin); first | go_values | go_skip | go_guarded | go_step | go_upon)
          refine append_list _ _ rfl rfl rfl rfl (HZ.out _ _) ?_
          go_wp2_with fail
          exact bodyPost_ret (results_tmp rfl _ _ _) rfl ⟨.slice A7 (s.length + 1) c7, rfl, hfr7, HSE.out⟩
        ·
          repeat ((fail_if_success at_builtin); first | go_values | go_skip | go_guarded | go_step | go_upon)
          refine append_list _ _ rfl rfl rfl rfl (HZ.out _ _) ?_
          go_wp2_with fail
          exact bodyPost_ret (results_tmp rfl _ _ _) rfl ⟨.slice A7 (s.length + 1) c7, rfl, hfr7, HSE.out⟩
end Go.Proofs.YtmdgoalekkkpnaaDoor
