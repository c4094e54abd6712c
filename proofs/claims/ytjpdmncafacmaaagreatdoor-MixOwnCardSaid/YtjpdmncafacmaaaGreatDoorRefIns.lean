/- The reference's Insert. -/
import Derived.Test.YtjpdmncafacmaaaGreatDoorRefUni
set_option linter.unusedVariables false
set_option linter.unusedSimpArgs false
namespace Go.Proofs.YtjpdmncafacmaaaGreatDoor
open Go.RowKit

theorem insL_drop {α : Type} {f : α → α → Int} (x : α) : ∀ (s : List α) (k : Nat), k ≤ s.length → (∀ j (h : j < s.length), j < k → f s[j] x < 0) → insL f x s = s.take k ++ insL f x (s.drop k)
  | s, 0, _, _ => by simp
  | [], k + 1, h, _ => by simp at h
  | y :: s, k + 1, h, hlt => by
    have h0 := hlt 0 (by simp) (by omega)
    simp only [List.getElem_cons_zero] at h0
    rw [List.take_succ_cons, List.drop_succ_cons, insL, if_pos h0, insL_drop x s k (by simpa using h) (fun j hj hjk => by have h9 := hlt (j + 1) (by simpa using hj) (by omega); rw [List.getElem_cons_succ] at h9; exact h9)]
    rfl
theorem insL_sgn {α : Type} {f g : α → α → Int} (hl : ∀ a b, f a b < 0 ↔ g a b < 0) (hg : ∀ a b, 0 < f a b ↔ 0 < g a b) (x : α) : ∀ l : List α, insL f x l = insL g x l
  | [] => rfl
  | y :: l => by
    unfold insL
    rw [insL_sgn hl hg x l]
    by_cases h1 : f y x < 0
    · rw [if_pos h1, if_pos ((hl _ _).1 h1)]
    · rw [if_neg h1, if_neg (fun h => h1 ((hl _ _).2 h))]
      by_cases h2 : 0 < f y x
      · rw [if_pos h2, if_pos ((hg _ _).1 h2)]
      · rw [if_neg h2, if_neg (fun h => h2 ((hg _ _).2 h))]
theorem cmpA_lt (a b : List Nd) : cmpL Nd.sgn a b < 0 ↔ cmpL Nd.cmp a b < 0 := cmpL_lt _ _ sgn_lt sgn_zero a b
theorem cmpA_zero (a b : List Nd) : cmpL Nd.sgn a b = 0 ↔ cmpL Nd.cmp a b = 0 := by
  rw [cmpL_sgn_zero]
  exact ⟨fun h => by rw [h]; exact ord_alt.refl _, fun h => ord_alt.eq _ _ h⟩
theorem cmpA_gt (a b : List Nd) : 0 < cmpL Nd.sgn a b ↔ 0 < cmpL Nd.cmp a b := by
  have h1 := cmpA_lt a b
  have h2 := cmpA_zero a b
  constructor <;> intro h <;> (by_cases h3 : cmpL Nd.sgn a b = 0 <;> omega)
theorem insA_eq (x : List Nd) (l : List (List Nd)) : insL (cmpL Nd.sgn) x l = insL (cmpL Nd.cmp) x l := insL_sgn cmpA_lt cmpA_gt x l

/-- The end of a slice. -/
theorem Sl.drop1 {α : Type} {S : Nat → Prop} {w : World} {r : α → List Value → Prop} {xs : List α} {b o n c k : Nat} (h : Sl S w 1 r xs (.slice (some ⟨b, o, none⟩) n c)) (hk : k < xs.length) :
    Sl S w 1 r (xs.drop k) (.slice (some ⟨b, o + k, none⟩) (xs.length - k) (c - k)) := by
  obtain ⟨A', c', he, hc, hm, hp⟩ := h
  injection he with h1 h2 h3
  subst h3
  obtain ⟨b', o', ha, hb, hcs⟩ := hp (by omega)
  rw [← h1] at ha
  injection ha with ha
  injection ha with e1 e2 _
  subst e1 e2
  refine ⟨_, c - k, by rw [List.length_drop], by rw [List.length_drop]; omega, by rw [List.length_drop]; omega, fun h0 => ⟨b, o + k, rfl, hb, fun i hi => ?_⟩⟩
  rw [List.length_drop] at hi
  obtain ⟨cs, q1, q2, q3⟩ := hcs (k + i) (by omega)
  refine ⟨cs, q1, fun j hj => ?_, by rw [List.getElem_drop]; exact q3⟩
  rw [← q2 j hj]
  congr 2
  omega
/-- A list's slice that starts a block. -/
def OwnVal {α : Type} (xs : List α) (v : Value) : Prop := (xs.length = 0 ∧ v = .slice none 0 0) ∨ ∃ g c, v = .slice (some ⟨g, 0, none⟩) xs.length c
theorem Own.ownVal {α : Type} {r : RdS α} {w : World} {base e k : Nat} {ok : Nat → Prop} {v : Value} {xs : List α} (h : Own r w base e k ok v xs) : OwnVal xs v := by
  rcases h.cases with ⟨h, h0⟩ | ⟨g, c, h, _⟩
  · exact .inl ⟨by rw [h0]; rfl, h⟩
  · exact .inr ⟨g, c, h⟩
theorem sl_any {α : Type} {k : Nat} {r : RdS α} (hr : Moves r) {w w' : World} {xs : List α} {v : Value} (h : SlO w k (rdO r) xs v) (hf : Grew w w') : Sl (fun b => b < w.heap.size) w' k (r (fun b => b < w.heap.size) w') xs v :=
  Sl.move h (fun b hb => hb) (frm_lt hf.1) fun x _ cs h => hr _ _ _ _ _ _ (fun b hb => hb) (frm_lt hf.1) h
theorem sl_anyS {α : Type} {k : Nat} {r : RdS α} (hr : Moves r) {S : Nat → Prop} {w w' : World} {xs : List α} {v : Value} (hS : ∀ b, S b → b < w.heap.size) (h : Sl S w k (r S w) xs v) (hf : Grew w w') : Sl S w' k (r S w') xs v :=
  Sl.move h (fun b hb => hb) (fun b hb => frm_lt hf.1 b (hS b hb)) fun x _ cs h => hr _ _ _ _ _ _ (fun b hb => hb) (fun b hb => frm_lt hf.1 b (hS b hb)) h

set_option maxRecDepth 100000 in
set_option maxHeartbeats 2000000 in
theorem insert_calls (s : List (List Nd)) (x : List Nd) (w : World) (v u : Value) {S : Nat → Prop} (hS0 : ∀ b, S b → b < w.heap.size) (hs : Sl S w 1 (AltR S w) s v) (hvv : OwnVal s v) (hx : AltR S w x [u]) (hb : s.length ≤ 100000) :
    Calls Tryz.prog 97 #[v, u] w fun e w' => ∃ z, e = .returned z ∧ Grew w w' ∧ Own AltR w' w.heap.size 76 1 S z (insL (cmpL Nd.cmp) x s) := by
  rw [← insA_eq]
  obtain ⟨A, c, rfl, hc, hm⟩ := hs.val
  have hX := row_val hx
  have HS0 := Lib.hid hS0
  obtain ⟨B, d, rfl, hd, hm'⟩ := hX.val
  have HS := Lib.hid hs
  have HX := Lib.hid hx
  have HVV := Lib.hid hvv
  clear hs hx hvv hX hS0
  go_enter Tryz.func97, Tryz.ntmps97
  go_wp2_with fail
  go_loopw [5, 6] (fun z i wr => ∃ k : Nat, k ≤ s.length ∧ i = .int .i64 k ∧ Grew w wr ∧ Own AltR wr w.heap.size 76 1 S z (s.take k) ∧ Hid (insL (cmpL Nd.sgn) x s = s.take k ++ insL (cmpL Nd.sgn) x (s.drop k))) (fun _ i _ => s.length - (intOf i).toNat)
  case atStart => exact ⟨0, Nat.zero_le _, rfl, grew_refl _, Own.nil _ _ _ _ _ _, by unfold Hid; simp⟩
  case round =>
    obtain ⟨k, hk, rfl, hfr, hO, HI⟩ := hrel
    obtain ⟨Au, cu, hAu, hcu⟩ := hO.val
    have hlk : (s.take k).length = k := by rw [List.length_take]; omega
    rw [hlk] at hAu hcu
    subst hAu
    have HLK := Lib.hid hlk
    have k0 : (0 : Int) ≤ (k : Int) := by omega
    clear hlk
    by_cases hlt : k < s.length
    · obtain ⟨b, o, p0, rfl, hb0, hp0', hpt⟩ := HS.out.at1 k hlt
      have hp0 := frm_cell hfr.1 hp0'
      obtain ⟨A1, n1, c1, rfl⟩ : ∃ A1 n1 c1, p0 = .slice A1 n1 c1 := by
        obtain ⟨A1, c1, h, _⟩ := (row_val hpt).val
        exact ⟨_, _, _, h⟩
      have HPT := Lib.hid hpt
      have htk := Lib.hid (List.take_succ_eq_append_getElem hlt)
      have hdk := Lib.hid (List.drop_eq_getElem_cons hlt)
      generalize s[k] = y at *
      have HO := Lib.hid hO
      have k1 : (k : Int) < s.length := by omega
      have k2 : ((k : Int) == (s.length : Int)) = false := by rw [beq_eq_false_iff_ne]; omega
      have hbd := cmpL_sgn_bd y x
      have HC : Hid (∀ w', Grew w w' → Calls Tryz.prog 68 #[.slice A1 n1 c1, .slice B x.length d] w' (RetD w' (.int .i64 (cmpL Nd.sgn y x)))) := fun w' h => rcmpAlt_calls y x w' _ _ (moves_alt _ _ _ _ _ _ (fun q hq => Nat.lt_of_lt_of_le (HS0.out q hq) h.1.size) (fun q hq => frm_lt h.1 q (HS0.out q hq)) HPT.out) (moves_alt _ _ _ _ _ _ (fun q hq => Nat.lt_of_lt_of_le (HS0.out q hq) h.1.size) (fun q hq => frm_lt h.1 q (HS0.out q hq)) HX.out)
      clear hpt hp0' hO
      go_wp2_with fail
      refine (HC.out _ hfr).mono ?_
      rintro e w1 ⟨rfl, hf1⟩
      have hfr1 := grew_trans hfr hf1
      replace hp0 := frm_cell hf1.1 hp0
      by_cases hcm : cmpL Nd.sgn y x < 0
      · have HN : Hid (insL (cmpL Nd.sgn) x s = s.take (k + 1) ++ insL (cmpL Nd.sgn) x (s.drop (k + 1))) := by
          unfold Hid
          rw [HI.out, hdk.out, insL, if_pos hcm, htk.out, List.append_assoc]
          rfl
        dsimp only
        repeat ((fail_if_success at_builtin); first | go_values | go_skip | go_guarded | go_step | go_upon)
        have hf6 := grew_then_alloc hf1 (.cells #[.slice A1 n1 c1] 76)
        have hO5 := HO.out.kept moves_alt hf6.1 (ownNone _) (by simp)
        have htw := OneAt.new w1 (.slice A1 n1 c1) 76
        have hlt5 := HO.out.lt
        have hs1 := hfr1.1.size
        refine Own.app1 moves_alt elem_alt hO5 rfl _ _ rfl rfl rfl y [.slice A1 n1 c1] rfl (one_at htw) ?_ ?_ (by rw [HLK.out]; omega) (by omega) (by simp; omega) ?_
        · intro u hu
          simp at hu
          subst hu
          rfl
        · exact moves_alt _ _ _ _ _ _ (fun q hq => ⟨hq, by have := HS0.out q hq; simp; omega, fun e => by have := HS0.out q hq; have := (hlt5 q e.symm).1; omega⟩) (fun q hq => frm_lt (grew_then_alloc hfr1 _).1 q (HS0.out q hq)) HPT.out
        intro v7 w7 hO8 hg7 hp7
        have hfr7 : Grew w w7 := grew_own (grew_trans hfr hf6) (fun q hq => (hlt5 q hq).1) hg7.1 hg7.2
        rw [← htk.out] at hO8
        obtain ⟨A7, c7, he7, _⟩ := hO8.val
        rw [show (s.take (k + 1)).length = k + 1 by rw [List.length_take]; omega] at he7
        have HO8 := Lib.hid hO8
        clear hO8 hO5 htw hlt5
        subst he7
        go_wp2_with fail
        exact ⟨⟨k + 1, by omega, by go_num, hfr7, HO8.out, HN⟩, by simp [intOf]; omega⟩
      · have hck : ¬ c = k := by omega
        dsimp only
        go_wp2_with fail
        refine (HC.out _ hfr1).mono ?_
        rintro e w2 ⟨rfl, hf2⟩
        have hfr2 := grew_trans hfr1 hf2
        by_cases hcp : 0 < cmpL Nd.sgn y x
        · have HEQ : Hid (insL (cmpL Nd.sgn) x s = (s.take k ++ [x]) ++ s.drop k) := by
            unfold Hid
            rw [HI.out, hdk.out, insL, if_neg (by omega), if_pos (by omega), List.append_assoc]
            rfl
          dsimp only
          repeat ((fail_if_success at_builtin); first | go_values | go_skip | go_guarded | go_step | go_upon)
          have hf6 := grew_then_alloc (grew_trans hf1 hf2) (.cells #[.slice B x.length d] 76)
          have hO5 := HO.out.kept moves_alt hf6.1 (ownNone _) (by simp)
          have htw := OneAt.new w2 (.slice B x.length d) 76
          have hlt5 := HO.out.lt
          have hs1 := hfr2.1.size
          refine Own.app1 moves_alt elem_alt hO5 rfl _ _ rfl rfl rfl x [.slice B x.length d] rfl (one_at htw) ?_ ?_ (by rw [HLK.out]; omega) (by omega) (by simp; omega) ?_
          · intro u hu
            simp at hu
            subst hu
            rfl
          · exact moves_alt _ _ _ _ _ _ (fun q hq => ⟨hq, by have := HS0.out q hq; simp; omega, fun e => by have := HS0.out q hq; have := (hlt5 q e.symm).1; omega⟩) (fun q hq => frm_lt (grew_then_alloc hfr2 _).1 q (HS0.out q hq)) HX.out
          intro v7 w7 hO8 hg7 hp7
          have hfr7 : Grew w w7 := grew_own (grew_trans hfr hf6) (fun q hq => (hlt5 q hq).1) hg7.1 hg7.2
          obtain ⟨A7, c7, he7, _⟩ := hO8.val
          rw [show (s.take k ++ [x]).length = k + 1 by rw [List.length_append, HLK.out]; rfl] at he7
          subst he7
          have hlt9 := hO8.lt
          have s7 := hfr7.1.size
          obtain ⟨v9, w9, hrun, hO9, hg9, hp9⟩ := Own.app_sl moves_alt elem_alt hO8 50 (S := S) ((sl_anyS moves_alt HS0.out HS.out hfr7).drop1 hlt) (fun q hq => ⟨hq, by have := HS0.out q hq; omega, fun e => by have := HS0.out q hq; have := (hlt9 q e.symm).1; omega⟩) (fun _ _ h => one_row h) (by rw [List.length_append, HLK.out, List.length_drop, List.length_singleton]; omega) (by omega) (by omega)
          rw [← HEQ.out] at hO9
          obtain ⟨A9, c9, he9, _⟩ := hO9.val
          subst he9
          have hfr9 : Grew w w9 := grew_own hfr7 (fun q hq => (hlt9 q hq).1) hg9.1 hg9.2
          have HO9 := Lib.hid hO9
          clear hO9 hO8 hlt9 hg9 hp9
          repeat ((fail_if_success at_builtin); first | go_values | go_skip | go_guarded | go_step | go_upon)
          refine append_list _ _ rfl rfl rfl rfl hrun ?_
          clear hrun
          go_wp2_with fail
          exact bodyPost_ret (v := .slice A9 (insL (cmpL Nd.sgn) x s).length c9) (by simp [results, Tryz.results97, go_sem]) rfl ⟨_, rfl, hfr9, HO9.out⟩
        · have HEQ : Hid (insL (cmpL Nd.sgn) x s = s.take k ++ s.drop k) := by
            unfold Hid
            rw [HI.out, hdk.out, insL, if_neg (by omega), if_neg (by omega)]
          dsimp only
          have hO8 := HO.out.kept moves_alt (grew_trans hf1 hf2).1 (ownNone _) (by simp)
          have hfr7 := hfr2
          have hlt9 := hO8.lt
          have s7 := hfr7.1.size
          obtain ⟨v9, w9, hrun, hO9, hg9, hp9⟩ := Own.app_sl moves_alt elem_alt hO8 50 (S := S) ((sl_anyS moves_alt HS0.out HS.out hfr7).drop1 hlt) (fun q hq => ⟨hq, by have := HS0.out q hq; omega, fun e => by have := HS0.out q hq; have := (hlt9 q e.symm).1; omega⟩) (fun _ _ h => one_row h) (by rw [HLK.out, List.length_drop]; omega) (by omega) (by omega)
          rw [← HEQ.out] at hO9
          obtain ⟨A9, c9, he9, _⟩ := hO9.val
          subst he9
          have hfr9 : Grew w w9 := grew_own hfr7 (fun q hq => (hlt9 q hq).1) hg9.1 hg9.2
          have HO9 := Lib.hid hO9
          clear hO9 hO8 hlt9 hg9 hp9
          repeat ((fail_if_success at_builtin); first | go_values | go_skip | go_guarded | go_step | go_upon)
          refine append_list _ _ rfl rfl rfl rfl hrun ?_
          clear hrun
          go_wp2_with fail
          exact bodyPost_ret (v := .slice A9 (insL (cmpL Nd.sgn) x s).length c9) (by simp [results, Tryz.results97, go_sem]) rfl ⟨_, rfl, hfr9, HO9.out⟩
    · obtain rfl : k = s.length := by omega
      rw [List.take_length] at hO HI
      rw [List.drop_length] at HI
      have HEQ : Hid (insL (cmpL Nd.sgn) x s = s ++ [x]) := HI.out
      have k1 : ((s.length : Int) == (s.length : Int)) = true := by simp
      have HO := Lib.hid hO
      clear hO
      repeat ((fail_if_success at_builtin); first | go_values | go_skip | go_guarded | go_step | go_upon)
      have hf6 := grew_alloc wr (.cells #[.slice B x.length d] 76)
      have hO5 := HO.out.kept moves_alt hf6.1 (ownNone _) (by simp)
      have htw := OneAt.new wr (.slice B x.length d) 76
      have hlt5 := HO.out.lt
      have hs1 := hfr.1.size
      refine Own.app1 moves_alt elem_alt hO5 rfl _ _ rfl rfl rfl x [.slice B x.length d] rfl (one_at htw) ?_ ?_ (by omega) (by omega) (by simp; omega) ?_
      · intro u hu
        simp at hu
        subst hu
        rfl
      · exact moves_alt _ _ _ _ _ _ (fun q hq => ⟨hq, by have := HS0.out q hq; simp; omega, fun e => by have := HS0.out q hq; have := (hlt5 q e.symm).1; omega⟩) (fun q hq => frm_lt (grew_then_alloc hfr _).1 q (HS0.out q hq)) HX.out
      intro v7 w7 hO8 hg7 hp7
      have hfr7 : Grew w w7 := grew_own (grew_trans hfr hf6) (fun q hq => (hlt5 q hq).1) hg7.1 hg7.2
      obtain ⟨A7, c7, he7, _⟩ := hO8.val
      have hl8 : (s ++ [x]).length = s.length + 1 := by simp
      rw [hl8] at he7
      subst he7
      have hz : ∀ (A' : Option Addr) (c' : Nat), (Builtin.append_ #[50, 50] 50 #[.slice A7 (s.length + 1) c7, .slice A' 0 c']).run Tryz.prog w7 = .ok (.slice A7 (s.length + 1) c7) w7 := fun A' c' => by
        obtain ⟨i0, z, hi, _⟩ := elem_alt.info
        obtain ⟨inner, hown, _⟩ := hO8
        rw [hl8] at hown
        cases A' with
        | none => exact run_append_none_any _ _ _ _ i0 1 c' elem_alt.under hi _ _ inner hown
        | some a => exact run_append_zero2 elem_alt.under hi hown a c'
      have HZ := Lib.hid hz
      have HO8 : Hid (Own AltR w7 w.heap.size 76 1 S (.slice A7 (s.length + 1) c7) (insL (cmpL Nd.sgn) x s)) := by unfold Hid; rw [HEQ.out]; exact hO8
      clear hz hO8 hlt5 hO5 htw hl8
      rcases HVV.out with ⟨h0, hv0⟩ | ⟨gg, cg, hv0⟩
      · injection hv0 with e1 e2 e3
        subst e1 e3
        have hs0 : s = [] := List.eq_nil_of_length_eq_zero h0
        subst hs0
        simp only [List.length_nil] at *
        repeat ((fail_if_success at_builtin); first | go_values | go_skip | go_guarded | go_step | go_upon)
        refine append_list _ _ rfl rfl rfl rfl (HZ.out _ _) ?_
        go_wp2_with fail
        exact bodyPost_ret (v := .slice A7 (0 + 1) c7) (by simp [results, Tryz.results97, go_sem]) rfl ⟨_, rfl, hfr7, HO8.out⟩
      · injection hv0 with e1 e2 e3
        subst e1 e3
        by_cases hck : c = s.length
        · subst hck
          repeat ((fail_if_success at_builtin); first | go_values | go_skip | go_guarded | go_step | go_upon)
          refine append_list _ _ rfl rfl rfl rfl (HZ.out _ _) ?_
          go_wp2_with fail
          exact bodyPost_ret (v := .slice A7 (s.length + 1) c7) (by simp [results, Tryz.results97, go_sem]) rfl ⟨_, rfl, hfr7, HO8.out⟩
        · repeat ((fail_if_success at_builtin); first | go_values | go_skip | go_guarded | go_step | go_upon)
          refine append_list _ _ rfl rfl rfl rfl (HZ.out _ _) ?_
          go_wp2_with fail
          exact bodyPost_ret (v := .slice A7 (s.length + 1) c7) (by simp [results, Tryz.results97, go_sem]) rfl ⟨_, rfl, hfr7, HO8.out⟩
end Go.Proofs.YtjpdmncafacmaaaGreatDoor
