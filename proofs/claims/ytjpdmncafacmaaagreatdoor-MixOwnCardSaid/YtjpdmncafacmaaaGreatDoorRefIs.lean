/- The reference's Is. -/
import Derived.Test.YtjpdmncafacmaaaGreatDoorRefSym
set_option linter.unusedVariables false
set_option linter.unusedSimpArgs false
namespace Go.Proofs.YtjpdmncafacmaaaGreatDoor
open Go.RowKit

def symP (n : Int) (p : Int × List (List Nd)) : Bool := symR p.1 n p.2
def ruleR (ranks : List Int) (n : Int) (m : List (List (List Nd))) : Bool := decide (m.length = ranks.length) && (ranks.zip m).all (symP n)
/-- What Is says. -/
def Au.okR (a : Au) : Bool := ranksOk a.ranks && decide (1 ≤ a.n ∧ a.n ≤ 6) && decide (0 ≤ a.start ∧ a.start < a.n) && a.moves.all (ruleR a.ranks a.n)
/-- An automaton in a block of its own, at w's end. -/
def AuS (w w' : World) (r m : Value) (st : Int) : Prop := Grew w w' ∧ w'.cell? ⟨w.heap.size, 0, none⟩ = some r ∧ w'.cell? ⟨w.heap.size, 1, none⟩ = some (.int .i64 st) ∧ w'.cell? ⟨w.heap.size, 2, none⟩ = some m
theorem AuS.step {w w1 w2 : World} {r m : Value} {st : Int} (h : AuS w w1 r m st) (hf : Grew w1 w2) : AuS w w2 r m st :=
  ⟨grew_trans h.1 hf, frm_cell hf.1 h.2.1, frm_cell hf.1 h.2.2.1, frm_cell hf.1 h.2.2.2⟩
theorem AuS.new (w : World) (r m : Value) (st : Int) (T : TypeId) : AuS w (w.alloc (.cells #[r, .int .i64 st, m] T)) r m st := by
  have h1 : (w.alloc (.cells #[r, .int .i64 st, m] T)).heap[w.heap.size]? = some (.cells #[r, .int .i64 st, m] T (0, 0)) := by
    show (w.heap.push _)[w.heap.size]? = _
    simp
  refine ⟨grew_alloc _ _, ?_, ?_, ?_⟩
  · unfold World.cell?; rw [h1]; rfl
  · unfold World.cell?; rw [h1]; rfl
  · unfold World.cell?; rw [h1]; rfl

set_option maxRecDepth 100000 in
set_option maxHeartbeats 2000000 in
theorem ris_calls (a : Au) (w : World) (r m : Value) (h : rdO AuR w a [r, .int .i64 a.start, m]) :
    Calls Tryz.prog 8 #[.agg #[r, .int .i64 a.start, m]] w (RetD w (.bool a.okR)) := by
  obtain ⟨r', m', he, hr, hm, hst1, hst2⟩ := h
  simp only [List.cons.injEq, and_true, true_and] at he
  obtain ⟨rfl, rfl⟩ := he
  have hR := RowS.sl hr
  have hM := RowS.sl hm
  clear hr hm
  obtain ⟨A, c, rfl, hc, hlm⟩ := hR.val
  obtain ⟨B, d, rfl, hd, hlm2⟩ := hM.val
  have hck : AuS w (w.alloc (.cells #[.slice A a.ranks.length c, .int .i64 a.start, .slice B a.moves.length d] 25)) (.slice A a.ranks.length c) (.slice B a.moves.length d) a.start := AuS.new _ _ _ _ _
  go_enter Tryz.func8, Tryz.ntmps8
  go_wp2_with fail
  refine (rranks_calls a.ranks _ _ (hR.frm hck.1.1 (stays_rd moves_int))).mono ?_
  rintro e w1 ⟨rfl, hf1⟩
  have hck1 := hck.step hf1
  clear hck hf1
  obtain ⟨hG, x0, x1, x2⟩ := id hck1
  have hn0 : (0 : Int) ≤ a.n := by unfold Au.n; omega
  have hnd : Hid (a.n = a.moves.length) := rfl
  simp only [show ((a.moves.length : Nat) : Int) = a.n from rfl]
  by_cases g1 : ranksOk a.ranks = false
  · have HQ' : Hid (a.okR = false) := by unfold Hid; unfold Au.okR; simp [g1]
    go_wp2_with fail
    refine bodyPost_ret (results_tmp rfl _ _ _) rfl ⟨?_, hG⟩
    rw [HQ'.out]
    rfl
  rw [Bool.not_eq_false] at g1
  by_cases g2 : a.n < 1
  · have HQ' : Hid (a.okR = false) := by unfold Hid; unfold Au.okR; rw [show decide (1 ≤ a.n ∧ a.n ≤ 6) = false by (simp <;> omega)]; simp
    go_wp2_with fail
    refine bodyPost_ret (results_tmp rfl _ _ _) rfl ⟨?_, hG⟩
    rw [HQ'.out]
    rfl
  by_cases g3 : 6 < a.n
  · have HQ' : Hid (a.okR = false) := by unfold Hid; unfold Au.okR; rw [show decide (1 ≤ a.n ∧ a.n ≤ 6) = false by (simp <;> omega)]; simp
    go_wp2_with fail
    refine bodyPost_ret (results_tmp rfl _ _ _) rfl ⟨?_, hG⟩
    rw [HQ'.out]
    rfl
  by_cases g4 : a.start < 0
  · have HQ' : Hid (a.okR = false) := by unfold Hid; unfold Au.okR; rw [show decide (0 ≤ a.start ∧ a.start < a.n) = false by (simp <;> omega)]; simp
    go_wp2_with fail
    refine bodyPost_ret (results_tmp rfl _ _ _) rfl ⟨?_, hG⟩
    rw [HQ'.out]
    rfl
  by_cases g5 : a.n ≤ a.start
  · have HQ' : Hid (a.okR = false) := by unfold Hid; unfold Au.okR; rw [show decide (0 ≤ a.start ∧ a.start < a.n) = false by (simp <;> omega)]; simp
    go_wp2_with fail
    refine bodyPost_ret (results_tmp rfl _ _ _) rfl ⟨?_, hG⟩
    rw [HQ'.out]
    rfl
  have HOK : Hid (a.okR = a.moves.all (ruleR a.ranks a.n)) := by
    unfold Hid Au.okR
    rw [g1, show decide (1 ≤ a.n ∧ a.n ≤ 6) = true by (simp <;> omega), show decide (0 ≤ a.start ∧ a.start < a.n) = true by (simp <;> omega)]
    rfl
  have HN : Hid (a.n ≤ 6) := by unfold Hid; omega
  go_wp2_with fail
  clear x0 x1 x2 hG
  go_loopw [37] (fun i wr => ∃ k : Nat, k ≤ a.moves.length ∧ i = .int .i64 k ∧ AuS w wr (.slice A a.ranks.length c) (.slice B a.moves.length d) a.start ∧ Hid (a.okR = (a.moves.drop k).all (ruleR a.ranks a.n))) (fun i _ => a.moves.length - (intOf i).toNat)
  case atStart => exact ⟨0, Nat.zero_le _, rfl, hck1, HOK⟩
  case round =>
    obtain ⟨k, hk, rfl, hck, HC⟩ := hrel
    obtain ⟨hG, x0, x1, x2⟩ := id hck
    by_cases hlt : k < a.moves.length
    · obtain ⟨b, o, p0, rfl, hb, hp0, hpt⟩ := (hM.frm hck.1.1 (stays_rd moves_rule)).at1 k hlt
      have hd : Hid ((a.moves.drop k).all (ruleR a.ranks a.n) = (ruleR a.ranks a.n a.moves[k] && (a.moves.drop (k + 1)).all (ruleR a.ranks a.n))) := by
        unfold Hid
        rw [List.drop_eq_getElem_cons hlt, List.all_cons]
      generalize a.moves[k] = rule at *
      obtain ⟨B1, d1, rfl, hd1, hlr⟩ := RowS.val hpt
      have hRU := RowS.sl hpt
      by_cases hle : rule.length = a.ranks.length
      · have hne : ((rule.length : Int) != (a.ranks.length : Int)) = false := by simp [hle]
        have HLE := Lib.hid hle
        have HOK2 : Hid (a.okR = ((a.ranks.zip rule).all (symP a.n) && (a.moves.drop (k + 1)).all (ruleR a.ranks a.n))) := by
          unfold Hid
          rw [HC.out, hd.out]
          unfold ruleR
          rw [show decide (rule.length = a.ranks.length) = true by simpa using hle, Bool.true_and]
        clear hle HC hd
        go_wp2_with fail
        clear x0 x1 x2 hG
        go_loopw [49] (fun i w' => ∃ j : Nat, j ≤ rule.length ∧ i = .int .i64 j ∧ Grew wr w' ∧ AuS w w' (.slice A a.ranks.length c) (.slice (some ⟨b, o, none⟩) a.moves.length d) a.start ∧ Hid (a.okR = (((a.ranks.zip rule).drop j).all (symP a.n) && (a.moves.drop (k + 1)).all (ruleR a.ranks a.n)))) (fun i _ => rule.length - (intOf i).toNat)
        case atStart => exact ⟨0, Nat.zero_le _, rfl, grew_refl _, hck, HOK2⟩
        case round =>
          clear hb hp0 hck hpt
          obtain ⟨j, hj, rfl, hfj, hck, HC⟩ := hrel
          obtain ⟨hG, x0, x1, x2⟩ := id hck
          by_cases hjt : j < rule.length
          · have hjr : j < a.ranks.length := by rw [← HLE.out]; exact hjt
            obtain ⟨b5, o5, p5, rfl, hb5, hp5, hpt⟩ := (hRU.frm hfj.1 (stays_rd moves_alts)).at1 j hjt
            obtain ⟨b4, o4, p4, rfl, hb4, hp4, hrt⟩ := (hR.frm hck.1.1 (stays_rd moves_int)).at1 j hjr
            obtain ⟨hrv, hr1, hr2⟩ := hrt
            simp only [List.cons.injEq, and_true] at hrv
            subst hrv
            have hd : Hid (((a.ranks.zip rule).drop j).all (symP a.n) = (symR a.ranks[j] a.n rule[j] && ((a.ranks.zip rule).drop (j + 1)).all (symP a.n))) := by
              unfold Hid
              rw [List.drop_eq_getElem_cons (by rw [List.length_zip]; omega), List.all_cons, List.getElem_zip]
              rfl
            generalize rule[j] = alts at *
            generalize a.ranks[j] = rk at *
            have i1 : (j : Int) < a.ranks.length := by omega
            have i2 : (j : Int) ≤ a.ranks.length := by omega
            go_wp2_with fail
            refine (rsym_calls alts rk a.n _ p5 hpt).mono ?_
            rintro e w4 ⟨rfl, hf4⟩
            have hckn := hck.step hf4
            obtain ⟨hGn, y0, y1, y2⟩ := id hckn
            cases hrs : symR rk a.n alts
            · have HQ' : Hid (a.okR = false) := by unfold Hid; rw [HC.out, hd.out, hrs]; rfl
              clear hrs
              go_wp2_with fail
              refine bodyPost_ret (results_tmp rfl _ _ _) rfl ⟨?_, hGn⟩
              rw [HQ'.out]
              rfl
            · have HD : Hid (a.okR = (((a.ranks.zip rule).drop (j + 1)).all (symP a.n) && (a.moves.drop (k + 1)).all (ruleR a.ranks a.n))) := by
                unfold Hid
                rw [HC.out, hd.out, hrs, Bool.true_and]
              have hfz := grew_trans hfj hf4
              clear hrs
              go_wp2_with fail
              exact ⟨⟨j + 1, by omega, by go_num, hfz, hckn, HD⟩, by simp [intOf]; omega⟩
          · have HD : Hid (a.okR = (a.moves.drop (k + 1)).all (ruleR a.ranks a.n)) := by
              unfold Hid
              rw [HC.out, List.drop_eq_nil_of_le (by rw [List.length_zip]; omega)]
              simp
            go_wp2_with fail
            exact ⟨⟨k + 1, by omega, by go_num, hck, HD⟩, by simp [intOf]; omega⟩
      · have hne : ((rule.length : Int) != (a.ranks.length : Int)) = true := by rw [bne_iff_ne]; omega
        have HQ' : Hid (a.okR = false) := by unfold Hid; rw [HC.out, hd.out]; unfold ruleR; rw [show decide (rule.length = a.ranks.length) = false by simpa using hle]; rfl
        clear hle
        go_wp2_with fail
        refine bodyPost_ret (results_tmp rfl _ _ _) rfl ⟨?_, hG⟩
        rw [HQ'.out]
        rfl
    · have HQ' : Hid (a.okR = true) := by unfold Hid; rw [HC.out, List.drop_eq_nil_of_le (by omega)]; rfl
      go_wp2_with fail
      refine bodyPost_ret (results_tmp rfl _ _ _) rfl ⟨?_, hG⟩
      rw [HQ'.out]
      rfl
end Go.Proofs.YtjpdmncafacmaaaGreatDoor
