/- auto.Check. -/
import Derived.Test.YtjpdmncafacmaaaGreatDoorNeeds2
set_option linter.unusedVariables false
set_option linter.unusedSimpArgs false
namespace Go.Proofs.YtjpdmncafacmaaaGreatDoor
open Go.RowKit

theorem grew_set_new {w w1 : World} {g : Nat} (h : Grew w w1) (hg : w.heap.size ≤ g) (j : Nat) (u : Value) : Grew w (w1.setCell ⟨g, j, none⟩ u) := ⟨frm_set_new h.1 hg j u, h.2⟩
theorem grew_frm {w w1 : World} (h : Grew w w1) : w.grownBy w1 none := h.1

/-- An alternative of a symbol of rank r, in an automaton of n states. -/
def altOk (r n : Int) (l : List Nd) : Bool := decide (l.length ≤ 24) && !l.any (badNeed r n) && rise Nd.cmp l
def symOk (n : Int) (p : Int × List (List Nd)) : Bool := decide (p.2.length ≤ 12) && p.2.all (altOk p.1 n) && rise (cmpL Nd.cmp) p.2
def ruleOk (ranks : List Int) (n : Int) (m : List (List (List Nd))) : Bool := decide (m.length = ranks.length) && (ranks.zip m).all (symOk n)
def Au.n (a : Au) : Int := a.moves.length
/-- What Check lets pass. -/
def Au.ok (a : Au) : Bool := ranksOk a.ranks && decide (1 ≤ a.n ∧ a.n ≤ 6) && decide (0 ≤ a.start ∧ a.start < a.n) && a.moves.all (ruleOk a.ranks a.n)
/-- What a walk over an automaton in a block of its own, and its number of states in another, holds fast. -/
def CkS (w w' : World) (r m : Value) (st n : Int) : Prop := Grew w w' ∧ w'.cell? ⟨w.heap.size, 0, none⟩ = some r ∧ w'.cell? ⟨w.heap.size, 1, none⟩ = some (.int .i64 st) ∧ w'.cell? ⟨w.heap.size, 2, none⟩ = some m ∧ w'.cell? ⟨w.heap.size + 1, 0, none⟩ = some (.int .i64 n)
theorem CkS.step {w w1 w2 : World} {r m : Value} {st n : Int} (h : CkS w w1 r m st n) (hf : Grew w1 w2) : CkS w w2 r m st n :=
  ⟨grew_trans h.1 hf, frm_cell hf.1 h.2.1, frm_cell hf.1 h.2.2.1, frm_cell hf.1 h.2.2.2.1, frm_cell hf.1 h.2.2.2.2⟩
theorem CkS.size {w w1 : World} {r m : Value} {st n : Int} (h : CkS w w1 r m st n) : w.heap.size + 1 < w1.heap.size := World.block_lt_of_cell? _ _ h.2.2.2.2

theorem CkS.new (w : World) (r m : Value) (st n : Int) (T T' : TypeId) : CkS w ((w.alloc (.cells #[r, .int .i64 st, m] T)).alloc (.cells #[.int .i64 n] T')) r m st n := by
  have h1 : (w.alloc (.cells #[r, .int .i64 st, m] T)).heap[w.heap.size]? = some (.cells #[r, .int .i64 st, m] T (0, 0)) := by
    show (w.heap.push _)[w.heap.size]? = _
    simp
  have hsz : (w.alloc (.cells #[r, .int .i64 st, m] T)).heap.size = w.heap.size + 1 := by
    show (w.heap.push _).size = _
    simp
  have h2 : ((w.alloc (.cells #[r, .int .i64 st, m] T)).alloc (.cells #[.int .i64 n] T')).heap[w.heap.size]? = some (.cells #[r, .int .i64 st, m] T (0, 0)) := (Below.heap_alloc _ _ _ (by omega)).trans h1
  have h3 : OneAt ((w.alloc (.cells #[r, .int .i64 st, m] T)).alloc (.cells #[.int .i64 n] T')) (w.heap.size + 1) (.int .i64 n) T' := by
    have := OneAt.new (w.alloc (.cells #[r, .int .i64 st, m] T)) (.int .i64 n) T'
    rwa [hsz] at this
  refine ⟨grew_then_alloc (grew_alloc _ _) _, ?_, ?_, ?_, h3.cell⟩
  · unfold World.cell?; rw [h2]; rfl
  · unfold World.cell?; rw [h2]; rfl
  · unfold World.cell?; rw [h2]; rfl

theorem small_of_ok {r n : Int} {l : List Nd} (hr : r ≤ 4) (hn : n ≤ 6) (h : l.any (badNeed r n) = false) : ∀ x ∈ l, Nd.small x := by
  intro x hx
  have := List.any_eq_false.1 h x hx
  simp only [badNeed, Bool.or_eq_true, decide_eq_true_eq, not_or] at this
  unfold Nd.small
  omega

set_option maxRecDepth 100000 in
set_option maxHeartbeats 2000000 in
theorem acheck_calls (a : Au) (w : World) (r m : Value) (h : rdO AuR w a [r, .int .i64 a.start, m]) :
    Calls Tryz.prog 31 #[.agg #[r, .int .i64 a.start, m]] w (RetD w (.int .i64 (if a.ok then 0 else 10))) := by
  suffices H : ∀ q : Int, Hid (q = if a.ok then 0 else 10) → Calls Tryz.prog 31 #[.agg #[r, .int .i64 a.start, m]] w (RetD w (.int .i64 q)) from H _ rfl
  intro q HQ
  obtain ⟨r', m', he, hr, hm, hst1, hst2⟩ := h
  simp only [List.cons.injEq, and_true, true_and] at he
  obtain ⟨rfl, rfl⟩ := he
  have hR := RowS.sl hr
  have hM := RowS.sl hm
  clear hr hm
  obtain ⟨A, c, rfl, hc, hlm⟩ := hR.val
  obtain ⟨B, d, rfl, hd, hlm2⟩ := hM.val
  have hck : CkS w ((w.alloc (.cells #[.slice A a.ranks.length c, .int .i64 a.start, .slice B a.moves.length d] 25)).alloc (.cells #[.int .i64 a.moves.length] 3)) (.slice A a.ranks.length c) (.slice B a.moves.length d) a.start a.n := by
    exact CkS.new _ _ _ _ _ _ _
  go_enter Tryz.func31, Tryz.ntmps31
  go_wp2_with fail
  refine (ranks_calls a.ranks _ _ (hR.frm hck.1.1 (stays_rd moves_int))).mono ?_
  rintro e w1 ⟨rfl, hf1⟩
  have hck1 := hck.step hf1
  clear hck hf1
  obtain ⟨hG, x0, x1, x2, x3⟩ := id hck1
  have hn0 : (0 : Int) ≤ a.n := by unfold Au.n; omega
  have hnd : Hid (a.n = a.moves.length) := rfl
  simp only [show ((a.moves.length : Nat) : Int) = a.n from rfl]
  by_cases g1 : ranksOk a.ranks = false
  · have HQ' : Hid (q = 10) := by unfold Hid; rw [HQ.out, show a.ok = false by (unfold Au.ok; simp [g1])]; rfl
    go_wp2_with fail
    refine bodyPost_ret (results_tmp rfl _ _ _) rfl ⟨?_, hG⟩
    rw [HQ'.out]
    rfl
  rw [Bool.not_eq_false] at g1
  by_cases g2 : a.n < 1
  · have HQ' : Hid (q = 10) := by unfold Hid; rw [HQ.out, show a.ok = false by (unfold Au.ok; rw [show decide (1 ≤ a.n ∧ a.n ≤ 6) = false by (simp <;> omega)]; simp)]; rfl
    go_wp2_with fail
    refine bodyPost_ret (results_tmp rfl _ _ _) rfl ⟨?_, hG⟩
    rw [HQ'.out]
    rfl
  by_cases g3 : 6 < a.n
  · have HQ' : Hid (q = 10) := by unfold Hid; rw [HQ.out, show a.ok = false by (unfold Au.ok; rw [show decide (1 ≤ a.n ∧ a.n ≤ 6) = false by (simp <;> omega)]; simp)]; rfl
    go_wp2_with fail
    refine bodyPost_ret (results_tmp rfl _ _ _) rfl ⟨?_, hG⟩
    rw [HQ'.out]
    rfl
  by_cases g4 : a.start < 0
  · have HQ' : Hid (q = 10) := by unfold Hid; rw [HQ.out, show a.ok = false by (unfold Au.ok; rw [show decide (0 ≤ a.start ∧ a.start < a.n) = false by (simp <;> omega)]; simp)]; rfl
    go_wp2_with fail
    refine bodyPost_ret (results_tmp rfl _ _ _) rfl ⟨?_, hG⟩
    rw [HQ'.out]
    rfl
  by_cases g5 : a.n ≤ a.start
  · have HQ' : Hid (q = 10) := by unfold Hid; rw [HQ.out, show a.ok = false by (unfold Au.ok; rw [show decide (0 ≤ a.start ∧ a.start < a.n) = false by (simp <;> omega)]; simp)]; rfl
    go_wp2_with fail
    refine bodyPost_ret (results_tmp rfl _ _ _) rfl ⟨?_, hG⟩
    rw [HQ'.out]
    rfl
  have HOK : Hid (a.ok = a.moves.all (ruleOk a.ranks a.n)) := by
    unfold Hid Au.ok
    rw [g1, show decide (1 ≤ a.n ∧ a.n ≤ 6) = true by (simp <;> omega), show decide (0 ≤ a.start ∧ a.start < a.n) = true by (simp <;> omega)]
    rfl
  have HN : Hid (a.n ≤ 6) := by unfold Hid; omega
  have HRK := Lib.hid g1
  go_wp2_with fail
  clear x0 x1 x2 x3 hG
  go_loopw [40] (fun i wr => ∃ k : Nat, k ≤ a.moves.length ∧ i = .int .i64 k ∧ CkS w wr (.slice A a.ranks.length c) (.slice B a.moves.length d) a.start a.n ∧ Hid (a.ok = (a.moves.drop k).all (ruleOk a.ranks a.n))) (fun i _ => a.moves.length - (intOf i).toNat)
  case atStart => exact ⟨0, Nat.zero_le _, rfl, hck1, HOK⟩
  case round =>
    obtain ⟨k, hk, rfl, hck, HC⟩ := hrel
    obtain ⟨hG, x0, x1, x2, x3⟩ := id hck
    by_cases hlt : k < a.moves.length
    · obtain ⟨b, o, p0, rfl, hb, hp0, hpt⟩ := (hM.frm hck.1.1 (stays_rd moves_rule)).at1 k hlt
      have hd : Hid ((a.moves.drop k).all (ruleOk a.ranks a.n) = (ruleOk a.ranks a.n a.moves[k] && (a.moves.drop (k + 1)).all (ruleOk a.ranks a.n))) := by
        unfold Hid
        rw [List.drop_eq_getElem_cons hlt, List.all_cons]
      generalize a.moves[k] = rule at *
      obtain ⟨B1, d1, rfl, hd1, hlr⟩ := RowS.val hpt
      have hRU := RowS.sl hpt
      by_cases hle : rule.length = a.ranks.length
      · have hne : ((rule.length : Int) != (a.ranks.length : Int)) = false := by simp [hle]
        have HLE := Lib.hid hle
        have HOK2 : Hid (a.ok = ((a.ranks.zip rule).all (symOk a.n) && (a.moves.drop (k + 1)).all (ruleOk a.ranks a.n))) := by
          unfold Hid
          rw [HC.out, hd.out]
          unfold ruleOk
          rw [show decide (rule.length = a.ranks.length) = true by simpa using hle, Bool.true_and]
        clear hle HC hd
        go_wp2_with fail
        clear x0 x1 x2 x3 hG
        go_loopw [52] (fun i w' => ∃ j : Nat, j ≤ rule.length ∧ i = .int .i64 j ∧ Grew wr w' ∧ CkS w w' (.slice A a.ranks.length c) (.slice (some ⟨b, o, none⟩) a.moves.length d) a.start a.n ∧ Hid (a.ok = (((a.ranks.zip rule).drop j).all (symOk a.n) && (a.moves.drop (k + 1)).all (ruleOk a.ranks a.n)))) (fun i _ => rule.length - (intOf i).toNat)
        case atStart => exact ⟨0, Nat.zero_le _, rfl, grew_refl _, hck, HOK2⟩
        case round =>
          clear hb hp0 hck hpt
          obtain ⟨j, hj, rfl, hfj, hck, HC⟩ := hrel
          obtain ⟨hG, x0, x1, x2, x3⟩ := id hck
          by_cases hjt : j < rule.length
          · have hjr : j < a.ranks.length := by rw [← HLE.out]; exact hjt
            obtain ⟨b5, o5, p5, rfl, hb5, hp5, hpt⟩ := (hRU.frm hfj.1 (stays_rd moves_alts)).at1 j hjt
            obtain ⟨b4, o4, p4, rfl, hb4, hp4, hrt⟩ := (hR.frm hck.1.1 (stays_rd moves_int)).at1 j hjr
            obtain ⟨hrv, hr1, hr2⟩ := hrt
            simp only [List.cons.injEq, and_true] at hrv
            subst hrv
            have hd : Hid (((a.ranks.zip rule).drop j).all (symOk a.n) = (symOk a.n (a.ranks[j], rule[j]) && ((a.ranks.zip rule).drop (j + 1)).all (symOk a.n))) := by
              unfold Hid
              rw [List.drop_eq_getElem_cons (by rw [List.length_zip]; omega), List.all_cons, List.getElem_zip]
            have hrk : a.ranks[j] ≤ 4 := by
              have := g1
              unfold ranksOk at this
              simp only [Bool.and_eq_true, List.all_eq_true, decide_eq_true_eq] at this
              exact (this.1 _ (List.getElem_mem hjr)).2
            generalize rule[j] = alts at *
            generalize a.ranks[j] = rk at *
            obtain ⟨B2, d2, rfl, hd2, hla⟩ := RowS.val hpt
            have hAL := RowS.sl hpt
            by_cases h12 : 12 < alts.length
            · have HQ' : Hid (q = 10) := by unfold Hid; rw [HQ.out, show a.ok = false by (rw [HC.out, hd.out]; unfold symOk; rw [show decide (alts.length ≤ 12) = false by (simp <;> omega)]; rfl)]; rfl
              go_wp2_with fail
              refine bodyPost_ret (results_tmp rfl _ _ _) rfl ⟨?_, grew_then_alloc hG _⟩
              rw [HQ'.out]
              rfl
            · have HOK3 : Hid (a.ok = (alts.all (altOk rk a.n) && rise (cmpL Nd.cmp) alts && (((a.ranks.zip rule).drop (j + 1)).all (symOk a.n) && (a.moves.drop (k + 1)).all (ruleOk a.ranks a.n)))) := by
                unfold Hid
                rw [HC.out, hd.out]
                unfold symOk
                rw [show decide (alts.length ≤ 12) = true by (simp <;> omega), Bool.true_and, Bool.and_assoc]
              clear HC hd
              have hfa : Grew wr (wr.alloc (.cells #[.int .i64 j] 3)) := grew_alloc _ _
              have hck2 := hck.step hfa
              have hsb := OneAt.new wr (.int .i64 j) 3
              have hsc := hsb.cell
              go_wp2_with fail
              clear x0 x1 x2 x3 hG
              go_loopw [62] (fun i w' => ∃ l : Nat, l ≤ alts.length ∧ i = .int .i64 l ∧ Grew (wr.alloc (.cells #[.int .i64 j] 3)) w' ∧ CkS w w' (.slice (some ⟨b4, o4, none⟩) a.ranks.length c) (.slice (some ⟨b, o, none⟩) a.moves.length d) a.start a.n ∧ Hid (a.ok = ((alts.drop l).all (altOk rk a.n) && rise (cmpL Nd.cmp) alts && (((a.ranks.zip rule).drop (j + 1)).all (symOk a.n) && (a.moves.drop (k + 1)).all (ruleOk a.ranks a.n)))) ∧ Hid (∀ x ∈ alts.take l, ∀ z ∈ x, Nd.small z)) (fun i _ => alts.length - (intOf i).toNat)
              case atStart => exact ⟨0, Nat.zero_le _, rfl, grew_refl _, hck2, HOK3, by simp [Hid]⟩
              case round =>
                clear hb5 hp5 hck hpt hb4 hck2
                obtain ⟨l, hl, rfl, hfl, hck, HC, HS⟩ := hrel
                obtain ⟨hG, x0, x1, x2, x3⟩ := id hck
                have hfw := grew_trans hfa hfl
                have hrc := frm_cell hfw.1 hp4
                have hsc' := frm_cell hfl.1 hsc
                by_cases hlt3 : l < alts.length
                · obtain ⟨b6, o6, p6, rfl, hb6, hp6, hpt⟩ := (hAL.frm hfw.1 (stays_rd moves_alt)).at1 l hlt3
                  have hd : Hid ((alts.drop l).all (altOk rk a.n) = (altOk rk a.n alts[l] && (alts.drop (l + 1)).all (altOk rk a.n))) := by
                    unfold Hid
                    rw [List.drop_eq_getElem_cons hlt3, List.all_cons]
                  have htk := Lib.hid (List.take_succ_eq_append_getElem hlt3)
                  generalize alts[l] = alt at *
                  obtain ⟨B3, d3, rfl, hd3, hla3⟩ := RowS.val hpt
                  have hAT := RowS.sl hpt
                  by_cases h24 : 24 < alt.length
                  · have HQ' : Hid (q = 10) := by unfold Hid; rw [HQ.out, show a.ok = false by (rw [HC.out, hd.out]; unfold altOk; rw [show decide (alt.length ≤ 24) = false by (simp <;> omega)]; rfl)]; rfl
                    go_wp2_with fail
                    refine bodyPost_ret (results_tmp rfl _ _ _) rfl ⟨?_, hG⟩
                    rw [HQ'.out]
                    rfl
                  · have h24' : decide (alt.length ≤ 24) = true := by (simp <;> omega)
                    have H24 := Lib.hid h24'
                    clear h24'
                    go_wp2_with fail
                    refine (hasNeed_calls alt _ _ hAT w.heap.size _ (w.heap.size + 1) b4 o4 a.ranks.length c j rk a.n x0 hsc' x3 hrc hjr hc hlm).mono ?_
                    rintro e w4 ⟨rfl, hf4⟩
                    have hckn := hck.step hf4
                    obtain ⟨hGn, y0, y1, y2, y3⟩ := id hckn
                    cases hbn : alt.any (badNeed rk a.n)
                    · have hsm := small_of_ok hrk HN.out hbn
                      have HB := Lib.hid hbn
                      clear hbn
                      go_wp2_with fail
                      refine (risingN_calls alt hsm w4 _ (hAT.frm hf4.1 (stays_rd moves_nd))).mono ?_
                      rintro e w5 ⟨rfl, hf5⟩
                      have hcko := hckn.step hf5
                      obtain ⟨hGo, z0, z1, z2, z3⟩ := id hcko
                      cases hrs : rise Nd.cmp alt
                      · have HQ' : Hid (q = 10) := by unfold Hid; rw [HQ.out, show a.ok = false by (rw [HC.out, hd.out]; unfold altOk; rw [hrs]; simp)]; rfl
                        clear hrs hsm
                        go_wp2_with fail
                        refine bodyPost_ret (results_tmp rfl _ _ _) rfl ⟨?_, hGo⟩
                        rw [HQ'.out]
                        rfl
                      · have HD : Hid (a.ok = ((alts.drop (l + 1)).all (altOk rk a.n) && rise (cmpL Nd.cmp) alts && (((a.ranks.zip rule).drop (j + 1)).all (symOk a.n) && (a.moves.drop (k + 1)).all (ruleOk a.ranks a.n)))) := by
                          unfold Hid
                          rw [HC.out, hd.out]
                          unfold altOk
                          rw [H24.out, HB.out, hrs]
                          simp
                        have HS' : Hid (∀ x ∈ alts.take (l + 1), ∀ z ∈ x, Nd.small z) := by
                          unfold Hid
                          rw [htk.out]
                          intro x hx
                          rcases List.mem_append.1 hx with hx | hx
                          · exact HS.out x hx
                          · rw [List.mem_singleton.1 hx]
                            exact hsm
                        have hfz := grew_trans hfl (grew_trans hf4 hf5)
                        clear hrs hsm
                        go_wp2_with fail
                        exact ⟨⟨l + 1, by omega, by go_num, hfz, hcko, HD, HS'⟩, by simp [intOf]; omega⟩
                    · have HQ' : Hid (q = 10) := by unfold Hid; rw [HQ.out, show a.ok = false by (rw [HC.out, hd.out]; unfold altOk; rw [hbn]; simp)]; rfl
                      clear hbn
                      go_wp2_with fail
                      refine bodyPost_ret (results_tmp rfl _ _ _) rfl ⟨?_, hGn⟩
                      rw [HQ'.out]
                      rfl
                · obtain rfl : l = alts.length := by omega
                  have HC' : Hid (a.ok = (rise (cmpL Nd.cmp) alts && (((a.ranks.zip rule).drop (j + 1)).all (symOk a.n) && (a.moves.drop (k + 1)).all (ruleOk a.ranks a.n)))) := by
                    unfold Hid
                    rw [HC.out, List.drop_length]
                    rfl
                  have hsa : ∀ x ∈ alts, ∀ z ∈ x, Nd.small z := by
                    have := HS.out
                    rwa [List.take_length] at this
                  go_wp2_with fail
                  refine (risingL_calls alts hsa _ _ (hAL.frm hfw.1 (stays_rd moves_alt))).mono ?_
                  rintro e w4 ⟨rfl, hf4⟩
                  have hckn := hck.step hf4
                  obtain ⟨hGn, y0, y1, y2, y3⟩ := id hckn
                  cases hrs : rise (cmpL Nd.cmp) alts
                  · have HQ' : Hid (q = 10) := by unfold Hid; rw [HQ.out, show a.ok = false by (rw [HC'.out, hrs]; rfl)]; rfl
                    clear hrs
                    go_wp2_with fail
                    refine bodyPost_ret (results_tmp rfl _ _ _) rfl ⟨?_, hGn⟩
                    rw [HQ'.out]
                    rfl
                  · have HD : Hid (a.ok = (((a.ranks.zip rule).drop (j + 1)).all (symOk a.n) && (a.moves.drop (k + 1)).all (ruleOk a.ranks a.n))) := by
                      unfold Hid
                      rw [HC'.out, hrs]
                      rfl
                    have hfz := grew_trans hfj (grew_trans hfw hf4)
                    clear hrs
                    go_wp2_with fail
                    exact ⟨⟨j + 1, by omega, by go_num, hfz, hckn, HD⟩, by simp [intOf]; omega⟩
          · have HD : Hid (a.ok = (a.moves.drop (k + 1)).all (ruleOk a.ranks a.n)) := by
              unfold Hid
              rw [HC.out, List.drop_eq_nil_of_le (by rw [List.length_zip]; omega)]
              simp
            go_wp2_with fail
            exact ⟨⟨k + 1, by omega, by go_num, hck, HD⟩, by simp [intOf]; omega⟩
      · have hne : ((rule.length : Int) != (a.ranks.length : Int)) = true := by rw [bne_iff_ne]; omega
        have HQ' : Hid (q = 10) := by unfold Hid; rw [HQ.out, show a.ok = false by (rw [HC.out, hd.out]; unfold ruleOk; rw [show decide (rule.length = a.ranks.length) = false by simpa using hle]; rfl)]; rfl
        clear hle
        go_wp2_with fail
        refine bodyPost_ret (results_tmp rfl _ _ _) rfl ⟨?_, hG⟩
        rw [HQ'.out]
        rfl
    · have HQ' : Hid (q = 0) := by unfold Hid; rw [HQ.out, HC.out, List.drop_eq_nil_of_le (by omega)]; rfl
      go_wp2_with fail
      refine bodyPost_ret (results_tmp rfl _ _ _) rfl ⟨?_, hG⟩
      rw [HQ'.out]
      rfl
end Go.Proofs.YtjpdmncafacmaaaGreatDoor
