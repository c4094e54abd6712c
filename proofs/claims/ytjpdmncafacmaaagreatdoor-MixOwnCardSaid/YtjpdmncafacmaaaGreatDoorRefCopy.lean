/- The reference's Copy of automata. -/
import Derived.Test.YtjpdmncafacmaaaGreatDoorAndOr
set_option linter.unusedVariables false
set_option linter.unusedSimpArgs false
namespace Go.Proofs.YtjpdmncafacmaaaGreatDoor
open Go.RowKit

/-- An automaton is returned, in new memory that may be written. -/
def RetU (w : World) (a : Au) (e : Ending) (w' : World) : Prop :=
  ∃ r m, e = .returned (.agg #[r, .int .i64 a.start, m]) ∧ Grew w w' ∧ WR AuR (Fresh w w') w' a [r, .int .i64 a.start, m] ∧
    Own (WR RuleR) w' w.heap.size 49 1 (fun b => w.heap.size ≤ b) m a.moves ∧ WR (RowS 1 IntR) (fun b => w.heap.size ≤ b ∧ b < w'.heap.size ∧ some b ≠ m.ownBlock) w' a.ranks [r]
theorem one_nd {S : Nat → Prop} {w : World} {x : Nd} {cs : List Value} (h : NdR S w x cs) : ∀ u ∈ cs, u.oneCell' = true := by
  intro u hu
  obtain ⟨rfl, _⟩ := h
  simp only [List.mem_cons, List.not_mem_nil, or_false] at hu
  rcases hu with rfl | rfl <;> rfl
theorem one_row {α : Type} {k : Nat} {r : RdS α} {S : Nat → Prop} {w : World} {x : List α} {cs : List Value} (h : RowS k r S w x cs) : ∀ u ∈ cs, u.oneCell' = true := by
  intro u hu
  obtain ⟨v, rfl, A5, c5, rfl, _⟩ := h
  simp only [List.mem_cons, List.not_mem_nil, or_false] at hu
  subst hu
  rfl
theorem one_at {w : World} {g : Nat} {v : Value} {T : TypeId} (h : OneAt w g v T) : ∀ j u, ([v] : List Value)[j]? = some u → w.cell? ⟨g, j, none⟩ = some u := by
  intro j u hj
  match j with
  | 0 => simp at hj; subst hj; exact h.cell
  | j + 1 => simp at hj
theorem row_val {α : Type} {k : Nat} {r : RdS α} {S : Nat → Prop} {w : World} {x : List α} {v : Value} (h : RowS k r S w x [v]) : Sl S w k (r S w) x v := by
  obtain ⟨v', hv, h⟩ := h
  obtain rfl : v = v' := by simpa using hv
  exact h

set_option maxRecDepth 100000 in
set_option maxHeartbeats 2000000 in
theorem rcopy_calls (a : Au) (hok : a.ok = true) (w : World) (r m : Value) (h : rdO AuR w a [r, .int .i64 a.start, m]) :
    Calls Tryz.prog 20 #[.agg #[r, .int .i64 a.start, m]] w (RetU w a) := by
  obtain ⟨hR, hM, hs1, hs2⟩ := AuR.parts h
  obtain ⟨A, c, rfl, hc, hlm⟩ := hR.val
  obtain ⟨B, d, rfl, hd, hlm2⟩ := hM.val
  have hla := (ok_rows hok).1
  have hlr := (ranksOk_parts (ok_parts hok).1).1
  have HOK := Lib.hid hok
  have HM := Lib.hid hM
  have HR := Lib.hid hR
  clear hok h hM hR
  obtain ⟨w2, hw2⟩ : ∃ w2, w2 = ((w.alloc (.cells #[.slice A a.ranks.length c, .int .i64 a.start, .slice B a.moves.length d] 25)).alloc (.cells #[.slice none 0 0, .int .i64 0, .slice none 0 0] 25)).alloc (.cells #[.slice none 0 0, .int .i64 a.start, .slice none 0 0] 25) := ⟨_, rfl⟩
  have hG2 : Grew w w2 := by rw [hw2]; exact grew_then_alloc (grew_then_alloc (grew_alloc _ _) _) _
  have xa : ThreeAt w2 w.heap.size (.slice A a.ranks.length c) (.int .i64 a.start) (.slice B a.moves.length d) 25 := by
    rw [hw2]; exact ((ThreeAt.new w _ _ _ _).frm (frm_alloc _ _)).frm (frm_alloc _ _)
  have xr : ThreeAt w2 (w.heap.size + 1) (.slice none 0 0) (.int .i64 0) (.slice none 0 0) 25 := by
    have h := ThreeAt.new (w.alloc (.cells #[.slice A a.ranks.length c, .int .i64 a.start, .slice B a.moves.length d] 25)) (.slice none 0 0) (.int .i64 0) (.slice none 0 0) 25
    rw [World.size_alloc] at h
    rw [hw2]; exact h.frm (frm_alloc _ _)
  have xo : ThreeAt w2 (w.heap.size + 2) (.slice none 0 0) (.int .i64 a.start) (.slice none 0 0) 25 := by
    have h := ThreeAt.new ((w.alloc (.cells #[.slice A a.ranks.length c, .int .i64 a.start, .slice B a.moves.length d] 25)).alloc (.cells #[.slice none 0 0, .int .i64 0, .slice none 0 0] 25)) (.slice none 0 0) (.int .i64 a.start) (.slice none 0 0) 25
    rw [World.size_alloc, World.size_alloc] at h
    rw [hw2]; exact h
  have HW2 := Lib.hid hw2
  clear hw2
  go_enter Tryz.func20, Tryz.ntmps20
  repeat ((fail_if_success at_builtin); first | go_values | go_skip | go_guarded | go_step | go_upon)
  rw [← HW2.out]
  have hS2 : Sl (fun b => b < w.heap.size) w2 1 (IntR (fun b => b < w.heap.size) w2) a.ranks (.slice A a.ranks.length c) :=
    Sl.move HR.out (fun b hb => hb) (frm_lt hG2.1) fun x _ cs h => moves_int _ _ _ _ _ _ (fun b hb => hb) (frm_lt hG2.1) h
  have hsz2 : w.heap.size + 2 < w2.heap.size := xo.lt
  obtain ⟨v3, w3, hrun, hO3, hg3, hp3⟩ := Own.app_sl moves_int elem_int (Own.nil IntR w2 w2.heap.size 3 1 (fun _ => True)) 22 hS2 (fun b hb => ⟨trivial, by omega, fun e => by cases e⟩) (fun x cs h u hu => by
    obtain ⟨rfl, _⟩ := h
    simp only [List.mem_cons, List.not_mem_nil, or_false] at hu
    subst hu
    rfl) (by simp; omega) (by omega) (Nat.le_refl _)
  refine append_list _ _ rfl rfl rfl rfl hrun ?_
  have hG23 : Grew w2 w3 := ⟨frm_weak hg3.1, hg3.2⟩
  rw [List.nil_append] at hO3
  obtain ⟨Ar, cr, rfl, hcr⟩ := hO3.val
  replace xa := xa.frm hG23.1
  replace xr := xr.frm hG23.1
  replace xo := xo.frm hG23.1
  have hs23 := hG23.1.size
  have hXO := xo.set0 (.slice Ar a.ranks.length cr)
  have hG3 : Grew w (w3.setCell ⟨w.heap.size + 2, 0, none⟩ (.slice Ar a.ranks.length cr)) := grew_set_new (grew_trans hG2 hG23) (by omega) _ _
  have hset : ∀ q, q ≠ w.heap.size + 2 → (w3.setCell ⟨w.heap.size + 2, 0, none⟩ (.slice Ar a.ranks.length cr)).heap[q]? = w3.heap[q]? := fun q hq => Below.heap_setCell _ _ _ _ hq
  have hW3 := (own_int (ok' := fun _ => False) hO3).slW moves_int (by omega) (S := fun b => w2.heap.size ≤ b ∧ b < w3.heap.size) (fun b h _ => h.elim) (fun b hb => hO3.lt b hb)
  have hW4 : WR (RowS 1 IntR) (fun b => w.heap.size + 2 < b ∧ b < w3.heap.size) (w3.setCell ⟨w.heap.size + 2, 0, none⟩ (.slice Ar a.ranks.length cr)) a.ranks [.slice Ar a.ranks.length cr] :=
    moves_WR (moves_row moves_int) _ _ _ _ _ _ (fun b hb => ⟨by omega, hb.2⟩) (fun b hb => hset b (by omega)) hW3
  have xa4 := xa.move (hset _ (by omega))
  have xr4 := xr.move (hset _ (by omega))
  have hfz := xo.free 0
  obtain ⟨ho0, ho1, ho2⟩ := xo.cells
  have hO4 : OutAt (w3.setCell ⟨w.heap.size + 2, 0, none⟩ (.slice Ar a.ranks.length cr)) (w.heap.size + 2) w3.heap.size (.slice Ar a.ranks.length cr) a.start (.slice none 0 0) [] :=
    ⟨hXO, by omega, by simp, Own.nil _ _ _ _ _ _⟩
  have hn3 : (w3.setCell ⟨w.heap.size + 2, 0, none⟩ (.slice Ar a.ranks.length cr)).heap.size = w3.heap.size := by simp
  generalize hw4 : w3.setCell ⟨w.heap.size + 2, 0, none⟩ (.slice Ar a.ranks.length cr) = w4 at *
  have HW4 := Lib.hid hW4
  have HO4 := Lib.hid hO4
  have HG3 := Lib.hid hG3
  obtain ⟨n0, hn0⟩ : ∃ n0, n0 = w3.heap.size := ⟨_, rfl⟩
  rw [← hn0] at hn3
  have hng : w.heap.size + 2 < n0 := by omega
  have HXA := Lib.hid xa4
  have HXR := Lib.hid xr4
  have HO4 : Hid (OutAt w4 (w.heap.size + 2) n0 (.slice Ar a.ranks.length cr) a.start (.slice none 0 0) []) := by rw [hn0]; exact hO4
  have HW5 : Hid (WR (RowS 1 IntR) (fun b => w.heap.size + 2 < b ∧ b < n0) w4 a.ranks [.slice Ar a.ranks.length cr]) := by rw [hn0]; exact hW4
  obtain ⟨ha0, ha1, ha2⟩ := xa4.cells
  clear hW4 hO4 hG3 hXO hset hW3 hS2 hrun hO3 hp3 xa xr xo xa4 xr4 hn0 HW4
  go_wp2_with fail
  clear hfz ho0 ho1 ho2 hw4
  go_loopw [24] (fun i wr => ∃ k : Nat, k ≤ a.moves.length ∧ i = .int .i64 k ∧ GrewG (w.heap.size + 2) n0 w4 wr ∧ ∃ mv, OutAt wr (w.heap.size + 2) n0 (.slice Ar a.ranks.length cr) a.start mv (a.moves.take k)) (fun i _ => a.moves.length - (intOf i).toNat)
  case atStart => exact ⟨0, Nat.zero_le _, rfl, .refl _ _ _, _, HO4.out⟩
  case round =>
    obtain ⟨k, hk, rfl, hfr, mv, hO⟩ := hrel
    have hGr : Grew w wr := GrewG.grew HG3.out (by omega) (by omega) hfr
    by_cases hlt : k < a.moves.length
    · obtain ⟨b, o, p0, rfl, hb, hp0', hpt⟩ := HM.out.at1 k hlt
      have hp0 := frm_cell hGr.1 hp0'
      have HT := Lib.hid (List.take_succ_eq_append_getElem hlt)
      have hlk : (a.moves.take k).length = k := by rw [List.length_take]; omega
      have HL := Lib.hid hlk
      have HRr := Lib.hid ((ok_rows HOK.out).2 _ (List.getElem_mem hlt))
      have hrl := HRr.out.1
      generalize a.moves[k] = row at *
      have hRow := row_val hpt
      obtain ⟨A2, c2, rfl, hc2, hm2⟩ := hRow.val
      have HRow := Lib.hid hRow
      have HO := Lib.hid hO
      have hlg := hO.1.lt
      have hnw := hO.2.2.1
      have HGr := Lib.hid hGr
      clear hO hlk hpt hRow hp0' hGr
      go_wp2_with fail
      obtain ⟨wo, hwo⟩ : ∃ wo : World, wo = wr := ⟨_, rfl⟩
      subst hwo
      go_loopw [6, 30] (fun u i wq => ∃ j : Nat, j ≤ row.length ∧ i = .int .i64 j ∧ Grew wo wq ∧ Own (WR AltsR) wq wo.heap.size 50 1 (fun b => wo.heap.size ≤ b) u (row.take j)) (fun _ i _ => row.length - (intOf i).toNat)
      case atStart => exact ⟨0, Nat.zero_le _, rfl, grew_refl _, Own.nil _ _ _ _ _ _⟩
      case round =>
        obtain ⟨j, hj, rfl, hfq, hQ⟩ := hrel
        obtain ⟨Aq, cq, he, hcq⟩ := hQ.val
        have hlj : (row.take j).length = j := by rw [List.length_take]; omega
        rw [hlj] at he hcq
        subst he
        by_cases hltj : j < row.length
        · obtain ⟨b3, o3, q0, rfl, hb3, hq0', hqt⟩ := HRow.out.at1 j hltj
          have hq0 := frm_cell (grew_trans HGr.out hfq).1 hq0'
          have HT2 := Lib.hid (List.take_succ_eq_append_getElem hltj)
          obtain ⟨hal1, hal2⟩ := HRr.out.2 _ (List.getElem_mem hltj)
          generalize row[j] = alts at *
          have hAl := row_val hqt
          obtain ⟨A3, c3, rfl, hc3, hm3⟩ := hAl.val
          have HAl := Lib.hid hAl
          have HAL2 := Lib.hid hal2
          have HQ := Lib.hid hQ
          have HLJ := Lib.hid hlj
          have HFQ := Lib.hid hfq
          clear hqt hAl hq0' hQ hlj hal2 hfq
          go_wp2_with fail
          obtain ⟨wi, hwi⟩ : ∃ wi : World, wi = wr := ⟨_, rfl⟩
          subst hwi
          go_loopw [9, 36] (fun u i wz => ∃ l : Nat, l ≤ alts.length ∧ i = .int .i64 l ∧ Grew wi wz ∧ Own (WR AltR) wz wi.heap.size 76 1 (fun b => wi.heap.size ≤ b) u (alts.take l)) (fun _ i _ => alts.length - (intOf i).toNat)
          case atStart => exact ⟨0, Nat.zero_le _, rfl, grew_refl _, Own.nil _ _ _ _ _ _⟩
          case round =>
            obtain ⟨l, hl, rfl, hfz, hZ⟩ := hrel
            obtain ⟨Az, cz, he, hcz⟩ := hZ.val
            have hll : (alts.take l).length = l := by rw [List.length_take]; omega
            rw [hll] at he hcz
            subst he
            by_cases hltl : l < alts.length
            · obtain ⟨b4, o4, z0, rfl, hb4, hz0', hzt⟩ := HAl.out.at1 l hltl
              have hGz := grew_trans (grew_trans HGr.out HFQ.out) hfz
              have hz0 := frm_cell hGz.1 hz0'
              have HT3 := Lib.hid (List.take_succ_eq_append_getElem hltl)
              have hnl := (HAL2.out _ (List.getElem_mem hltl)).1
              generalize alts[l] = x at *
              have hX := row_val hzt
              obtain ⟨A4, c4, rfl, hc4, hm4⟩ := hX.val
              have HX := Lib.hid hX
              have HZ := Lib.hid hZ
              have HLL := Lib.hid hll
              clear hzt hX hz0' hZ hll
              repeat ((fail_if_success at_builtin); first | go_values | go_skip | go_guarded | go_step | go_upon)
              have hO5 := Own.empty NdR wr 80 2 (fun _ => True) (Nat.le_refl wr.heap.size)
              have hGz5 := grew_then_alloc hGz (.cells #[] 80)
              have hS5 : Sl (fun b => b < w.heap.size) (wr.alloc (.cells #[] 80)) 2 (NdR (fun b => b < w.heap.size) (wr.alloc (.cells #[] 80))) x (.slice A4 x.length c4) :=
                Sl.move HX.out (fun b hb => hb) (frm_lt hGz5.1) fun x _ cs h => moves_nd _ _ _ _ _ _ (fun b hb => hb) (frm_lt hGz5.1) h
              have hszr := hGz.1.size
              obtain ⟨v6, w6, hrun, hO6, hg6, hp6⟩ := Own.app_sl moves_nd elem_nd hO5 76 hS5 (fun b hb => ⟨trivial, by simp; omega, fun e => by
                have e2 : some b = some wr.heap.size := e
                injection e2 with e2
                omega⟩) (fun x cs h => one_nd h) (by simp; omega) (by omega) (by simp)
              refine append_list _ _ rfl rfl rfl rfl hrun ?_
              have hG6 : Grew wr w6 := grew_new (grew_alloc wr _) (Nat.le_refl _) hg6
              rw [List.nil_append] at hO6
              have hl6 := hO6.lt
              have hW6 : WR AltR (fun b => wr.heap.size ≤ b ∧ b < w6.heap.size) w6 x [v6] := Own.slW (r := NdR) moves_nd (ok := fun _ => False) (show Own (WR NdR) w6 wr.heap.size _ 2 (fun _ => False) v6 x from hO6) (by omega) (fun b h _ => h.elim) (fun b hb => hl6 b hb)
              obtain ⟨A6, c6, rfl, hc6⟩ := hO6.val
              have HW6 := Lib.hid hW6
              have HL6 := Lib.hid hl6
              clear hrun hO6 hO5 hS5 hW6 hl6 hp6
              repeat ((fail_if_success at_builtin); first | go_values | go_skip | go_guarded | go_step | go_upon)
              have hf7 : Grew wr (w6.alloc (.cells #[.slice A6 x.length c6] 76)) := grew_then_alloc hG6 _
              have hO7 := HZ.out.kept (moves_WR moves_alt) hf7.1 (ownNone _) (by simp)
              have htw := OneAt.new w6 (.slice A6 x.length c6) 76
              have hlen := HLL.out
              have hs6 := hG6.1.size
              have hsi := hfz.1.size
              have hltO := HZ.out.lt
              refine Own.app1 (moves_WR moves_alt) elem_alt hO7 rfl _ _ rfl rfl rfl x [.slice A6 x.length c6] rfl (one_at htw) ?_ ?_ (by rw [hlen]; omega) (by omega) (by simp; omega) ?_
              · intro u hu
                simp at hu
                subst hu
                rfl
              · refine moves_WR moves_alt _ _ _ _ _ _ (fun q hq => ⟨by omega, by simp; omega, fun e => ?_⟩) (fun q hq => Below.heap_alloc _ _ _ (by omega)) HW6.out
                have := (hltO q e.symm).2
                omega
              intro v8 w8 hO8 hg8 hp8
              have hfr8 : Grew wi w8 := grew_own (grew_trans hfz hf7) (fun b hb => (hltO b hb).1) hg8.1 hg8.2
              rw [← HT3.out] at hO8
              obtain ⟨A8, c8, he8, hcc8⟩ := hO8.val
              have HO8 := Lib.hid hO8
              clear hO8 hO7 htw hltO
              rw [show (alts.take (l + 1)).length = l + 1 by rw [List.length_take]; omega] at he8
              subst he8
              go_wp2_with fail
              exact ⟨⟨l + 1, by omega, by go_num, hfr8, HO8.out⟩, by simp [intOf]; omega⟩
            · obtain rfl : l = alts.length := by omega
              rw [List.take_length] at hZ
              have hsi := hfz.1.size
              have hWz := hZ.slW moves_alt (by omega) (S := fun b => wi.heap.size ≤ b ∧ b < wr.heap.size) (fun b h1 h2 => ⟨h1, h2⟩) (fun b hb => hZ.lt b hb)
              have HWz := Lib.hid hWz
              clear hZ hll hWz
              repeat ((fail_if_success at_builtin); first | go_values | go_skip | go_guarded | go_step | go_upon)
              have hf5 : Grew wi (wr.alloc (.cells #[.slice Az alts.length cz] 50)) := grew_then_alloc hfz _
              have hO5 := HQ.out.kept (moves_WR moves_alts) hf5.1 (ownNone _) (by simp)
              have htw := OneAt.new wr (.slice Az alts.length cz) 50
              have hlen := HLJ.out
              have hso := HFQ.out.1.size
              have hltO := HQ.out.lt
              refine Own.app1 (moves_WR moves_alts) elem_alts hO5 rfl _ _ rfl rfl rfl alts [.slice Az alts.length cz] rfl (one_at htw) ?_ ?_ (by rw [hlen]; omega) (by omega) (by simp; omega) ?_
              · intro u hu
                simp at hu
                subst hu
                rfl
              · refine moves_WR moves_alts _ _ _ _ _ _ (fun q hq => ⟨by omega, by simp; omega, fun e => ?_⟩) (fun q hq => Below.heap_alloc _ _ _ (by omega)) HWz.out
                have := (hltO q e.symm).2
                omega
              intro v7 w7 hO7 hg7 hp7
              have hfr7 : Grew wo w7 := grew_own (grew_trans HFQ.out hf5) (fun b hb => (hltO b hb).1) hg7.1 hg7.2
              rw [← HT2.out] at hO7
              obtain ⟨A7, c7, he7, hcc7⟩ := hO7.val
              have HO7 := Lib.hid hO7
              clear hO7 hO5 htw hltO
              rw [show (row.take (j + 1)).length = j + 1 by rw [List.length_take]; omega] at he7
              subst he7
              go_wp2_with fail
              exact ⟨⟨j + 1, by omega, by go_num, hfr7, HO7.out⟩, by simp [intOf]; omega⟩
        · obtain rfl : j = row.length := by omega
          rw [List.take_length] at hQ
          have hO1 := HO.out.grew hfq
          obtain ⟨hc0, hc1, hc2'⟩ := hO1.1.cells
          obtain ⟨Am, cm, hme, hmc⟩ := hO1.2.2.2.val
          rw [HL.out] at hme hmc
          subst hme
          have hsq := hfq.1.size
          have hWq := hQ.slW moves_alts (by omega) (S := fun b => wo.heap.size ≤ b ∧ b < wr.heap.size) (fun b h1 h2 => ⟨h1, h2⟩) (fun b hb => hQ.lt b hb)
          have HWq := Lib.hid hWq
          have HO1 := Lib.hid hO1
          clear hWq hQ hO1 hlj
          repeat ((fail_if_success at_builtin); first | go_values | go_skip | go_guarded | go_step | go_upon)
          have hf5 : Grew wr (wr.alloc (.cells #[.slice Aq row.length cq] 49)) := grew_alloc _ _
          have hO5 := (HO1.out.grew hf5)
          have htw := OneAt.new wr (.slice Aq row.length cq) 49
          have hlen := HL.out
          have hltO := hO5.2.2.2.lt
          have hltO1 := HO1.out.2.2.2.lt
          refine Own.app1 (moves_WR moves_rule) elem_rule hO5.2.2.2 rfl _ _ rfl rfl rfl row [.slice Aq row.length cq] rfl (one_at htw) ?_ ?_ (by rw [hlen]; omega) (by omega) (by simp; omega) ?_
          · intro u hu
            simp at hu
            subst hu
            rfl
          · refine moves_WR moves_rule _ _ _ _ _ _ (fun q hq => ⟨by omega, by simp; omega, fun e => ?_⟩) (fun q hq => Below.heap_alloc _ _ _ (by omega)) HWq.out
            have hO2 := HO.out.2.2.2.lt q e.symm
            omega
          intro v7 w7 hO7 hg7 hp7
          rw [← HT.out] at hO7
          have hT7 : ThreeAt w7 (w.heap.size + 2) (.slice Ar a.ranks.length cr) (.int .i64 a.start) (.slice Am k cm) 25 := hO5.1.move (hg7.1.block _ (by simp; omega) (fun e => by have := (hltO _ e.symm).1; omega))
          have hG7 : GrewG (w.heap.size + 2) n0 wo w7 := (GrewG.of (grew_trans hfq hf5) (by omega)).trans (.ofR hg7 (by simp; omega) (fun q hq => by have := (hltO q hq).1; omega))
          obtain ⟨A7, c7, he7, hcc7⟩ := hO7.val
          rw [show (a.moves.take (k + 1)).length = k + 1 by rw [List.length_take]; omega] at he7
          have hT8 := hT7.set2 v7
          have hO8 := hO7.kept (moves_WR moves_rule) (w' := w7.setCell ⟨w.heap.size + 2, 2, none⟩ v7) (row := some (w.heap.size + 2)) (frm_set (frm_refl _ _) _ _) (.inr fun e => by have := (hO7.lt _ e).1; omega) (fun q hq e => by injection e with e; omega)
          have HG8 := Lib.hid (hfr.trans (hG7.set 2 v7))
          obtain ⟨hd0, hd1, hd2⟩ := hT7.cells
          have hfz7 := hT7.free 2
          have HO8 := Lib.hid (show OutAt (w7.setCell ⟨w.heap.size + 2, 2, none⟩ v7) (w.heap.size + 2) n0 (.slice Ar a.ranks.length cr) a.start v7 (a.moves.take (k + 1)) from ⟨hT8, by omega, by have := hg7.1.size; simp at this ⊢; omega, hO8⟩)
          clear hO7 hO5 htw hltO hO8 hT8 hT7 hG7
          subst he7
          go_wp2_with fail
          exact ⟨⟨k + 1, by omega, by go_num, HG8.out, _, HO8.out⟩, by simp [intOf]; omega⟩
    · obtain rfl : k = a.moves.length := by omega
      rw [List.take_length] at hO
      obtain ⟨hO1, _, hnw, hO2⟩ := hO
      have hsl9 := hO2.slW moves_rule (S := fun q => w.heap.size + 2 < q ∧ q < wr.heap.size) (by omega) (fun q h1 h2 => ⟨by omega, h2⟩) (fun q hq => by have := hO2.lt q hq; omega)
      have hrk9 : WR (RowS 1 IntR) (fun q => w.heap.size + 2 < q ∧ q < wr.heap.size) wr a.ranks [.slice Ar a.ranks.length cr] :=
        moves_WR (moves_row moves_int) _ _ _ _ _ _ (fun q hq => ⟨by omega, by omega⟩) (fun q hq => hfr.block q (by omega) (by omega)) HW5.out
      obtain ⟨Am, cm, hme, hmc⟩ := hO2.val
      subst hme
      have HAU : Hid (WR AuR (fun q => w.heap.size + 2 < q ∧ q < wr.heap.size) wr a [.slice Ar a.ranks.length cr, .int .i64 a.start, .slice Am a.moves.length cm]) := ⟨_, _, rfl, hrk9, hsl9, hs1, hs2⟩
      obtain ⟨he0, he1, he2⟩ := hO1.cells
      have xr9 := HXR.out.move (hfr.block _ (by omega) (by omega))
      obtain ⟨hx0, hx1, hx2⟩ := xr9.cells
      have hxf0 := xr9.free 0
      have hxf1 := xr9.free 1
      have hxf2 := xr9.free 2
      have HO2 := Lib.hid hO2
      have hlt2 := hO2.lt
      have HRK : Hid (WR (RowS 1 IntR) (fun q => w.heap.size + 2 < q ∧ q < n0) wr a.ranks [.slice Ar a.ranks.length cr]) :=
        moves_WR (moves_row moves_int) _ _ _ _ _ _ (fun q hq => hq) (fun q hq => hfr.block q (by omega) (by omega)) HW5.out
      clear hsl9 hrk9 hO2 hO1 xr9
      go_wp2_with fail
      refine bodyPost_ret (v := .agg #[.slice Ar a.ranks.length cr, .int .i64 a.start, .slice Am a.moves.length cm]) (by simp [results, Tryz.results20, go_sem, hx0, hx1, hx2, hxf0, hxf1, hxf2]) rfl ⟨_, _, rfl, ?_, ?_, ?_, ?_⟩
      · exact grew_set_new (grew_set_new (grew_set_new hGr (by omega) _ _) (by omega) _ _) (by omega) _ _
      · refine moves_WR moves_au _ _ _ _ _ _ (fun q hq => ⟨by omega, by simp; omega⟩) (fun q hq => ?_) HAU.out
        rw [Below.heap_setCell _ _ _ _ (by show q ≠ w.heap.size + 1; omega), Below.heap_setCell _ _ _ _ (by show q ≠ w.heap.size + 1; omega), Below.heap_setCell _ _ _ _ (by show q ≠ w.heap.size + 1; omega)]
      · have h := HO2.out.kept (moves_WR moves_rule) (w' := ((wr.setCell ⟨w.heap.size + 1, 0, none⟩ (.slice Ar a.ranks.length cr)).setCell ⟨w.heap.size + 1, 1, none⟩ (.int .i64 a.start)).setCell ⟨w.heap.size + 1, 2, none⟩ (.slice Am a.moves.length cm)) (row := some (w.heap.size + 1))
          (frm_set (frm_set (frm_set (frm_refl _ _) _ _) _ _) _ _) (.inr fun e => by have := hlt2 _ e; omega) (fun b hb e => by injection e with e; omega)
        exact (h.lower (show w.heap.size ≤ n0 by omega)).ok_mono (moves_WR moves_rule) (fun b h _ => by omega)
      · refine moves_WR (moves_row moves_int) _ _ _ _ _ _ (fun q hq => ⟨by omega, by simp; omega, fun e => ?_⟩) (fun q hq => ?_) HRK.out
        · have := hlt2 q e.symm
          omega
        · rw [Below.heap_setCell _ _ _ _ (by show q ≠ w.heap.size + 1; omega), Below.heap_setCell _ _ _ _ (by show q ≠ w.heap.size + 1; omega), Below.heap_setCell _ _ _ _ (by show q ≠ w.heap.size + 1; omega)]
end Go.Proofs.YtjpdmncafacmaaaGreatDoor
