/- The reference's both. -/
import Derived.Test.YtjpdmncafacmaaaDoorRefBothR
import Derived.Deep.RegionLaw
set_option linter.unusedVariables false
set_option linter.unusedSimpArgs false
namespace Go.Proofs.YtjpdmncafacmaaaDoor
open Go.RowKit


set_option maxRecDepth 100000 in
set_option maxHeartbeats 4000000 in
theorem rand_calls (a b : Au) (w : World) (r m r' m' : Value) (ha : rdO AuR w a [r, .int .i64 a.start, m]) (hb : rdO AuR w b [r', .int .i64 b.start, m']) :
    Calls Tryd.prog 26 #[.agg #[r, .int .i64 a.start, m], .agg #[r', .int .i64 b.start, m'], .bool true] w (RetA w (rJoinV true a b) (rJoinE true a b)) := by
  obtain ⟨hR, hM, hs1, hs2⟩ := AuR.parts ha
  obtain ⟨hR', hM', hs1', hs2'⟩ := AuR.parts hb
  obtain ⟨A, c, rfl, hc, hlm⟩ := hR.val
  obtain ⟨B, d, rfl, hd, hlm2⟩ := hM.val
  obtain ⟨A', c', rfl, hc', hlm'⟩ := hR'.val
  obtain ⟨B', d', rfl, hd', hlm2'⟩ := hM'.val
  have HA := Lib.hid ha
  have HB := Lib.hid hb
  have HM := Lib.hid hM
  have HM' := Lib.hid hM'
  have HR := Lib.hid hR
  have HR' := Lib.hid hR'
  clear ha hb hM hM' hR hR'
  obtain ⟨w2, hw2⟩ : ∃ w2, w2 = ((w.alloc (.cells #[.slice A a.ranks.length c, .int .i64 a.start, .slice B a.moves.length d] 25)).alloc (.cells #[.slice A' b.ranks.length c', .int .i64 b.start, .slice B' b.moves.length d'] 25)).alloc (.cells #[.slice none 0 0, .int .i64 0, .slice none 0 0] 25) := ⟨_, rfl⟩
  have hG2 : Grew w w2 := by rw [hw2]; exact grew_then_alloc (grew_then_alloc (grew_alloc _ _) _) _
  have xa : ThreeAt w2 w.heap.size (.slice A a.ranks.length c) (.int .i64 a.start) (.slice B a.moves.length d) 25 := by
    rw [hw2]; exact ((ThreeAt.new w _ _ _ _).frm (frm_alloc _ _)).frm (frm_alloc _ _)
  have xb : ThreeAt w2 (w.heap.size + 1) (.slice A' b.ranks.length c') (.int .i64 b.start) (.slice B' b.moves.length d') 25 := by
    have h := ThreeAt.new (w.alloc (.cells #[.slice A a.ranks.length c, .int .i64 a.start, .slice B a.moves.length d] 25)) (.slice A' b.ranks.length c') (.int .i64 b.start) (.slice B' b.moves.length d') 25
    rw [World.size_alloc] at h
    rw [hw2]; exact h.frm (frm_alloc _ _)
  have xo : ThreeAt w2 (w.heap.size + 2) (.slice none 0 0) (.int .i64 0) (.slice none 0 0) 25 := by
    have h := ThreeAt.new ((w.alloc (.cells #[.slice A a.ranks.length c, .int .i64 a.start, .slice B a.moves.length d] 25)).alloc (.cells #[.slice A' b.ranks.length c', .int .i64 b.start, .slice B' b.moves.length d'] 25)) (.slice none 0 0) (.int .i64 0) (.slice none 0 0) 25
    rw [World.size_alloc, World.size_alloc] at h
    rw [hw2]; exact h
  have hP := ris_calls a w2 _ _ (rdO_frm moves_au hG2.1 HA.out)
  rw [hw2] at hP
  have HP := Lib.hid hP
  have HW2 := Lib.hid hw2
  have hlt2 := xo.lt
  clear hw2 hP
  go_enter Tryd.func26, Tryd.ntmps26
  go_wp2_with fail
  refine HP.out.mono ?_
  rw [← HW2.out]
  rintro e w3 ⟨rfl, hf3⟩
  have hG3 := grew_trans hG2 hf3
  replace xa := xa.frm hf3.1
  replace xb := xb.frm hf3.1
  replace xo := xo.frm hf3.1
  have hs3 := hf3.1.size
  cases hao : a.okR
  · have HJ : Hid (rJoinE true a b = 10 ∧ rJoinV true a b = Au.zero) := by
      have h1 : rJoinE true a b = 10 := by unfold rJoinE; rw [if_pos (.inl hao)]
      exact ⟨h1, by unfold rJoinV; rw [h1, if_neg (by omega)]⟩
    obtain ⟨kx0, kx1, kx2⟩ := xo.cells
    have kxf0 := xo.free 0
    have kxf1 := xo.free 1
    have kxf2 := xo.free 2
    have hGz := hG3
    clear hao
    go_wp2_with fail
    refine bodyPost_ret (v := .tuple #[.agg #[.slice none 0 0, .int .i64 0, .slice none 0 0], .int .i64 10]) (by simp [results, Tryd.results26, go_sem, kx0, kx1, kx2, kxf0, kxf1, kxf2]) rfl ⟨.slice none 0 0, .slice none 0 0, by rw [HJ.out.1, HJ.out.2]; rfl, ?_, by rw [HJ.out.2]; exact au_zero _ _⟩
    exact grew_set_new (grew_set_new (grew_set_new hGz (by omega) _ _) (by omega) _ _) (by omega) _ _
  have HAR := Lib.hid hao
  clear hao
  obtain ⟨xb0, xb1, xb2⟩ := xb.cells
  obtain ⟨xa0, xa1, xa2⟩ := xa.cells
  go_wp2_with fail
  refine (ris_calls b w3 _ _ (rdO_frm moves_au hG3.1 HB.out)).mono ?_
  rintro e w4 ⟨rfl, hf4⟩
  clear xb0 xb1 xb2 xa0 xa1 xa2
  have hG4 := grew_trans hG3 hf4
  replace xa := xa.frm hf4.1
  replace xb := xb.frm hf4.1
  replace xo := xo.frm hf4.1
  have hs4 := hf4.1.size
  cases hbo : b.okR
  · have HJ : Hid (rJoinE true a b = 10 ∧ rJoinV true a b = Au.zero) := by
      have h1 : rJoinE true a b = 10 := by unfold rJoinE; rw [if_pos (.inr hbo)]
      exact ⟨h1, by unfold rJoinV; rw [h1, if_neg (by omega)]⟩
    obtain ⟨kx0, kx1, kx2⟩ := xo.cells
    have kxf0 := xo.free 0
    have kxf1 := xo.free 1
    have kxf2 := xo.free 2
    have hGz := hG4
    clear hbo
    go_wp2_with fail
    refine bodyPost_ret (v := .tuple #[.agg #[.slice none 0 0, .int .i64 0, .slice none 0 0], .int .i64 10]) (by simp [results, Tryd.results26, go_sem, kx0, kx1, kx2, kxf0, kxf1, kxf2]) rfl ⟨.slice none 0 0, .slice none 0 0, by rw [HJ.out.1, HJ.out.2]; rfl, ?_, by rw [HJ.out.2]; exact au_zero _ _⟩
    exact grew_set_new (grew_set_new (grew_set_new hGz (by omega) _ _) (by omega) _ _) (by omega) _ _
  have HBR := Lib.hid hbo
  clear hbo
  obtain ⟨xb0, xb1, xb2⟩ := xb.cells
  obtain ⟨xa0, xa1, xa2⟩ := xa.cells
  go_wp2_with fail
  refine (rsameR_calls a.ranks b.ranks w4 _ _ (HR.out.frm hG4.1 (stays_rd moves_int)) (HR'.out.frm hG4.1 (stays_rd moves_int))).mono ?_
  rintro e w5 ⟨rfl, hf5⟩
  clear xb0 xb1 xb2 xa0 xa1 xa2
  have hG5 := grew_trans hG4 hf5
  replace xa := xa.frm hf5.1
  replace xb := xb.frm hf5.1
  replace xo := xo.frm hf5.1
  have hs5 := hf5.1.size
  rcases (Decidable.em (a.ranks = b.ranks)).symm with hrk | hrk
  · have HJ : Hid (rJoinE true a b = 2 ∧ rJoinV true a b = Au.zero) := by
      have h1 : rJoinE true a b = 2 := by unfold rJoinE; rw [if_neg (by rw [HAR.out, HBR.out]; simp), if_neg hrk]
      exact ⟨h1, by unfold rJoinV; rw [h1, if_neg (by omega)]⟩
    obtain ⟨kx0, kx1, kx2⟩ := xo.cells
    have kxf0 := xo.free 0
    have kxf1 := xo.free 1
    have kxf2 := xo.free 2
    have hGz := hG5
    rw [decide_eq_false hrk]
    clear hrk
    go_wp2_with fail
    refine bodyPost_ret (v := .tuple #[.agg #[.slice none 0 0, .int .i64 0, .slice none 0 0], .int .i64 2]) (by simp [results, Tryd.results26, go_sem, kx0, kx1, kx2, kxf0, kxf1, kxf2]) rfl ⟨.slice none 0 0, .slice none 0 0, by rw [HJ.out.1, HJ.out.2]; rfl, ?_, by rw [HJ.out.2]; exact au_zero _ _⟩
    exact grew_set_new (grew_set_new (grew_set_new hGz (by omega) _ _) (by omega) _ _) (by omega) _ _
  rw [decide_eq_true hrk]
  have HRK := Lib.hid hrk
  have hao : a.ok = true := by rw [ok_eq]; exact HAR.out
  have hbo : b.ok = true := by rw [ok_eq]; exact HBR.out
  have hla := (ok_rows hao).1
  have hlb := (ok_rows hbo).1
  have hlr := (ranksOk_parts (ok_parts hao).1).1
  have HAO := Lib.hid hao
  have HBO := Lib.hid hbo
  have HE : Hid (rJoinE true a b = if (rJoinA true a b).okR then 0 else 3) := by unfold Hid rJoinE; rw [if_neg (by rw [HAR.out, HBR.out]; simp), if_pos hrk]
  clear hrk hao hbo
  obtain ⟨xb0, xb1, xb2⟩ := xb.cells
  obtain ⟨xa0, xa1, xa2⟩ := xa.cells
  go_wp2_with fail
  refine (rcopy_calls a HAO.out w5 _ _ (rdO_frm moves_au hG5.1 HA.out)).mono ?_
  rintro e w6 ⟨r6, m6, rfl, hf6, hau6, hO6, hR6⟩
  clear xb0 xb1 xb2 xa0 xa1 xa2
  have hG6 := grew_trans hG5 hf6
  replace xa := xa.frm hf6.1
  replace xb := xb.frm hf6.1
  replace xo := xo.frm hf6.1
  have hs6 := hf6.1.size
  obtain ⟨A6, c6, rfl⟩ := row_slice hR6
  obtain ⟨B6, d6, rfl, hd6⟩ := hO6.val
  have hlt6 := hO6.lt
  replace hO6 := (hO6.ok_mono (moves_WR moves_rule) (ok' := fun q => q ≠ w6.heap.size) (fun q h hl => by omega)).imp (fun S w x cs h => WR.rd moves_rule h)
  have HO6 := Lib.hid hO6
  have HR6 := Lib.hid hR6
  have HLT6 := Lib.hid hlt6
  clear hau6 hO6 hR6 hlt6
  obtain ⟨yb0, yb1, yb2⟩ := xb.cells
  have hybl := xb.lt
  go_wp2_with fail
  clear yb0 yb1 yb2
  have tg := ThreeAt.new w6 (.slice A6 a.ranks.length c6) (.int .i64 a.start) (.slice B6 a.moves.length d6) 25
  have hG7 : Grew w (w6.alloc (.cells #[.slice A6 a.ranks.length c6, .int .i64 a.start, .slice B6 a.moves.length d6] 25)) := grew_then_alloc hG6 _
  have hs7 : (w6.alloc (.cells #[.slice A6 a.ranks.length c6, .int .i64 a.start, .slice B6 a.moves.length d6] 25)).heap.size = w6.heap.size + 1 := World.size_alloc _ _
  have hfa : Grew w6 (w6.alloc (.cells #[.slice A6 a.ranks.length c6, .int .i64 a.start, .slice B6 a.moves.length d6] 25)) := grew_alloc _ _
  replace xa := xa.frm hfa.1
  replace xb := xb.frm hfa.1
  replace xo := xo.frm hfa.1
  have HO7 := Lib.hid (HO6.out.kept moves_rule hfa.1 (ownNone _) (by simp))
  have HR7 := Lib.hid (HR6.out.mv (moves_row moves_int) (fun q hq => hq) (fun q hq => frm_lt hfa.1 q hq.2.1))
  generalize w6.alloc (.cells #[.slice A6 a.ranks.length c6, .int .i64 a.start, .slice B6 a.moves.length d6] 25) = w7 at *
  obtain ⟨xa0, xa1, xa2⟩ := xa.cells
  obtain ⟨xb0, xb1, xb2⟩ := xb.cells
  have hn0 : 0 ≤ a.n ∧ a.n = (a.moves.length : Int) := ⟨by unfold Au.n; omega, rfl⟩
  have HN := Lib.hid hn0
  clear hn0
  -- the states' numbers
  go_loopw [9, 47] (fun z i wr => ∃ k : Nat, k ≤ b.moves.length ∧ i = .int .i64 k ∧ Grew w7 wr ∧ Own IntR wr w7.heap.size 3 1 (fun _ => True) z ((List.range k).map fun q => a.n + (q : Nat))) (fun _ i _ => b.moves.length - (intOf i).toNat)
  case atStart => exact ⟨0, Nat.zero_le _, rfl, grew_refl _, Own.nil _ _ _ _ _ _⟩
  case round =>
    obtain ⟨k, hk, rfl, hfr, hO⟩ := hrel
    obtain ⟨Aw, cu, he, hcu⟩ := hO.val
    have hlk : ((List.range k).map fun q => a.n + (q : Nat)).length = k := by simp
    rw [hlk] at he hcu
    subst he
    replace xa := xa.frm hfr.1
    replace xb := xb.frm hfr.1
    replace xo := xo.frm hfr.1
    replace tg := tg.frm hfr.1
    obtain ⟨xa0, xa1, xa2⟩ := xa.cells
    obtain ⟨xb0, xb1, xb2⟩ := xb.cells
    have HOk := Lib.hid hO
    have HLK := Lib.hid hlk
    clear hO hlk
    by_cases hlt : k < b.moves.length
    · have HT : Hid (((List.range (k + 1)).map fun q => a.n + (q : Nat)) = ((List.range k).map fun q => a.n + (q : Nat)) ++ [a.n + (k : Nat)]) := by
        unfold Hid
        rw [List.range_succ, List.map_append]
        rfl
      have hsum : IntKind.i64.wrap ((a.moves.length : Int) + k) = (a.moves.length : Int) + k := IntWalk.i64_in _ (by omega)
      repeat ((fail_if_success at_builtin); first | go_values | go_skip | go_guarded | go_step | go_upon)
      have hf5' := grew_alloc wr (.cells #[.int .i64 ((a.moves.length : Int) + k)] 3)
      have hO5 := HOk.out.kept moves_int hf5'.1 (ownNone _) (by simp)
      have htw := OneAt.new wr (.int .i64 ((a.moves.length : Int) + k)) 3
      have hltO := HOk.out.lt
      have hsr := hfr.1.size
      refine Own.app1 moves_int elem_int hO5 rfl _ _ rfl rfl rfl (a.n + (k : Nat)) [.int .i64 ((a.moves.length : Int) + k)] rfl (one_at htw) ?_ ⟨rfl, by rw [HN.out.2]; omega, by rw [HN.out.2]; omega⟩ (by rw [HLK.out]; omega) (by omega) (by simp; omega) ?_
      · intro u hu
        simp at hu
        subst hu
        rfl
      intro v8 w8 hO8 hg8 hp8
      have hfr8 : Grew w7 w8 := grew_own (grew_trans hfr hf5') (fun q hq => (hltO q hq).1) hg8.1 hg8.2
      rw [← HT.out] at hO8
      obtain ⟨A8, c8, he8, _⟩ := hO8.val
      rw [show ((List.range (k + 1)).map fun q => a.n + (q : Nat)).length = k + 1 by simp] at he8
      have HO8 := Lib.hid hO8
      clear hO8 hO5 htw hltO hsum
      subst he8
      go_wp2_with fail
      exact ⟨⟨k + 1, by omega, by go_num, hfr8, HO8.out⟩, by simp [intOf]; omega⟩
    · obtain rfl : k = b.moves.length := by omega
      obtain ⟨w8, hw8⟩ : ∃ w8, w8 = wr := ⟨_, rfl⟩
      subst hw8
      have hG8 := grew_trans hG7 hfr
      have hs8 := hfr.1.size
      have HTO : Hid (Sl (fun q => w7.heap.size ≤ q ∧ q < w8.heap.size) w8 1 (IntR (fun q => w7.heap.size ≤ q ∧ q < w8.heap.size) w8) (toB a b) (.slice Aw b.moves.length cu)) := by
        have h := (own_int (ok' := fun _ => False) HOk.out).sl2 (moves_WR moves_int) (by rw [HLK.out]; omega) (S := fun q => w7.heap.size ≤ q ∧ q < w8.heap.size) (fun q h _ => h.elim) (fun q hq => HOk.out.lt q hq)
        exact h
      have HO8 := Lib.hid (HO7.out.kept moves_rule hfr.1 (ownNone _) (by simp))
      have HR8 := Lib.hid (HR7.out.mv (moves_row moves_int) (fun q hq => hq) (fun q hq => frm_lt hfr.1 q (by omega)))
      have HG8 := Lib.hid hG8
      have HXA := Lib.hid xa
      have HXB := Lib.hid xb
      have HXO := Lib.hid xo
      have HTG := Lib.hid tg
      have hnb := HN.out
      have HTLN : Hid ((toB a b).length = b.moves.length) := by unfold Hid toB; simp
      clear hnb xa0 xa1 xa2 xb0 xb1 xb2 HOk HLK tg xa xb xo
      obtain ⟨xb0, xb1, xb2⟩ := HXB.out.cells
      go_wp2_with fail
      -- b's rows
      have hrow0 : ∀ q, (Value.slice B6 a.moves.length d6).ownBlock = some q → q < w6.heap.size := fun q hq => (HLT6.out q hq).2
      have HROW := Lib.hid hrow0
      clear hrow0
      go_loopw [62] (fun i wr => ∃ (k : Nat) (mv : Value) (acc : List (List (List (List Nd)))), k ≤ b.moves.length ∧ i = .int .i64 k ∧ acc.length = a.moves.length + k ∧ Hid (acc = a.moves ++ (b.moves.take k).map (·.map (rmv (toL (toB a b))))) ∧
        BR w8 (Value.slice B6 a.moves.length d6).ownBlock w6.heap.size w5.heap.size (.slice A6 a.ranks.length c6) a.start mv acc wr) (fun i _ => b.moves.length - (intOf i).toNat)
      case atStart =>
        exact ⟨0, .slice B6 a.moves.length d6, a.moves, Nat.zero_le _, rfl, rfl, by unfold Hid; simp, .refl _ _, .inl rfl, HTG.out, HO8.out⟩
      case round =>
        obtain ⟨k, mv, acc, hk, rfl, hal, HACC, hBR⟩ := hrel
        have hGw : Grew w wr := GrewP.grew HG8.out (fun q hq => ⟨by omega, fun e => by have := (HLT6.out q e.symm).1; omega⟩) hBR.1
        have hgw8 : w6.heap.size < w8.heap.size := by omega
        obtain ⟨gc0, gc1, gc2⟩ := hBR.2.2.1.cells
        obtain ⟨Am, cm, hme, hmc⟩ := hBR.2.2.2.val
        rw [hal] at hme hmc
        subst hme
        by_cases hlt : k < b.moves.length
        · obtain ⟨bB, oB, p0, rfl, hbb, hp0', hpt⟩ := HM'.out.at1 k hlt
          have hp0 := frm_cell hGw.1 hp0'
          have HT : Hid (acc ++ [(b.moves[k]).map (rmv (toL (toB a b)))] = a.moves ++ (b.moves.take (k + 1)).map (·.map (rmv (toL (toB a b))))) := by
            unfold Hid
            rw [List.take_succ_eq_append_getElem hlt, List.map_append, ← List.append_assoc, HACC.out]
            rfl
          have HOS := Lib.hid (ok_state HBO.out _ (List.getElem_mem hlt))
          have HOR := Lib.hid ((ok_rows HBO.out).2 _ (List.getElem_mem hlt))
          have hrl := HOR.out.1
          generalize b.moves[k] = row at *
          obtain ⟨A2, c2, rfl⟩ := row_slice hpt
          have HTr : Hid (SlO wr 1 (rdO IntR) (toB a b) (.slice Aw b.moves.length cu)) := by
            have hsz := hBR.1.size
            refine Sl.move HTO.out (fun q hq => by omega) (fun q hq => hBR.1.block q hq.2 ⟨by omega, fun e => by have := HLT6.out q e.symm; omega⟩) fun x _ cs h => moves_int _ _ _ _ _ _ (fun q hq => by omega) (fun q hq => hBR.1.block q hq.2 ⟨by omega, fun e => by have := HLT6.out q e.symm; omega⟩) h
          have HMV := Lib.hid (both_row hBR hgw8 (by omega) HROW.out (by omega) (rdO_frm moves_rule hGw.1 hpt) HTr.out (fun l hl x hx y hy => by rw [HTLN.out]; exact HOS.out l hl x hx y hy) (by omega) (fun l hl => ⟨by have := (HOR.out.2 l hl).1; omega, fun x hx => by have := ((HOR.out.2 l hl).2 x hx).1; omega⟩))
          rw [hal] at HMV
          have HG0 : Grew wr wr.drew := grew_drew _
          have HAL := Lib.hid hal
          have HBR := Lib.hid hBR
          clear hp0' hpt gc0 gc1 hBR hal
          go_wp2_with fail
          go_region_law (first | (rw [if_pos (by rfl)]; refine append_wp (.tmp 67) (.tmp 71) rfl rfl rfl hrun9 ?_) | (go_simp; go_at_call 35; (with_reducible refine (HMV.out _ (by assumption)).mono ?_); rintro e w5' ⟨A8, c8, rfl, gc5, A9, c9, w9, hrun9, gc9, gf9, hBR9⟩; have hgl5 : w6.heap.size < w5'.heap.size := World.block_lt_of_cell? _ _ gc5; dsimp only))
          all_goals
            have HBR9 := Lib.hid hBR9
            clear hBR9 hrun9
            go_wp2_with fail
            exact ⟨⟨k + 1, _, acc ++ [row.map (rmv (toL (toB a b)))], by omega, by go_num, by rw [List.length_append, HAL.out, List.length_singleton]; omega, HT, HBR9.out⟩, by simp [intOf]; omega⟩
        · obtain rfl : k = b.moves.length := by omega
          obtain ⟨w9, hw9⟩ : ∃ w9, w9 = wr := ⟨_, rfl⟩
          subst hw9
          have HAC2 : Hid (acc = a.moves ++ b.moves.map (·.map (rmv (toL (toB a b))))) := by
            have h := HACC.out
            rw [List.take_length] at h
            exact h
          have hs9 := hBR.1.size
          have xa9 := HXA.out.move (hBR.1.block w.heap.size (by omega) ⟨by omega, fun e => by have := HLT6.out _ e.symm; omega⟩)
          have xb9 := HXB.out.move (hBR.1.block (w.heap.size + 1) (by omega) ⟨by omega, fun e => by have := HLT6.out _ e.symm; omega⟩)
          have xo9 := HXO.out.move (hBR.1.block (w.heap.size + 2) (by omega) ⟨by omega, fun e => by have := HLT6.out _ e.symm; omega⟩)
          obtain ⟨mo, hmo⟩ : ∃ mo, mo = (Value.slice Am (a.moves.length + b.moves.length) cm).ownBlock := ⟨_, rfl⟩
          have HMO := Lib.hid hmo
          clear hmo
          have HBR9 := Lib.hid hBR
          have HG9 := Lib.hid hGw
          have HAL := Lib.hid hal
          have HX9 : Hid (ThreeAt w9 w.heap.size (.slice A a.ranks.length c) (.int .i64 a.start) (.slice B a.moves.length d) 25 ∧ ThreeAt w9 (w.heap.size + 1) (.slice A' b.ranks.length c') (.int .i64 b.start) (.slice B' b.moves.length d') 25 ∧ ThreeAt w9 (w.heap.size + 2) (.slice none 0 0) (.int .i64 0) (.slice none 0 0) 25) := ⟨xa9, xb9, xo9⟩
          obtain ⟨xa0, xa1, xa2⟩ := xa9.cells
          clear hBR hGw hal gc0 gc1 gc2 xa9 xb9 xo9
          go_wp2_with fail
          clear xa0 xa1 xa2
          go_loopw [13, 78] (fun z i wr => ∃ k : Nat, k ≤ a.ranks.length ∧ i = .int .i64 k ∧ Grew w9 wr ∧ Own AltsR wr w9.heap.size 40 1 (OkS w6.heap.size mo) z ((List.range k).map (rJoinAt true a b))) (fun _ i _ => a.ranks.length - (intOf i).toNat)
          case atStart => exact ⟨0, Nat.zero_le _, rfl, grew_refl _, Own.nil _ _ _ _ _ _⟩
          case round =>
            obtain ⟨k, hk, rfl, hfr, hQ⟩ := hrel
            obtain ⟨As, cs, hse, hsc⟩ := hQ.val
            have hlk : ((List.range k).map (rJoinAt true a b)).length = k := by simp
            rw [hlk] at hse hsc
            subst hse
            have HS := Lib.hid hQ
            have HLK := Lib.hid hlk
            clear hQ hlk
            by_cases hlt : k < a.ranks.length
            · have hGr := grew_trans HG9.out hfr
              obtain ⟨haR, ha1, ha6, ha0, haq, haM⟩ := ok_parts HAO.out
              obtain ⟨hbR, hb1, hb6, hb0, hbq, hbM⟩ := ok_parts HBO.out
              obtain ⟨bA, oA, pA, hBA, hbA, hpA, hrA⟩ := HM.out.at1 _ haq
              subst hBA
              obtain ⟨hla1, hla2⟩ := haM _ (List.getElem_mem haq)
              obtain ⟨hlb1, hlb2⟩ := hbM _ (List.getElem_mem hbq)
              have hkb : k < b.ranks.length := by rw [← HRK.out]; exact hlt
              have hlaS := symOk_parts (hla2 k (by omega) hlt)
              have hlbS := symOk_parts (hlb2 k (by omega) hkb)
              have eA := alts_eq (f := k) haq (by omega)
              have eB := alts_eq (f := k) hbq (by omega)
              have hA2 := RowS.sl hrA
              obtain ⟨A2, c2, rfl, hc2, hm2⟩ := hA2.val
              obtain ⟨bA2, oA2, pA2, rfl, hbA2, hpA2, hrA2⟩ := hA2.at1 k (by omega)
              rw [hla1] at hpA
              rw [← eA] at hrA2 hlaS
              rw [← eB] at hlbS
              obtain ⟨A3, c3, rfl⟩ := row_slice hrA2
              -- the result's row
              have hm9 := HBR9.out.2.2.2.sl3 (by rw [HAL.out]; omega)
              have hq9 : ((a.moves.length : Int) + b.start).toNat = a.moves.length + b.start.toNat := by omega
              obtain ⟨bM, oM, pM, hme, hbM', hpM, hrM⟩ := hm9.at1 (a.moves.length + b.start.toNat) (by rw [HAL.out]; omega)
              subst hme
              have eM : acc[a.moves.length + b.start.toNat]'(by rw [HAL.out]; omega) = (b.moves[b.start.toNat]).map (rmv (toL (toB a b))) := by
                have h := HAC2.out
                subst h
                rw [List.getElem_append_right (by omega)]
                simp
              rw [eM] at hrM
              have hM2 := row_val hrM
              obtain ⟨A4, c4, rfl, hc4, hm4⟩ := hM2.val
              rw [List.length_map, hlb1, ← HRK.out] at hpM
              obtain ⟨bM2, oM2, pM2, hA4, hbM2, hpM2, hrM2⟩ := hM2.at1 k (by rw [List.length_map]; omega)
              subst hA4
              rw [List.getElem_map, ← eB] at hrM2
              have HR2 : Hid (rdO AltsR w9 (rSecond a b k) [pM2]) := moves_alts _ _ _ _ _ _ (fun q hq => hq.2.1) (fun _ _ => rfl) hrM2
              have HR3 : Hid (AltsR (OkL w6.heap.size mo w9.heap.size) w9 (rSecond a b k) [pM2]) := moves_alts _ _ _ _ _ _ (fun q hq => ⟨hq.2.1, hq.1, by rw [HMO.out]; exact hq.2.2⟩) (fun _ _ => rfl) hrM2
              obtain ⟨A5, c5, rfl⟩ := row_slice hrM2
              have hlSec : (rSecond a b k).length ≤ 12 := Nat.le_trans (rmv_len _ _) hlbS.1
              have hSecL : ∀ x ∈ rSecond a b k, x.length ≤ 24 := rmv_each fun x hx => (hlbS.2.2 x hx).1
              have hpM2' : w9.cell? ⟨bM2, oM2 + k, none⟩ = some (.slice A5 (rSecond a b k).length c5) := hpM2
              have hFstL : ∀ x ∈ a.alts a.start.toNat k, x.length ≤ 24 := fun x hx => (hlaS.2.2 x hx).1
              have hlFst : (a.alts a.start.toNat k).length ≤ 12 := hlaS.1
              have HR1 := Lib.hid hrA2
              have eJ : rJoinAt true a b k = altSet (startL true (a.alts a.start.toNat k) (rSecond a b k)) := rfl
              have HJ : Hid (rJoinAt true a b k = altSet (startL true (a.alts a.start.toNat k) (rSecond a b k))) := eJ
              generalize a.alts a.start.toNat k = fst at *
              generalize rSecond a b k = snd at *
              have HFL := Lib.hid hFstL
              have HSL := Lib.hid hSecL
              obtain ⟨xa0, xa1, xa2⟩ := (HX9.out.1.frm hfr.1).cells
              obtain ⟨xb0, xb1, xb2⟩ := (HX9.out.2.1.frm hfr.1).cells
              obtain ⟨gc0, gc1, gc2⟩ := (HBR9.out.2.2.1.frm hfr.1).cells
              have kA := frm_cell hGr.1 hpA
              have kA2 := frm_cell hGr.1 hpA2
              have kM := frm_cell hfr.1 hpM
              have kM2 := frm_cell hfr.1 hpM2'
              rw [← hq9] at kM
              have ia0 : (0 : Int) ≤ a.start := ha0
              have ia1 : a.start < a.moves.length := by omega
              have ib0 : (0 : Int) ≤ (a.moves.length : Int) + b.start := by omega
              have ib1 : (a.moves.length : Int) + b.start < (a.moves.length + b.moves.length : Nat) := by omega
              have ib2 : IntKind.i64.wrap ((a.moves.length : Int) + b.start) = (a.moves.length : Int) + b.start := IntWalk.i64_in _ (by omega)
              have ib3 : (a.moves.length : Int) + b.start < (a.moves.length : Int) + b.moves.length := by omega
              have ik0 : (0 : Int) ≤ (k : Int) := by omega
              have ik1 : (k : Int) < a.ranks.length := by omega
              have HT : Hid ((List.range (k + 1)).map (rJoinAt true a b) = (List.range k).map (rJoinAt true a b) ++ [rJoinAt true a b k]) := by
                unfold Hid
                rw [List.range_succ, List.map_append]
                rfl
              have HFR := Lib.hid hfr
              have HGR := Lib.hid hGr
              clear hpA hpA2 hpM hpM2 hpM2' hrA2 hrM hrM2 hm9 hM2 hA2 hrA eA eB eM eJ hq9 hFstL hSecL hfr hGr hla2 hlb2 haM hbM hlaS hlbS haR hbR
              go_wp2_with fail
              clear xa0 xa1 xa2 xb0 xb1 xb2 gc0 gc1 gc2 kA kA2 kM kM2 ib2
              obtain ⟨wf, hwf⟩ : ∃ wf : World, wf = wr := ⟨_, rfl⟩
              subst hwf
              have hf0 := HFR.out.1.size
              have hw9 := HG9.out.1.size
              go_loopw [17, 105] (fun z i wr => ∃ (p : Nat) (ac : List (List Nd)) (A : Option Addr) (c : Nat), p ≤ fst.length ∧ i = .int .i64 p ∧ Hid (ac = altSet ((fst.take p).flatMap fun l => snd.map (uni l))) ∧ ac.length ≤ 12 * p ∧ z = .slice A ac.length c ∧ Grew wf wr ∧
                Own AltR wr wf.heap.size 41 1 (fun q => OkL w6.heap.size mo w9.heap.size q ∨ wf.heap.size ≤ q) z ac) (fun _ i _ => fst.length - (intOf i).toNat)
              case atStart => exact ⟨0, [], none, 0, Nat.zero_le _, rfl, rfl, Nat.zero_le _, rfl, grew_refl _, Own.nil _ _ _ _ _ _⟩
              case round =>
                obtain ⟨p, ac, Al, cl, hp, rfl, HAC, hal, rfl, hfp, hL⟩ := hrel
                have HLo := Lib.hid hL
                have hGp := grew_trans HGR.out hfp
                have hG9p := grew_trans HFR.out hfp
                clear hL
                by_cases hltp : p < fst.length
                · obtain ⟨b3, o3, q0, h3e, hb3, hq0', hqt⟩ := (RowS.sl HR1.out).at1 p hltp
                  subst h3e
                  have hq0 := frm_cell hGp.1 hq0'
                  have HTP : Hid ((fst.take (p + 1)).flatMap (fun l => snd.map (uni l)) = (fst.take p).flatMap (fun l => snd.map (uni l)) ++ snd.map (uni fst[p])) := by
                    unfold Hid
                    rw [List.take_succ_eq_append_getElem hltp, List.flatMap_append]
                    simp
                  have hxl := HFL.out _ (List.getElem_mem hltp)
                  generalize fst[p] = x at *
                  obtain ⟨A7, c7, rfl⟩ := row_slice hqt
                  have HX := Lib.hid hqt
                  have HFP := Lib.hid hfp
                  have HAL2 := Lib.hid hal
                  clear hqt hq0' hfp hGp hG9p
                  go_wp2_with fail
                  go_loopw [17, 111] (fun z i wr => ∃ (j : Nat) (ac2 : List (List Nd)) (A : Option Addr) (c : Nat), j ≤ snd.length ∧ i = .int .i64 j ∧ Hid (ac2 = altSet ((fst.take p).flatMap (fun l => snd.map (uni l)) ++ (snd.take j).map (uni x))) ∧ ac2.length ≤ 12 * p + j ∧ z = .slice A ac2.length c ∧ Grew wf wr ∧
                    Own AltR wr wf.heap.size 41 1 (fun q => OkL w6.heap.size mo w9.heap.size q ∨ wf.heap.size ≤ q) z ac2) (fun _ i _ => snd.length - (intOf i).toNat)
                  case atStart => exact ⟨0, ac, Al, cl, Nat.zero_le _, rfl, by have := HAC.out; unfold Hid; simpa using this, by have := HAL2.out; omega, rfl, HFP.out, HLo.out⟩
                  case round =>
                    obtain ⟨j, ac2, Al2, cl2, hj, rfl, HAC2', hal2, rfl, hfj, hL2⟩ := hrel
                    have HL2 := Lib.hid hL2
                    clear hL2
                    by_cases hltj : j < snd.length
                    · obtain ⟨b4, o4, z0, h4e, hb4, hz0', hzt⟩ := (RowS.sl HR2.out).at1 j hltj
                      subst h4e
                      have hG9j := grew_trans HFR.out hfj
                      have hz0 := frm_cell hG9j.1 hz0'
                      have HTJ : Hid (altSet ((fst.take p).flatMap (fun l => snd.map (uni l)) ++ (snd.take (j + 1)).map (uni x)) = insL (cmpL Nd.cmp) (uni x snd[j]) ac2) := by
                        unfold Hid
                        rw [List.take_succ_eq_append_getElem hltj, List.map_append, ← List.append_assoc, HAC2'.out]
                        exact altSet_snoc _ _
                      have hyl := HSL.out _ (List.getElem_mem hltj)
                      generalize snd[j] = y at *
                      obtain ⟨A8, c8, rfl⟩ := row_slice hzt
                      have hul := uni_len x y
                      have hGj := grew_trans HGR.out hfj
                      have HU := Lib.hid (uni_read (rdO_frm moves_alt hGj.1 HX.out) (rdO_frm moves_alt hG9j.1 hzt) (by omega) (by omega) (by omega))
                      clear hzt hz0' hGj
                      go_wp2_with fail
                      refine HU.out.mono ?_
                      rintro e w10 ⟨A10, c10, rfl, hf10, hr10⟩
                      have hsj := hfj.1.size
                      have hs10 := hf10.1.size
                      have hI := ins_own (okf := OkL w6.heap.size mo w9.heap.size) (show wf.heap.size ≤ w10.heap.size by omega) (HL2.out.kept moves_alt hf10.1 (ownNone _) (by simp)) (moves_alt _ _ _ _ _ _ (fun q hq => ⟨.inr (by omega), hq.2⟩) (fun _ _ => rfl) hr10) (by omega)
                      have hil := insL_len (cmpL Nd.cmp) (uni x y) ac2
                      rw [← HTJ.out] at hI hil
                      have HI := Lib.hid hI
                      clear hI hr10 HTJ HU
                      generalize uni x y = xy at *
                      go_wp2_with fail
                      refine HI.out.mono ?_
                      obtain ⟨ac5, hac5⟩ : ∃ ac5, ac5 = altSet ((fst.take p).flatMap (fun l => snd.map (uni l)) ++ (snd.take (j + 1)).map (uni x)) := ⟨_, rfl⟩
                      rw [← hac5] at hil ⊢
                      have HAC5 := Lib.hid hac5
                      clear hac5
                      rintro e w11 ⟨A11, c11, rfl, hf11, hO11⟩
                      have HO11 := Lib.hid hO11
                      clear hO11
                      dsimp only
                      go_wp2_with fail
                      exact ⟨⟨j + 1, ac5, A11, c11, by omega, by go_num, HAC5, by omega, rfl, grew_trans hfj (grew_trans hf10 hf11), HO11.out⟩, by simp [intOf]; omega⟩
                    · have HAC6 : Hid (ac2 = altSet ((fst.take (p + 1)).flatMap fun l => snd.map (uni l))) := by
                        obtain rfl : j = snd.length := by omega
                        have h := HAC2'.out
                        rw [List.take_length, ← HTP.out] at h
                        exact h
                      go_wp2_with fail
                      exact ⟨⟨p + 1, ac2, Al2, cl2, by omega, by go_num, HAC6, by omega, rfl, hfj, HL2.out⟩, by simp [intOf]; omega⟩
                · have HACF : Hid (ac = rJoinAt true a b k) := by
                    obtain rfl : p = fst.length := by omega
                    have h := HAC.out
                    rw [List.take_length] at h
                    rw [HJ.out]
                    exact h
                  have hq9 := hfp.1.size
                  have hacl : ac.length ≤ 1000 := by omega
                  have hWq := HLo.out.sl2 moves_alt (by omega) (S := fun q => (OkL w6.heap.size mo w9.heap.size q ∨ wf.heap.size ≤ q) ∧ q < wr.heap.size) (fun q h1 h2 => ⟨h1, h2⟩) (fun q hq => by have := HLo.out.lt q hq; exact ⟨.inr this.1, this.2⟩)
                  have HWq := Lib.hid hWq
                  clear hWq hGp hG9p
                  repeat ((fail_if_success at_builtin); first | go_values | go_skip | go_guarded | go_step | go_upon)
                  have hf5 := grew_then_alloc hfp (.cells #[.slice Al ac.length cl] 40)
                  have hO5 := HS.out.kept moves_alts hf5.1 (ownNone _) (by simp)
                  have htw := OneAt.new wr (.slice Al ac.length cl) 40
                  have hlen := HLK.out
                  have hltO := HS.out.lt
                  refine Own.app1 moves_alts elem_alts hO5 rfl _ _ rfl rfl rfl (rJoinAt true a b k) [.slice Al ac.length cl] rfl (one_at htw) ?_ ?_ (by rw [hlen]; omega) (by omega) (by simp; omega) ?_
                  · intro u hu
                    simp at hu
                    subst hu
                    rfl
                  · rw [← HACF.out]
                    refine moves_alts _ _ _ _ _ _ (fun q hq => ⟨?_, by simp; omega, fun e => ?_⟩) (fun q hq => Below.heap_alloc _ _ _ hq.2) ⟨_, rfl, HWq.out⟩
                    · rcases hq.1 with h | h
                      · exact h.2
                      · exact ⟨by omega, fun e => by rw [HMO.out] at e; have := HBR9.out.2.2.2.lt q e.symm; omega⟩
                    · have := hltO q e.symm
                      rcases hq.1 with h | h
                      · have := h.1
                        omega
                      · omega
                  intro v12 w12 hO12 hg12 hp12
                  have hfr12 : Grew w9 w12 := grew_own (grew_trans HFR.out hf5) (fun q hq => (hltO q hq).1) hg12.1 hg12.2
                  rw [← HT.out] at hO12
                  obtain ⟨A12, c12, he12, hcc12⟩ := hO12.val
                  have HO12 := Lib.hid hO12
                  clear hO12 hO5 htw hltO
                  rw [show ((List.range (k + 1)).map (rJoinAt true a b)).length = k + 1 by simp] at he12
                  subst he12
                  go_wp2_with fail
                  exact ⟨⟨k + 1, by omega, by go_num, hfr12, HO12.out⟩, by simp [intOf]; omega⟩
            · obtain rfl : k = a.ranks.length := by omega
              have hGr := grew_trans HG9.out hfr
              have hBRr := HBR9.out.grew hfr
              have hsr := hfr.1.size
              obtain ⟨gc0, gc1, gc2⟩ := hBRr.2.2.1.cells
              have gf1 := hBRr.2.2.1.free 1
              have hst := hBRr.start hgw8 HROW.out ((a.moves.length : Int) + b.moves.length)
              have hset : ∀ q, q ≠ w6.heap.size → (wr.setCell ⟨w6.heap.size, 1, none⟩ (.int .i64 ((a.moves.length : Int) + b.moves.length))).heap[q]? = wr.heap[q]? := fun q hq => Below.heap_setCell _ _ _ _ hq
              have hsz10 : wr.heap.size ≤ (wr.setCell ⟨w6.heap.size, 1, none⟩ (.int .i64 ((a.moves.length : Int) + b.moves.length))).heap.size ∧ (wr.setCell ⟨w6.heap.size, 1, none⟩ (.int .i64 ((a.moves.length : Int) + b.moves.length))).heap.size ≤ wr.heap.size := by simp
              generalize hw10 : wr.setCell ⟨w6.heap.size, 1, none⟩ (.int .i64 ((a.moves.length : Int) + b.moves.length)) = w10 at *
              have hrows : RuleR (fun q => q ≠ w6.heap.size ∧ q < w10.heap.size ∧ some q ≠ (Value.slice Am (a.moves.length + b.moves.length) cm).ownBlock) w10 ((List.range a.ranks.length).map (rJoinAt true a b)) [.slice As a.ranks.length cs] := by
                refine ⟨_, rfl, Sl.move (HS.out.sl3 (by rw [HLK.out]; omega)) (fun q hq => ?_) (fun q hq => hset q (by have := HS.out.lt q hq; omega)) fun x _ cs h => moves_alts _ _ _ _ _ _ (fun q hq => ⟨hq.1.1, by have := hq.2.1; omega, by rw [← HMO.out]; exact hq.1.2⟩) (fun q hq => hset q hq.1.1) h⟩
                have h1 := HS.out.lt q hq
                refine ⟨by omega, by omega, fun e => by have := HBR9.out.2.2.2.lt q e.symm; omega⟩
              have hlr2 : ((List.range a.ranks.length).map (rJoinAt true a b)).length = a.ranks.length := by simp
              have hp := hst.push hgw8 (by omega) HROW.out (grew_refl _) (by rw [HAL.out]; omega) (row := (List.range a.ranks.length).map (rJoinAt true a b)) (by rw [hlr2]; exact hrows)
              rw [hlr2, HAL.out] at hp
              obtain ⟨-, A9, c9, w11, hrun, gd2, gf2, hBR12⟩ := hp
              obtain ⟨gd0', gd1', gd2'⟩ := hst.2.2.1.cells
              have hg10 : w6.heap.size < w10.heap.size := by omega
              have HST := Lib.hid hst
              clear hst hrows hset hBRr hlr2
              repeat ((fail_if_success at_builtin); first | go_values | go_skip | go_guarded | go_step | go_upon)
              refine append_list (v := .slice Am (a.moves.length + b.moves.length) cm) (sl := .slice (some ⟨w10.heap.size, 0, none⟩) 1 1) (.tmp 155) (.tmp 157) rfl rfl rfl rfl hrun ?_
              clear hrun hw10 gc0 gc1 gc2 gf1 gd0' gd1' gd2'
              generalize hw12 : w11.setCell ⟨w6.heap.size, 2, none⟩ (.slice A9 (a.moves.length + b.moves.length + 1) c9) = w12 at *
              have hs12 := hBR12.1.size
              have hG12 : Grew w w12 := GrewP.grew HG8.out (fun q hq => ⟨by omega, fun e => by have := (HLT6.out q e.symm).1; omega⟩) hBR12.1
              have eAcc : acc ++ [(List.range a.ranks.length).map (rJoinAt true a b)] = (rJoinA true a b).moves := by rw [HAC2.out]; rfl
              have hmoves : SlO w12 1 (rdO RuleR) (rJoinA true a b).moves (.slice A9 (a.moves.length + b.moves.length + 1) c9) := by
                rw [← eAcc]
                exact hBR12.2.2.2.sl2 moves_rule (by rw [List.length_append, HAL.out, List.length_singleton]; omega) (fun q _ h => h) (fun q hq => (hBR12.2.2.2.lt q hq).2)
              have hranks : rdO (RowS 1 IntR) w12 (rJoinA true a b).ranks [.slice A6 a.ranks.length c6] :=
                WR.rd (moves_row moves_int) (HR8.out.mv (moves_row moves_int) (fun q hq => by omega) (fun q hq => hBR12.1.block q (by omega) ⟨by omega, hq.2.2⟩))
              have hAu : rdO AuR w12 (rJoinA true a b) [.slice A6 a.ranks.length c6, .int .i64 (rJoinA true a b).start, .slice A9 (a.moves.length + b.moves.length + 1) c9] :=
                ⟨_, _, rfl, hranks, ⟨_, rfl, hmoves⟩, by show _ ≤ a.n + b.n; unfold Au.n; omega, by show a.n + b.n ≤ _; unfold Au.n; omega⟩
              have hst12 : ((a.moves.length : Int) + b.moves.length) = (rJoinA true a b).start := rfl
              obtain ⟨he0, he1, he2⟩ := hBR12.2.2.1.cells
              rw [hst12] at he1
              have HAU := Lib.hid hAu
              have xo12 := HXO.out.move (hBR12.1.block (w.heap.size + 2) (by omega) ⟨by omega, fun e => by have := HLT6.out _ e.symm; omega⟩)
              have HXO12 := Lib.hid xo12
              have HG12 := Lib.hid hG12
              have HTG12 := Lib.hid hBR12.2.2.1
              have hgl12 := hBR12.2.2.1.lt
              clear hAu hranks hmoves eAcc hBR12 hst12 xo12 hG12
              go_wp2_with fail
              refine (ris_calls (rJoinA true a b) w12 _ _ HAU.out).mono ?_
              rintro e w13 ⟨rfl, hf13⟩
              clear he0 he1 he2 hw12 gd2 gf2
              have hGz := grew_trans HG12.out hf13
              obtain ⟨kx0, kx1, kx2⟩ := (HXO12.out.frm hf13.1).cells
              have kxf0 := (HXO12.out.frm hf13.1).free 0
              have kxf1 := (HXO12.out.frm hf13.1).free 1
              have kxf2 := (HXO12.out.frm hf13.1).free 2
              have hs13 := hf13.1.size
              cases hok : (rJoinA true a b).okR
              · have HJ : Hid (rJoinE true a b = 3 ∧ rJoinV true a b = Au.zero) := by
                  have h1 : rJoinE true a b = 3 := by rw [HE.out, hok]; rfl
                  exact ⟨h1, by unfold rJoinV; rw [h1, if_neg (by omega)]⟩
                clear hok
                go_wp2_with fail
                refine bodyPost_ret (v := .tuple #[.agg #[.slice none 0 0, .int .i64 0, .slice none 0 0], .int .i64 3]) (by simp [results, Tryd.results26, go_sem, kx0, kx1, kx2, kxf0, kxf1, kxf2]) rfl ⟨.slice none 0 0, .slice none 0 0, by rw [HJ.out.1, HJ.out.2]; rfl, ?_, by rw [HJ.out.2]; exact au_zero _ _⟩
                exact grew_set_new (grew_set_new (grew_set_new hGz (by omega) _ _) (by omega) _ _) (by omega) _ _
              · have HJ : Hid (rJoinE true a b = 0 ∧ rJoinV true a b = rJoinA true a b) := by
                  have h1 : rJoinE true a b = 0 := by rw [HE.out, hok]; rfl
                  exact ⟨h1, by unfold rJoinV; rw [if_pos h1]⟩
                have HOK : Hid ((rJoinA true a b).ok = true) := by unfold Hid; rw [ok_eq]; exact hok
                clear hok
                obtain ⟨he0, he1, he2⟩ := (HTG12.out.frm hf13.1).cells
                rw [show ((a.moves.length : Int) + b.moves.length) = (rJoinA true a b).start from rfl] at he1
                go_wp2_with fail
                refine (rcopy_calls (rJoinA true a b) HOK.out w13 _ _ (rdO_frm moves_au hf13.1 HAU.out)).mono ?_
                rintro e w14 ⟨r14, m14, rfl, hf14, hau14, hO14, hR14⟩
                clear he0 he1 he2 kx0 kx1 kx2 kxf0 kxf1 kxf2
                obtain ⟨A14, c14, rfl⟩ := row_slice hR14
                obtain ⟨B14, d14, rfl, hd14⟩ := hO14.val
                have hxo14 := (HXO12.out.frm hf13.1).frm hf14.1
                obtain ⟨kx0, kx1, kx2⟩ := hxo14.cells
                have kxf0 := hxo14.free 0
                have kxf1 := hxo14.free 1
                have kxf2 := hxo14.free 2
                have hxl14 := hxo14.lt
                have HAU14 := Lib.hid hau14
                have hG14 := grew_trans hGz hf14
                have hs14 := hf14.1.size
                clear hau14 hO14 hR14 hxo14
                go_wp2_with fail
                refine bodyPost_ret (v := .tuple #[.agg #[.slice A14 (rJoinA true a b).ranks.length c14, .int .i64 (rJoinA true a b).start, .slice B14 (rJoinA true a b).moves.length d14], .int .i64 0]) (by simp [results, Tryd.results26, go_sem, kx0, kx1, kx2, kxf0, kxf1, kxf2]) rfl ⟨_, _, by rw [HJ.out.1, HJ.out.2], ?_, ?_⟩
                · exact grew_set_new (grew_set_new (grew_set_new hG14 (by omega) _ _) (by omega) _ _) (by omega) _ _
                · rw [HJ.out.2]
                  refine HAU14.out.mv moves_au (fun q hq => ⟨by have := hq.1; omega, by have := hq.2; simp; omega⟩) (fun q hq => ?_)
                  have := hq.1
                  rw [Below.heap_setCell _ _ _ _ (by show q ≠ w.heap.size + 2; omega), Below.heap_setCell _ _ _ _ (by show q ≠ w.heap.size + 2; omega), Below.heap_setCell _ _ _ _ (by show q ≠ w.heap.size + 2; omega)]
end Go.Proofs.YtjpdmncafacmaaaDoor
