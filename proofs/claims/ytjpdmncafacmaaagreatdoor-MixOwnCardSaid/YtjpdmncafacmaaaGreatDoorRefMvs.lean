/- The reference's moves. -/
import Derived.Test.YtjpdmncafacmaaaGreatDoorRefMvd
set_option linter.unusedVariables false
set_option linter.unusedSimpArgs false
namespace Go.Proofs.YtjpdmncafacmaaaGreatDoor
open Go.RowKit

def rmv (f : Nd → Nd) (l : List (List Nd)) : List (List Nd) := altSet (l.map fun x => ndSet (x.map f))
set_option maxRecDepth 100000 in
set_option maxHeartbeats 1000000 in
theorem rmoves_calls (m : List (List (List Nd))) (tl : List Int) (w : World) (v u : Value) (hm0 : rdO RuleR w m [v]) (hto : SlO w 1 (rdO IntR) tl u) (hb : ∀ l ∈ m, ∀ x ∈ l, ∀ y ∈ x, 0 ≤ y.2 ∧ y.2 < tl.length)
    (hlm : m.length ≤ 1000) (hll : ∀ l ∈ m, l.length ≤ 1000 ∧ ∀ x ∈ l, x.length ≤ 900) :
    Calls Tryz.prog 57 #[v, u] w fun e w' => ∃ z, e = .returned z ∧ Grew w w' ∧ Own AltsR w' w.heap.size 50 1 (fun b => w.heap.size ≤ b) z (m.map (rmv (toL tl))) := by
  have hM := RowS.sl hm0
  obtain ⟨A, c, rfl, hc, hm⟩ := hM.val
  obtain ⟨B, d, rfl, hd, hm'⟩ := hto.val
  have HB := Lib.hid hb
  have HLL := Lib.hid hll
  have HTO := Lib.hid hto
  clear hm0 hb hll hto
  go_enter Tryz.func57, Tryz.ntmps57
  go_wp2_with fail
  go_loopw [5, 13] (fun z i wr => ∃ (k : Nat) (acc : List (List (List Nd))), k ≤ m.length ∧ i = .int .i64 k ∧ Hid (acc = (m.take k).map (rmv (toL tl))) ∧ acc.length = k ∧ Grew w wr ∧ Own AltsR wr w.heap.size 50 1 (fun b => w.heap.size ≤ b) z acc) (fun _ i _ => m.length - (intOf i).toNat)
  case atStart => exact ⟨0, [], Nat.zero_le _, rfl, rfl, rfl, grew_refl _, Own.nil _ _ _ _ _ _⟩
  case round =>
    obtain ⟨k, acc, hk, rfl, HACC, hal, hfr, hO⟩ := hrel
    obtain ⟨Au, cu, he, hcu⟩ := hO.val
    rw [hal] at he hcu
    subst he
    have HAL := Lib.hid hal
    have HO := Lib.hid hO
    clear hal hO
    by_cases hlt : k < m.length
    · obtain ⟨b, o, p0, rfl, hbb, hp0', hpt⟩ := hM.at1 k hlt
      have hp0 := frm_cell hfr.1 hp0'
      have HT : Hid ((m.take (k + 1)).map (rmv (toL tl)) = acc ++ [rmv (toL tl) m[k]]) := by
        unfold Hid
        rw [List.take_succ_eq_append_getElem hlt, List.map_append, HACC.out]
        rfl
      have HBl := Lib.hid (HB.out _ (List.getElem_mem hlt))
      have HLl := Lib.hid (HLL.out _ (List.getElem_mem hlt))
      have hll1 := HLl.out.1
      generalize m[k] = l at *
      have hL := RowS.sl hpt
      obtain ⟨A2, c2, rfl, hc2, hm2⟩ := hL.val
      have HL := Lib.hid hL
      have HFR := Lib.hid hfr
      clear hpt hL hp0' hfr
      go_wp2_with fail
      obtain ⟨wo, hwo⟩ : ∃ wo : World, wo = wr := ⟨_, rfl⟩
      subst hwo
      go_loopw [8, 19] (fun z i wq => ∃ (j : Nat) (ac2 : List (List Nd)) (A : Option Addr) (c : Nat), j ≤ l.length ∧ i = .int .i64 j ∧ Hid (ac2 = altSet ((l.take j).map fun x => ndSet (x.map (toL tl)))) ∧ z = .slice A ac2.length c ∧ Grew wo wq ∧ Own AltR wq wo.heap.size 76 1 (fun b => wo.heap.size ≤ b) z ac2) (fun _ i _ => l.length - (intOf i).toNat)
      case atStart => exact ⟨0, [], none, 0, Nat.zero_le _, rfl, rfl, rfl, grew_refl _, Own.nil _ _ _ _ _ _⟩
      case round =>
        obtain ⟨j, ac2, Aq, cq, hj, rfl, HAC2, rfl, hfq, hQ⟩ := hrel
        have hacl : ac2.length ≤ 1000 := by
          have h1 := setL_len (cmpL Nd.cmp) ((l.take j).map fun x => ndSet (x.map (toL tl)))
          rw [List.length_map, List.length_take] at h1
          have h2 := congrArg List.length HAC2.out
          have h3 : (altSet ((l.take j).map fun x => ndSet (x.map (toL tl)))).length = (setL (cmpL Nd.cmp) ((l.take j).map fun x => ndSet (x.map (toL tl)))).length := rfl
          omega
        have HQ := Lib.hid hQ
        clear hQ
        have hGq := grew_trans HFR.out hfq
        by_cases hltj : j < l.length
        · obtain ⟨b3, o3, q0, rfl, hb3, hq0', hqt⟩ := HL.out.at1 j hltj
          have hq0 := frm_cell hGq.1 hq0'
          have HT2 : Hid (altSet ((l.take (j + 1)).map fun x => ndSet (x.map (toL tl))) = insL (cmpL Nd.cmp) (ndSet (l[j].map (toL tl))) ac2) := by
            unfold Hid
            rw [List.take_succ_eq_append_getElem hltj, List.map_append, HAC2.out]
            exact setL_snoc _ _ _
          have HBx := Lib.hid (HBl.out _ (List.getElem_mem hltj))
          have hxl := HLl.out.2 _ (List.getElem_mem hltj)
          generalize l[j] = x at *
          obtain ⟨A3, c3, rfl, hc3, hm3⟩ := (RowS.sl hqt).val
          have HMV := Lib.hid (rmoved_calls x tl wr _ _ (rdO_frm moves_alt hGq.1 hqt) (HTO.out.frm hGq.1 (stays_rd moves_int)) HBx.out hxl)
          clear hqt hq0'
          go_wp2_with fail
          refine HMV.out.mono ?_
          rintro e w4 ⟨A4, c4, rfl, hf4, hr4⟩
          have hsq := hfq.1.size
          have hs4 := hf4.1.size
          have hQ4 := HQ.out.kept moves_alt hf4.1 (ownNone _) (by simp)
          have hI := insert_calls ac2 (ndSet (x.map (toL tl))) w4 _ _ (S := fun b => wo.heap.size ≤ b ∧ b < w4.heap.size) (fun b hb => hb.2) (hQ4.sl moves_alt (by omega) (fun b h1 h2 => ⟨h1, h2⟩) (fun b h1 h2 => ⟨h1, h2⟩)) hQ4.ownVal
            (WR.rd moves_alt (moves_WR moves_alt _ _ _ _ _ _ (fun q hq => ⟨by have := hq.1; omega, hq.2⟩) (fun _ _ => rfl) hr4)) (by omega)
          rw [← HT2.out] at hI
          have HI := Lib.hid hI
          clear hQ4 hI hr4
          generalize ndSet (x.map (toL tl)) = nx at *
          go_wp2_with fail
          refine HI.out.mono ?_
          rintro e w5 ⟨z5, rfl, hf5, hO5⟩
          have hO6 := (hO5.lower (show wo.heap.size ≤ w4.heap.size by omega)).ok_mono moves_alt (ok' := fun b => wo.heap.size ≤ b) (fun b h _ => h.1)
          obtain ⟨A5, c5, hz5, _⟩ := hO6.val
          obtain ⟨ac5, hac5⟩ : ∃ ac5, ac5 = altSet ((l.take (j + 1)).map fun x => ndSet (x.map (toL tl))) := ⟨_, rfl⟩
          rw [← hac5] at hO6 hz5
          subst hz5
          have HO6 := Lib.hid hO6
          have HAC5 := Lib.hid hac5
          clear hO5 hO6 hac5
          dsimp only
          go_wp2_with fail
          exact ⟨⟨j + 1, ac5, A5, c5, by omega, by go_num, HAC5, rfl, grew_trans hfq (grew_trans hf4 hf5), HO6.out⟩, by simp [intOf]; omega⟩
        · have HT3 : Hid (ac2 = rmv (toL tl) l) := by
            obtain rfl : j = l.length := by omega
            have h := HAC2.out
            rw [List.take_length] at h
            exact h
          have hsq := hfq.1.size
          have hWq := HQ.out.sl2 moves_alt (by omega) (S := fun b => wo.heap.size ≤ b ∧ b < wr.heap.size) (fun b h1 h2 => ⟨h1, h2⟩) (fun b hb => HQ.out.lt b hb)
          have HWq := Lib.hid hWq
          clear hWq
          repeat ((fail_if_success at_builtin); first | go_values | go_skip | go_guarded | go_step | go_upon)
          have hf5 := grew_then_alloc hfq (.cells #[.slice Aq ac2.length cq] 50)
          have hO5 := HO.out.kept moves_alts hf5.1 (ownNone _) (by simp)
          have htw := OneAt.new wr (.slice Aq ac2.length cq) 50
          have hlen := HAL.out
          have hso := HFR.out.1.size
          have hltO := HO.out.lt
          refine Own.app1 moves_alts elem_alts hO5 rfl _ _ rfl rfl rfl (rmv (toL tl) l) [.slice Aq ac2.length cq] rfl (one_at htw) ?_ ?_ (by rw [hlen]; omega) (by omega) (by simp; omega) ?_
          · intro u hu
            simp at hu
            subst hu
            rfl
          · rw [← HT3.out]
            refine moves_alts _ _ _ _ _ _ (fun q hq => ⟨by omega, by simp; omega, fun e => ?_⟩) (fun q hq => Below.heap_alloc _ _ _ hq.2) ⟨_, rfl, HWq.out⟩
            have := (hltO q e.symm).2
            omega
          intro v7 w7 hO7 hg7 hp7
          have hfr7 : Grew w w7 := grew_own (grew_trans HFR.out hf5) (fun b hb => (hltO b hb).1) hg7.1 hg7.2
          rw [← HT.out] at hO7
          obtain ⟨A7, c7, he7, hcc7⟩ := hO7.val
          have HO7 := Lib.hid hO7
          clear hO7 hO5 htw hltO
          rw [show ((m.take (k + 1)).map (rmv (toL tl))).length = k + 1 by rw [List.length_map, List.length_take]; omega] at he7
          subst he7
          go_wp2_with fail
          exact ⟨⟨k + 1, _, by omega, by go_num, rfl, by rw [List.length_map, List.length_take]; omega, hfr7, HO7.out⟩, by simp [intOf]; omega⟩
    · obtain rfl : k = m.length := by omega
      have HT : Hid (acc = m.map (rmv (toL tl))) := by
        have h := HACC.out
        rw [List.take_length] at h
        exact h
      go_wp2_with fail
      exact bodyPost_ret (v := .slice Au m.length cu) (by simp [results, Tryz.results57, go_sem]) rfl ⟨_, rfl, hfr, by rw [← HT.out]; exact HO.out⟩
end Go.Proofs.YtjpdmncafacmaaaGreatDoor
