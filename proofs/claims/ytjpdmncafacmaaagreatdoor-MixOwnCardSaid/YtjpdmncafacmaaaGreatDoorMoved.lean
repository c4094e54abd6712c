/- mix's moved: each need changed, each alternative in order. -/
import Derived.Test.YtjpdmncafacmaaaGreatDoorApp
set_option linter.unusedVariables false
set_option linter.unusedSimpArgs false
namespace Go.Proofs.YtjpdmncafacmaaaGreatDoor
open Go.RowKit

def mvd (g : Nd → Nd) (alts : List (List Nd)) : List (List Nd) := alts.map fun l => ndSet (l.map g)
/-- What a function value does with a need, from a world on. -/
def NdFn (F : Nat) (cb : Array Value) (w : World) (g : Nd → Nd) (x : Nd) : Prop :=
  ∀ w', Grew w w' → Calls Tryz.prog F (#[.agg #[.int .i64 x.1, .int .i64 x.2]] ++ cb) w' (RetD w' (.agg #[.int .i64 (g x).1, .int .i64 (g x).2]))

set_option maxRecDepth 100000 in
set_option maxHeartbeats 1000000 in
theorem moved_calls (alts : List (List Nd)) (g : Nd → Nd) (F : Nat) (cb : Array Value) (w : World) (v : Value) (eg : ∀ args w, (callFunc F args).run Tryz.prog w = .ok (.enter F args) w)
    (hF : ∀ l ∈ alts, ∀ x ∈ l, NdFn F cb w g x ∧ Nd.small (g x)) (hv : rdO AltsR w alts [v]) (hb1 : alts.length ≤ 1000) (hb2 : ∀ l ∈ alts, l.length ≤ 1000) :
    Calls Tryz.prog 93 #[v, .func (.func F) #[] cb] w fun e w' => ∃ u, e = .returned u ∧ Grew w w' ∧ Own (WR AltR) w' w.heap.size 76 1 (fun b => w.heap.size ≤ b) u (mvd g alts) := by
  have hA := RowS.sl hv
  obtain ⟨A, c, rfl, hc, hm⟩ := hA.val
  have HF := Lib.hid hF
  have HB := Lib.hid hb2
  clear hF hv hb2
  go_enter Tryz.func93, Tryz.ntmps93
  go_wp2_with fail
  go_loopw [5, 13] (fun u i wr => ∃ k : Nat, k ≤ alts.length ∧ i = .int .i64 k ∧ Grew w wr ∧ Own (WR AltR) wr w.heap.size 76 1 (fun b => w.heap.size ≤ b) u (mvd g (alts.take k))) (fun _ i _ => alts.length - (intOf i).toNat)
  case atStart => exact ⟨0, Nat.zero_le _, rfl, grew_refl _, Own.nil _ _ _ _ _ _⟩
  case round =>
    obtain ⟨k, hk, rfl, hfr, hO⟩ := hrel
    obtain ⟨Au, cu, he, hcu⟩ := hO.val
    have hlk : (mvd g (alts.take k)).length = k := by unfold mvd; rw [List.length_map, List.length_take]; omega
    rw [hlk] at he hcu
    subst he
    by_cases hlt : k < alts.length
    · obtain ⟨b, o, p0, rfl, hb, hp0, hpt⟩ := (hA.frm hfr.1 (stays_rd moves_alt)).at1 k hlt
      have hL := RowS.sl hpt
      have HT : Hid (mvd g (alts.take (k + 1)) = mvd g (alts.take k) ++ [ndSet ((alts[k]).map g)]) := by
        unfold Hid mvd
        rw [List.take_succ_eq_append_getElem hlt, List.map_append]
        rfl
      have HFl := Lib.hid (HF.out _ (List.getElem_mem hlt))
      have hbl := HB.out _ (List.getElem_mem hlt)
      generalize alts[k] = l at *
      obtain ⟨A2, c2, rfl, hc2, hm2⟩ := hL.val
      clear hpt
      have HO := Lib.hid hO
      have HLK := Lib.hid hlk
      have HFR := Lib.hid hfr
      clear hO hlk hfr
      go_wp2_with fail
      obtain ⟨wo, hwo⟩ : ∃ wo : World, wo = wr := ⟨_, rfl⟩
      subst hwo
      go_loopw [8, 19] (fun u i wq => ∃ j : Nat, j ≤ l.length ∧ i = .int .i64 j ∧ Grew wo wq ∧ Own NdR wq wo.heap.size 80 2 (fun _ => True) u ((l.take j).map g)) (fun _ i _ => l.length - (intOf i).toNat)
      case atStart => exact ⟨0, Nat.zero_le _, rfl, grew_refl _, Own.nil _ _ _ _ _ _⟩
      case round =>
        obtain ⟨j, hj, rfl, hfq, hQ⟩ := hrel
        obtain ⟨Aq, cq, he, hcq⟩ := hQ.val
        have hlj : ((l.take j).map g).length = j := by rw [List.length_map, List.length_take]; omega
        rw [hlj] at he hcq
        subst he
        by_cases hltj : j < l.length
        · obtain ⟨b3, o3, q0, q1, rfl, hb3, hq0, hq1, hqt⟩ := (hL.frm hfq.1 (stays_rd moves_nd)).at2 j hltj
          obtain ⟨hqv, _⟩ := hqt
          simp only [List.cons.injEq, and_true] at hqv
          obtain ⟨rfl, rfl⟩ := hqv
          have HT2 : Hid ((l.take (j + 1)).map g = (l.take j).map g ++ [g l[j]]) := by
            unfold Hid
            rw [List.take_succ_eq_append_getElem hltj, List.map_append]
            rfl
          obtain ⟨hf1, hsm⟩ := HFl.out _ (List.getElem_mem hltj)
          have HF1 := Lib.hid hf1
          clear hf1
          generalize l[j] = x at *
          have HQ := Lib.hid hQ
          have HLJ := Lib.hid hlj
          clear hQ hlj
          go_wp2_with fail
          refine (HF1.out _ ?_).mono ?_
          · exact grew_then_alloc (grew_trans HFR.out hfq) _
          rintro e w4 ⟨rfl, hf4⟩
          have hf3 := grew_trans (grew_then_alloc (grew_refl wr) _) hf4
          dsimp only
          repeat ((fail_if_success at_builtin); first | go_values | go_skip | go_guarded | go_step | go_upon)
          have hfq4 := grew_trans hfq hf3
          have hf5 : Grew wr (w4.alloc (.cells #[.int .i64 (g x).1, .int .i64 (g x).2] 80)) := grew_then_alloc hf3 _
          have hQ5 := HQ.out.kept moves_nd hf5.1 (ownNone _) (by simp)
          have htw := TwoAt.new w4 (.int .i64 (g x).1) (.int .i64 (g x).2) 80
          have hlen := HLJ.out
          have hsq := hfq.1.size
          have hs5 := hf5.1.size
          refine Own.app1 moves_nd elem_nd hQ5 rfl _ _ rfl rfl rfl (g x) [.int .i64 (g x).1, .int .i64 (g x).2] rfl ?_ ?_ ?_ (by rw [hlen]; omega) (by omega) (by omega) ?_
          · intro j u hj
            match j with
            | 0 => simp at hj; subst hj; exact htw.cells.1
            | 1 => simp at hj; subst hj; exact htw.cells.2.1
            | j + 2 => simp at hj
          · intro u hu
            simp at hu
            rcases hu with rfl | rfl <;> rfl
          · unfold Nd.small at hsm
            exact ⟨rfl, by omega, by omega⟩
          intro v7 w7 hQ7 hg7 hp7
          have hlt5 := hQ5.lt
          have hfr7 : Grew wo w7 := grew_own (grew_trans hfq hf5) (fun b hb => (hlt5 b hb).1) hg7.1 hg7.2
          rw [← HT2.out] at hQ7
          obtain ⟨A7, c7, he7, hcc7⟩ := hQ7.val
          have HQ7 := Lib.hid hQ7
          clear hQ7 hQ5 htw hlt5
          have hl7 : ((l.take (j + 1)).map g).length = j + 1 := by rw [List.length_map, List.length_take]; omega
          rw [hl7] at he7
          clear hl7
          subst he7
          go_wp2_with fail
          exact ⟨⟨j + 1, by omega, by go_num, hfr7, HQ7.out⟩, by simp [intOf]; omega⟩
        · obtain rfl : j = l.length := by omega
          rw [List.take_length] at hQ
          have hlm : (l.map g).length = l.length := by simp
          have HO2 := Lib.hid (ordered_calls (l.map g) (fun y hy => by
            obtain ⟨x, hx, rfl⟩ := List.mem_map.1 hy
            exact (HFl.out x hx).2) (by omega) _ _ hQ)
          have hltq := hQ.lt
          have HLT := Lib.hid hltq
          have HV : Hid ((Value.slice Aq (List.length l) cq).ownBlock = none ∨ ∃ b, (Value.slice Aq (List.length l) cq).ownBlock = some b) := by
            unfold Hid
            cases (Value.slice Aq (List.length l) cq).ownBlock <;> simp
          clear hQ hlj hltq hlm
          go_wp2_with fail
          refine HO2.out.mono ?_
          rintro e w4 ⟨A4, c4, rfl, hf4, hr4⟩
          have HR4 := Lib.hid hr4
          clear hr4
          have hG4 : Grew wo w4 := grew_own hfq (fun b hb => (HLT.out b hb).1) hf4.1 hf4.2
          dsimp only
          repeat ((fail_if_success at_builtin); first | go_values | go_skip | go_guarded | go_step | go_upon)
          have hf5 : Grew wo (w4.alloc (.cells #[.slice A4 (ndSet (l.map g)).length c4] 76)) := grew_then_alloc hG4 _
          have hO5 := HO.out.kept (moves_WR moves_alt) hf5.1 (ownNone _) (by simp)
          have htw := OneAt.new w4 (.slice A4 (ndSet (l.map g)).length c4) 76
          have hlen := HLK.out
          have hs0 := HFR.out.1.size
          have hs5 := hf5.1.size
          have hltO := HO.out.lt
          have hs4 := hf4.1.size
          refine Own.app1 (moves_WR moves_alt) elem_alt hO5 rfl _ _ rfl rfl rfl (ndSet (l.map g)) [.slice A4 (ndSet (l.map g)).length c4] rfl ?_ ?_ ?_ (by rw [hlen]; omega) (by omega) (by omega) ?_
          · intro j u hj
            match j with
            | 0 => simp at hj; subst hj; exact htw.cell
            | j + 1 => simp at hj
          · intro u hu
            simp at hu
            subst hu
            rfl
          · refine moves_WR moves_alt _ _ _ _ _ _ (fun b hb => ?_) (fun b hb => ?_) HR4.out
            · have h1 := HLT.out b hb.symm
              refine ⟨by omega, by simp; omega, fun e => ?_⟩
              have := (hltO b e.symm).2
              omega
            · have h1 := HLT.out b hb.symm
              exact Below.heap_alloc _ _ _ (by omega)
          intro v7 w7 hO7 hg7 hp7
          have hfr7 : Grew w w7 := grew_own (grew_trans HFR.out hf5) (fun b hb => (hltO b hb).1) hg7.1 hg7.2
          rw [← HT.out] at hO7
          obtain ⟨A7, c7, he7, hcc7⟩ := hO7.val
          have HO7 := Lib.hid hO7
          clear hO7 hO5 htw hltO
          have hl7 : (mvd g (alts.take (k + 1))).length = k + 1 := by unfold mvd; rw [List.length_map, List.length_take]; omega
          rw [hl7] at he7
          clear hl7
          subst he7
          go_wp2_with fail
          exact ⟨⟨k + 1, by omega, by go_num, hfr7, HO7.out⟩, by simp [intOf]; omega⟩
    · obtain rfl : k = alts.length := by omega
      rw [List.take_length] at hO
      have HO := Lib.hid hO
      clear hO hlk
      go_wp2_with fail
      exact bodyPost_ret (v := .slice Au alts.length cu) (by simp [results, Tryz.results93, go_sem]) rfl ⟨_, rfl, hfr, HO.out⟩
end Go.Proofs.YtjpdmncafacmaaaGreatDoor
