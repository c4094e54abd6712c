/- What And and Or make of the alternatives of two starts. -/
import Derived.Test.YtjpdmncafacmaaaGreatDoorRows1
set_option linter.unusedVariables false
set_option linter.unusedSimpArgs false
namespace Go.Proofs.YtjpdmncafacmaaaGreatDoor
open Go.RowKit

def stAnd (x y : List (List Nd)) : List (List Nd) := x.flatMap fun l => y.map fun m => ndSet (l ++ m)
def stOr (x y : List (List Nd)) : List (List Nd) := x ++ y
def altsSmall (x : List (List Nd)) : Prop := x.length ≤ 100 ∧ ∀ l ∈ x, l.length ≤ 100 ∧ ∀ n ∈ l, Nd.small n
theorem stAnd_len : ∀ (x y : List (List Nd)), (stAnd x y).length = x.length * y.length
  | [], y => by simp [stAnd]
  | l :: x, y => by
    have := stAnd_len x y
    unfold stAnd at this ⊢
    rw [List.flatMap_cons, List.length_append, this, List.length_map, List.length_cons, Nat.succ_mul]
    omega

set_option maxRecDepth 100000 in
set_option maxHeartbeats 1000000 in
theorem stAnd_calls (x y : List (List Nd)) (w : World) (v u : Value) (hx : rdO AltsR w x [v]) (hy : rdO AltsR w y [u]) (hxs : altsSmall x) (hys : altsSmall y) :
    Calls Tryz.prog 59 #[v, u] w fun e w' => ∃ z, e = .returned z ∧ Grew w w' ∧ Own (WR AltR) w' w.heap.size 76 1 (fun b => w.heap.size ≤ b) z (stAnd x y) := by
  have hX := RowS.sl hx
  have hY := RowS.sl hy
  obtain ⟨A, c, rfl, hc, hm⟩ := hX.val
  obtain ⟨B, d, rfl, hd, hm'⟩ := hY.val
  have HXS := Lib.hid hxs
  have HYS := Lib.hid hys
  have hxl := hxs.1
  have hyl := hys.1
  clear hx hy hxs hys
  go_enter Tryz.func59, Tryz.ntmps59
  go_wp2_with fail
  go_loopw [5, 12] (fun z i wr => ∃ k : Nat, k ≤ x.length ∧ i = .int .i64 k ∧ Grew w wr ∧ Own (WR AltR) wr w.heap.size 76 1 (fun b => w.heap.size ≤ b) z (stAnd (x.take k) y)) (fun _ i _ => x.length - (intOf i).toNat)
  case atStart => exact ⟨0, Nat.zero_le _, rfl, grew_refl _, Own.nil _ _ _ _ _ _⟩
  case round =>
    obtain ⟨k, hk, rfl, hfr, hO⟩ := hrel
    obtain ⟨Au, cu, he, hcu⟩ := hO.val
    subst he
    by_cases hlt : k < x.length
    · obtain ⟨b, o, p0, rfl, hb, hp0', hpt⟩ := hX.at1 k hlt
      have hp0 := frm_cell hfr.1 hp0'
      clear hp0'
      have HT : Hid (stAnd (x.take (k + 1)) y = stAnd (x.take k) y ++ y.map fun m => ndSet (x[k] ++ m)) := by
        unfold Hid stAnd
        rw [List.take_succ_eq_append_getElem hlt, List.flatMap_append]
        simp
      have HLK : Hid ((stAnd (x.take k) y).length = k * y.length) := by
        unfold Hid
        rw [stAnd_len, List.length_take, Nat.min_eq_left hk]
      have HLx := Lib.hid (HXS.out.2 _ (List.getElem_mem hlt))
      have hk1 : k ≤ 100 := by omega
      generalize x[k] = l at *
      obtain ⟨v2, hve2, hl2⟩ := id hpt
      obtain rfl : p0 = v2 := by simpa using hve2
      obtain ⟨A2, c2, rfl, hc2, hm2⟩ := hl2.val
      have HPT := Lib.hid hpt
      have HO := Lib.hid hO
      have HFR := Lib.hid hfr
      clear hpt hl2 hve2 hO hfr
      go_wp2_with fail
      go_loopw [5, 18] (fun z i wq => ∃ j : Nat, j ≤ y.length ∧ i = .int .i64 j ∧ Grew w wq ∧ Own (WR AltR) wq w.heap.size 76 1 (fun b => w.heap.size ≤ b) z (stAnd (x.take k) y ++ (y.take j).map fun m => ndSet (l ++ m))) (fun _ i _ => y.length - (intOf i).toNat)
      case atStart => exact ⟨0, Nat.zero_le _, rfl, HFR.out, by simpa using HO.out⟩
      case round =>
        obtain ⟨j, hj, rfl, hfq, hQ⟩ := hrel
        obtain ⟨Aq, cq, he, hcq⟩ := hQ.val
        have hlj : (stAnd (x.take k) y ++ (y.take j).map fun m => ndSet (l ++ m)).length = k * y.length + j := by rw [List.length_append, HLK.out, List.length_map, List.length_take]; omega
        rw [hlj] at he hcq
        subst he
        have hG := hfq
        by_cases hltj : j < y.length
        · obtain ⟨b3, o3, q0, rfl, hb3, hq0, hqt⟩ := (hY.frm hG.1 (stays_rd moves_alt)).at1 j hltj
          have HT2 : Hid ((stAnd (x.take k) y ++ (y.take (j + 1)).map fun m => ndSet (l ++ m)) = (stAnd (x.take k) y ++ (y.take j).map fun m => ndSet (l ++ m)) ++ [ndSet (l ++ y[j])]) := by
            unfold Hid
            rw [List.take_succ_eq_append_getElem hltj, List.map_append, List.append_assoc]
            rfl
          have HLy := Lib.hid (HYS.out.2 _ (List.getElem_mem hltj))
          generalize y[j] = m at *
          obtain ⟨v3, hve3, hl3⟩ := id hqt
          obtain rfl : q0 = v3 := by simpa using hve3
          obtain ⟨A3, c3, rfl, hc3, hm3⟩ := hl3.val
          have hll := HLx.out.1
          have hlm := HLy.out.1
          have HC := Lib.hid (cloneN_calls l wr _ (rdO_frm moves_alt hG.1 HPT.out) (by omega))
          have HQT := Lib.hid hqt
          have HQ := Lib.hid hQ
          have HLJ := Lib.hid hlj
          have hjk : k * y.length ≤ 10000 := by
            have := Nat.mul_le_mul (show k ≤ 100 by omega) (show y.length ≤ 100 by omega)
            omega
          clear hqt hl3 hve3 hQ hlj
          go_wp2_with fail
          refine HC.out.mono ?_
          rintro e w4 ⟨u4, rfl, hf4, hO4⟩
          dsimp only
          repeat ((fail_if_success at_builtin); first | go_values | go_skip | go_guarded | go_step | go_upon)
          have hS4 : Sl (fun b => b < wr.heap.size) w4 2 (NdR (fun b => b < wr.heap.size) w4) m (.slice A3 m.length c3) :=
            Sl.move (RowS.sl HQT.out) (fun b hb => hb) (frm_lt hf4.1) fun x _ cs h => moves_nd _ _ _ _ _ _ (fun b hb => hb) (frm_lt hf4.1) h
          have hs4 := hf4.1.size
          have hlt4 := hO4.lt
          obtain ⟨v5, w5, hrun, hO5, hg5, hp5⟩ := Own.app_sl moves_nd elem_nd hO4 76 hS4 (fun b hb => ⟨trivial, by omega, fun e => by
              have := (hlt4 b e.symm).1
              omega⟩) (fun x cs h u hu => by
            obtain ⟨rfl, _⟩ := h
            simp only [List.mem_cons, List.not_mem_nil, or_false] at hu
            rcases hu with rfl | rfl <;> rfl) (by omega) (by omega) (by omega)
          refine append_list _ _ rfl rfl rfl rfl hrun ?_
          have hG5 : Grew wr w5 := grew_own hf4 (fun b hb => (hlt4 b hb).1) hg5.1 hg5.2
          have hlt5 := hO5.lt
          have HO6 := Lib.hid (ordered_calls (l ++ m) (fun n hn => by
            rcases List.mem_append.1 hn with h | h
            · exact HLx.out.2 n h
            · exact HLy.out.2 n h) (by rw [List.length_append]; omega) _ _ hO5)
          have HLT5 := Lib.hid hlt5
          clear hrun hO5 hO4 hS4 hlt4 hlt5 hp5
          go_wp2_with fail
          refine HO6.out.mono ?_
          rintro e w6 ⟨A6, c6, rfl, hf6, hr6⟩
          have HR6 := Lib.hid hr6
          clear hr6
          have hG6 : Grew wr w6 := grew_own hG5 (fun b hb => (HLT5.out b hb).1) hf6.1 hf6.2
          dsimp only
          repeat ((fail_if_success at_builtin); first | go_values | go_skip | go_guarded | go_step | go_upon)
          have hf7 : Grew wr (w6.alloc (.cells #[.slice A6 (ndSet (l ++ m)).length c6] 76)) := grew_then_alloc hG6 _
          have hO7 := HQ.out.kept (moves_WR moves_alt) hf7.1 (ownNone _) (by simp)
          have htw := OneAt.new w6 (.slice A6 (ndSet (l ++ m)).length c6) 76
          have hlen := HLJ.out
          have hs0 := hG.1.size
          have hs7 := hf7.1.size
          have hs6 := hf6.1.size
          have hltO := HQ.out.lt
          refine Own.app1 (moves_WR moves_alt) elem_alt hO7 rfl _ _ rfl rfl rfl (ndSet (l ++ m)) [.slice A6 (ndSet (l ++ m)).length c6] rfl ?_ ?_ ?_ (by rw [hlen]; omega) (by omega) (by omega) ?_
          · intro j u hj
            match j with
            | 0 => simp at hj; subst hj; exact htw.cell
            | j + 1 => simp at hj
          · intro u hu
            simp at hu
            subst hu
            rfl
          · refine moves_WR moves_alt _ _ _ _ _ _ (fun b hb => ?_) (fun b hb => ?_) HR6.out
            · have h1 := HLT5.out b hb.symm
              refine ⟨by omega, by simp; omega, fun e => ?_⟩
              have := (hltO b e.symm).2
              omega
            · have h1 := HLT5.out b hb.symm
              exact Below.heap_alloc _ _ _ (by omega)
          intro v8 w8 hO8 hg8 hp8
          have hfr8 : Grew w w8 := grew_own (grew_trans hfq hf7) (fun b hb => (hltO b hb).1) hg8.1 hg8.2
          rw [← HT2.out] at hO8
          obtain ⟨A8, c8, he8, hcc8⟩ := hO8.val
          have HO8 := Lib.hid hO8
          clear hO8 hO7 htw hltO
          have hl8 : (stAnd (x.take k) y ++ (y.take (j + 1)).map fun m => ndSet (l ++ m)).length = k * y.length + (j + 1) := by rw [List.length_append, HLK.out, List.length_map, List.length_take]; omega
          rw [hl8] at he8
          clear hl8
          subst he8
          go_wp2_with fail
          exact ⟨⟨j + 1, by omega, by go_num, hfr8, HO8.out⟩, by simp [intOf]; omega⟩
        · obtain rfl : j = y.length := by omega
          rw [List.take_length, ← HT.out] at hQ
          have HQ := Lib.hid hQ
          have hl9 : k * y.length + y.length = (k + 1) * y.length := by rw [Nat.succ_mul]
          clear hQ hlj
          go_wp2_with fail
          exact ⟨⟨k + 1, by omega, by go_num, hG, HQ.out⟩, by simp [intOf]; omega⟩
    · obtain rfl : k = x.length := by omega
      rw [List.take_length] at hO
      have HO := Lib.hid hO
      clear hO
      go_wp2_with fail
      exact bodyPost_ret (v := .slice Au (stAnd x y).length cu) (by simp [results, Tryz.results59, go_sem]) rfl ⟨_, rfl, hfr, HO.out⟩

/-- What joined asks of its start. -/
def StFn (F : Nat) (st : List (List Nd) → List (List Nd) → List (List Nd)) : Prop :=
  ∀ (x y : List (List Nd)) (w : World) (base : Nat) (v u : Value), altsSmall x → altsSmall y → base ≤ w.heap.size → Own (WR AltR) w base 76 1 (fun b => base ≤ b) v x →
    WR AltsR (fun b => base ≤ b ∧ b < w.heap.size ∧ some b ≠ v.ownBlock) w y [u] →
    Calls Tryz.prog F #[v, u] w fun e w' => ∃ z, e = .returned z ∧ GrewR w w' v.ownBlock ∧ Own (WR AltR) w' base 76 1 (fun b => base ≤ b) z (st x y)
theorem stFn_and : StFn 59 stAnd := by
  intro x y w base v u hxs hys hb hx hy
  have hxl := hxs.1
  have hx1 : rdO AltsR w x [v] := by
    have h := hx.slW moves_alt (by omega) (S := fun b => b < w.heap.size) (fun b _ h => h) (fun b hb => (hx.lt b hb).2)
    exact WR.rd moves_alts h
  have hy1 : rdO AltsR w y [u] := WR.rd moves_alts (moves_WR moves_alts _ _ _ _ _ _ (fun b hb => hb.2.1) (fun _ _ => rfl) hy)
  refine (stAnd_calls x y w v u hx1 hy1 hxs hys).mono ?_
  rintro e w' ⟨z, rfl, hg, ho⟩
  exact ⟨z, rfl, grewR_weak hg, (ho.lower hb).ok_mono (moves_WR moves_alt) (fun b h1 _ => by omega)⟩
set_option maxRecDepth 100000 in
set_option maxHeartbeats 1000000 in
theorem stFn_or : StFn 61 stOr := by
  intro x y w base v u hxs hys hb hx hy
  have hxl := hxs.1
  have hyl := hys.1
  obtain ⟨v', hve, hY⟩ := hy
  obtain rfl : u = v' := by simpa using hve
  obtain ⟨A, c, rfl, hc⟩ := hx.val
  obtain ⟨B, d, rfl, hd, _⟩ := hY.val
  obtain ⟨v5, w5, hrun, hO5, hg5, hp5⟩ := Own.app_sl (S := fun b => base ≤ b ∧ b < w.heap.size ∧ some b ≠ (Value.slice A x.length c).ownBlock) (moves_WR moves_alt) elem_alt hx 50 (ys := y) (u := .slice B y.length d)
    (hY.move (fun b hb => hb.1) (fun _ _ => rfl) fun x _ cs h => h) (fun b hb => ⟨hb.1, hb.2.1, hb.2.2⟩) (fun x cs h u hu => by
      obtain ⟨v, rfl, A5, c5, rfl, _⟩ := h
      simp only [List.mem_cons, List.not_mem_nil, or_false] at hu
      subst hu
      rfl) (by omega) (by omega) hb
  have HO := Lib.hid hO5
  have HG := Lib.hid hg5
  clear hx hY hO5 hp5 hve hg5
  go_enter Tryz.func61, Tryz.ntmps61
  repeat ((fail_if_success at_builtin); first | go_values | go_skip | go_guarded | go_step | go_upon)
  refine append_list _ _ rfl rfl rfl rfl hrun ?_
  obtain ⟨A5, c5, hv5, hcc5⟩ := HO.out.val
  subst hv5
  clear hrun
  go_wp2_with fail
  exact bodyPost_ret (v := .slice A5 (x ++ y).length c5) (by simp [results, Tryz.results61, go_sem]) rfl ⟨_, rfl, HG.out, HO.out⟩
end Go.Proofs.YtjpdmncafacmaaaGreatDoor
