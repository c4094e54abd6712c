/- joined's closure that adds rows to the result. -/
import Derived.Test.YtjpdmncafacmaaaGreatDoorClos
set_option linter.unusedVariables false
set_option linter.unusedSimpArgs false
namespace Go.Proofs.YtjpdmncafacmaaaGreatDoor
open Go.RowKit

/-! ### Worlds that are as they were below a bound, but for one block -/
structure GrewG (g n0 : Nat) (w w' : World) : Prop where
  os : w'.os = w.os
  tape : w'.tape = w.tape
  output : w'.output = w.output
  size : w.heap.size ≤ w'.heap.size
  drawn : w.drawn ≤ w'.drawn
  block : ∀ b, b < n0 → b ≠ g → w'.heap[b]? = w.heap[b]?
theorem GrewG.refl (g n0 : Nat) (w : World) : GrewG g n0 w w := ⟨rfl, rfl, rfl, Nat.le_refl _, Nat.le_refl _, fun _ _ _ => rfl⟩
theorem GrewG.trans {g n0 : Nat} {w w1 w2 : World} (h : GrewG g n0 w w1) (h' : GrewG g n0 w1 w2) : GrewG g n0 w w2 :=
  ⟨h'.os.trans h.os, h'.tape.trans h.tape, h'.output.trans h.output, Nat.le_trans h.size h'.size, Nat.le_trans h.drawn h'.drawn, fun b hb hg => (h'.block b hb hg).trans (h.block b hb hg)⟩
theorem GrewG.of {g n0 : Nat} {w w' : World} (h : Grew w w') (hg : n0 ≤ w.heap.size) : GrewG g n0 w w' :=
  ⟨h.1.os, h.1.tape, h.1.output, h.1.size, h.2, fun b hb _ => frm_lt h.1 b (by omega)⟩
theorem GrewG.ofR {g n0 : Nat} {w w' : World} {row : Option Nat} (h : GrewR w w' row) (hg : n0 ≤ w.heap.size) (hr : ∀ b, row = some b → n0 ≤ b) : GrewG g n0 w w' :=
  ⟨h.1.os, h.1.tape, h.1.output, h.1.size, h.2, fun b hb _ => h.1.block b (by omega) (fun e => by have := hr b e.symm; omega)⟩
theorem GrewG.set {g n0 : Nat} {w w' : World} (h : GrewG g n0 w w') (o : Nat) (v : Value) : GrewG g n0 w (w'.setCell ⟨g, o, none⟩ v) :=
  ⟨h.os, h.tape, h.output, by simpa using h.size, h.drawn, fun c hc hne => (Below.heap_setCell _ _ _ _ hne).trans (h.block c hc hne)⟩
theorem GrewG.grew {g n0 : Nat} {w0 w w' : World} (h : Grew w0 w) (hg : w0.heap.size ≤ g) (hn : w0.heap.size ≤ n0) (h' : GrewG g n0 w w') : Grew w0 w' :=
  ⟨⟨h'.os.trans h.1.os, h'.tape.trans h.1.tape, h'.output.trans h.1.output, Nat.le_trans h.1.size h'.size, fun b hb hne => (h'.block b (by omega) (by omega)).trans (h.1.block b hb hne)⟩, Nat.le_trans h.2 h'.drawn⟩
theorem GrewG.cell {g n0 : Nat} {w w' : World} (h : GrewG g n0 w w') {b o : Nat} (hb : b < n0) (hne : b ≠ g) {v : Value} (hc : w.cell? ⟨b, o, none⟩ = some v) : w'.cell? ⟨b, o, none⟩ = some v :=
  (World.cell?_of_block (h.block b hb hne)).trans hc

/-- A block of three cells, not frozen. -/
def ThreeAt (w : World) (g : Nat) (v0 v1 v2 : Value) (T : TypeId) : Prop := w.heap[g]? = some (.cells #[v0, v1, v2] T (0, 0))
section
variable {w w' : World} {g : Nat} {v0 v1 v2 : Value} {T : TypeId}
theorem ThreeAt.lt (h : ThreeAt w g v0 v1 v2 T) : g < w.heap.size := (Array.getElem?_eq_some_iff.1 h).1
theorem ThreeAt.cells (h : ThreeAt w g v0 v1 v2 T) : w.cell? ⟨g, 0, none⟩ = some v0 ∧ w.cell? ⟨g, 1, none⟩ = some v1 ∧ w.cell? ⟨g, 2, none⟩ = some v2 := by
  unfold ThreeAt at h
  simp [World.cell?, h]
theorem ThreeAt.free (h : ThreeAt w g v0 v1 v2 T) : Unf w g := by
  intro o
  unfold ThreeAt at h
  simp [World.frozen?, h]
theorem ThreeAt.set0 (h : ThreeAt w g v0 v1 v2 T) (u : Value) : ThreeAt (w.setCell ⟨g, 0, none⟩ u) g u v1 v2 T := by
  unfold ThreeAt at h ⊢
  simp [World.setCell, Array.getElem?_modify, h]
theorem ThreeAt.set1 (h : ThreeAt w g v0 v1 v2 T) (u : Value) : ThreeAt (w.setCell ⟨g, 1, none⟩ u) g v0 u v2 T := by
  unfold ThreeAt at h ⊢
  simp [World.setCell, Array.getElem?_modify, h]
theorem ThreeAt.set2 (h : ThreeAt w g v0 v1 v2 T) (u : Value) : ThreeAt (w.setCell ⟨g, 2, none⟩ u) g v0 v1 u T := by
  unfold ThreeAt at h ⊢
  simp [World.setCell, Array.getElem?_modify, h]
theorem ThreeAt.move (h : ThreeAt w g v0 v1 v2 T) (hw : w'.heap[g]? = w.heap[g]?) : ThreeAt w' g v0 v1 v2 T := hw.trans h
theorem ThreeAt.new (w : World) (v0 v1 v2 : Value) (T : TypeId) : ThreeAt (w.alloc (.cells #[v0, v1, v2] T)) w.heap.size v0 v1 v2 T := by
  show (w.heap.push _)[w.heap.size]? = _
  simp
theorem ThreeAt.frm (h : ThreeAt w g v0 v1 v2 T) (hf : w.grownBy w' none) : ThreeAt w' g v0 v1 v2 T := h.move (frm_lt hf _ h.lt)
end

/-- An automaton under way in block `g`: its list of rows is the call's own, from `n0` on. -/
def OutAt (w : World) (g n0 : Nat) (r : Value) (st : Int) (mv : Value) (xs : List (List (List (List Nd)))) : Prop :=
  ThreeAt w g r (.int .i64 st) mv 25 ∧ g < n0 ∧ n0 ≤ w.heap.size ∧ Own (WR RuleR) w n0 49 1 (fun b => n0 ≤ b) mv xs
theorem OutAt.grew {w w' : World} {g n0 : Nat} {r : Value} {st : Int} {mv : Value} {xs : List (List (List (List Nd)))} (h : OutAt w g n0 r st mv xs) (hf : Grew w w') : OutAt w' g n0 r st mv xs :=
  ⟨h.1.frm hf.1, h.2.1, Nat.le_trans h.2.2.1 hf.1.size, h.2.2.2.kept (moves_WR moves_rule) hf.1 (ownNone _) (by simp)⟩
/-- A function value's working in all worlds that are as they were below a block. -/
def NdFnG (F : Nat) (cb : Array Value) (g0 n0 : Nat) (w : World) (g : Nd → Nd) (x : Nd) : Prop :=
  ∀ w', GrewG g0 n0 w w' → Calls Tryz.prog F (#[.agg #[.int .i64 x.1, .int .i64 x.2]] ++ cb) w' (RetD w' (.agg #[.int .i64 (g x).1, .int .i64 (g x).2]))
theorem NdFnG.at {F : Nat} {cb : Array Value} {g0 n0 : Nat} {w w1 : World} {g : Nd → Nd} {x : Nd} (h : NdFnG F cb g0 n0 w g x) (hw : GrewG g0 n0 w w1) (hg : n0 ≤ w1.heap.size) : NdFn F cb w1 g x :=
  fun w' hf => h w' (hw.trans (.of hf hg))

/-- A need in order, the states' numbers bounded. -/
def rowsOk (m : List (List (List (List Nd)))) (p : Nd → Prop) : Prop := m.length ≤ 1000 ∧ ∀ row ∈ m, row.length ≤ 1000 ∧ ∀ alts ∈ row, alts.length ≤ 1000 ∧ ∀ l ∈ alts, l.length ≤ 1000 ∧ ∀ x ∈ l, p x
set_option maxRecDepth 100000 in
set_option maxHeartbeats 1000000 in
theorem rows_calls (m : List (List (List (List Nd)))) (f : Nd → Nd) (F : Nat) (cb : Array Value) (g n0 : Nat) (r : Value) (st : Int) (mv0 : Value) (xs : List (List (List (List Nd)))) (w : World) (v : Value)
    (eg : ∀ args w, (callFunc F args).run Tryz.prog w = .ok (.enter F args) w)
    (hm : rowsOk m fun x => NdFnG F cb g n0 w f x ∧ Nd.small (f x)) (hxs : xs.length ≤ 1000) (hout : OutAt w g n0 r st mv0 xs)
    {S : Nat → Prop} (hS : ∀ b, S b → b < g) (hv : MovesR S w m [v]) :
    Calls Tryz.prog 102 #[v, .func (.func F) #[] cb, .pointer (some ⟨g, 0, none⟩)] w fun e w' => e = .returned (.tuple #[]) ∧ GrewG g n0 w w' ∧ ∃ mv, OutAt w' g n0 r st mv (xs ++ m.map (·.map (mvd f))) := by
  obtain ⟨v', hve, hM⟩ := hv
  obtain rfl : v = v' := by simpa using hve
  obtain ⟨A, c, rfl, hc, hlm⟩ := hM.val
  have HM := Lib.hid hm
  have HXS := Lib.hid hxs
  have HS := Lib.hid hS
  have hml := hm.1
  have HN0 : Hid (g < n0 ∧ n0 ≤ w.heap.size) := ⟨hout.2.1, hout.2.2.1⟩
  clear hm hve hxs hS
  go_enter Tryz.func102, Tryz.ntmps102
  go_wp2_with fail
  go_loopw [12] (fun i wr => ∃ k : Nat, k ≤ m.length ∧ i = .int .i64 k ∧ GrewG g n0 w wr ∧ ∃ mv, OutAt wr g n0 r st mv (xs ++ (m.take k).map (·.map (mvd f)))) (fun i _ => m.length - (intOf i).toNat)
  case atStart => exact ⟨0, Nat.zero_le _, rfl, .refl _ _ _, mv0, by simpa using hout⟩
  case round =>
    obtain ⟨k, hk, rfl, hfr, mv, hO⟩ := hrel
    by_cases hlt : k < m.length
    · have hMr := hM.move (S' := S) (w' := wr) (r' := RuleR S wr) (fun b hb => hb) (fun b hb => hfr.block b (by have := HS.out b hb; have := HN0.out; omega) (by have := HS.out b hb; omega)) (fun x _ cs h => moves_rule _ _ _ _ _ _ (fun b hb => hb) (fun b hb => hfr.block b (by have := HS.out b hb; have := HN0.out; omega) (by have := HS.out b hb; omega)) h)
      obtain ⟨b, o, p0, rfl, hb, hp0, hpt⟩ := hMr.at1 k hlt
      have HT : Hid (xs ++ (m.take (k + 1)).map (·.map (mvd f)) = (xs ++ (m.take k).map (·.map (mvd f))) ++ [(m[k]).map (mvd f)]) := by
        unfold Hid
        rw [List.take_succ_eq_append_getElem hlt, List.map_append, List.append_assoc]
        rfl
      have HL := Lib.hid (show (xs ++ (m.take k).map (·.map (mvd f))).length = xs.length + k by rw [List.length_append, List.length_map, List.length_take]; omega)
      have HR := Lib.hid (HM.out.2 _ (List.getElem_mem hlt))
      have hrl := HR.out.1
      clear hMr
      generalize m[k] = row at *
      obtain ⟨v2, hve2, hRow⟩ := hpt
      obtain rfl : p0 = v2 := by simpa using hve2
      obtain ⟨A2, c2, rfl, hc2, hm2⟩ := hRow.val
      clear hve2
      have HO := Lib.hid hO
      have hlg := hO.1.lt
      have hgn := hO.2.1
      have hnw := hO.2.2.1
      clear hO
      go_wp2_with fail
      obtain ⟨wo, hwo⟩ : ∃ wo : World, wo = wr := ⟨_, rfl⟩
      subst hwo
      go_loopw [7, 18] (fun u i wq => ∃ j : Nat, j ≤ row.length ∧ i = .int .i64 j ∧ Grew wo wq ∧ Own (WR AltsR) wq wo.heap.size 50 1 (fun b => wo.heap.size ≤ b) u ((row.take j).map (mvd f))) (fun _ i _ => row.length - (intOf i).toNat)
      case atStart => exact ⟨0, Nat.zero_le _, rfl, grew_refl _, Own.nil _ _ _ _ _ _⟩
      case round =>
        obtain ⟨j, hj, rfl, hfq, hQ⟩ := hrel
        obtain ⟨Aq, cq, he, hcq⟩ := hQ.val
        have hlj : ((row.take j).map (mvd f)).length = j := by rw [List.length_map, List.length_take]; omega
        rw [hlj] at he hcq
        subst he
        by_cases hltj : j < row.length
        · have hSq : ∀ b, S b → wr.heap[b]? = wo.heap[b]? := fun b hb => frm_lt hfq.1 b (by have := HS.out b hb; omega)
          have hRq := hRow.move (S' := S) (w' := wr) (r' := AltsR S wr) (fun b hb => hb) hSq (fun x _ cs h => moves_alts _ _ _ _ _ _ (fun b hb => hb) hSq h)
          obtain ⟨b3, o3, q0, rfl, hb3, hq0, hqt⟩ := hRq.at1 j hltj
          have HT2 : Hid ((row.take (j + 1)).map (mvd f) = (row.take j).map (mvd f) ++ [mvd f row[j]]) := by
            unfold Hid
            rw [List.take_succ_eq_append_getElem hltj, List.map_append]
            rfl
          obtain ⟨hal1, hal2⟩ := HR.out.2 _ (List.getElem_mem hltj)
          clear hRq hSq
          generalize row[j] = alts at *
          obtain ⟨v3, hve3, hAl⟩ := id hqt
          obtain rfl : q0 = v3 := by simpa using hve3
          obtain ⟨A3, c3, rfl, hc3, hm3⟩ := hAl.val
          have hsq := hfq.1.size
          have HMV := Lib.hid (moved_calls alts f F cb wr (.slice A3 alts.length c3) eg (fun l hl x hx => ⟨((hal2 l hl).2 x hx).1.at (hfr.trans (.of hfq (by omega))) (by omega), ((hal2 l hl).2 x hx).2⟩)
            (moves_alts _ _ _ _ _ _ (fun b hb => by have := HS.out b hb; omega) (fun _ _ => rfl) hqt) hal1 (fun l hl => (hal2 l hl).1))
          have HQ := Lib.hid hQ
          have HLJ := Lib.hid hlj
          clear hQ hlj hqt hAl hve3 hal1 hal2
          go_wp2_with fail
          refine HMV.out.mono ?_
          rintro e w4 ⟨u4, rfl, hf4, hO4⟩
          have hlmv : (mvd f alts).length = alts.length := by unfold mvd; rw [List.length_map]
          have hW4 := hO4.slW moves_alt (by rw [hlmv]; omega) (S := fun b => wr.heap.size ≤ b ∧ b < w4.heap.size) (fun b h1 h2 => ⟨h1, h2⟩) (fun b hb => hO4.lt b hb)
          obtain ⟨A4, c4, rfl, hc4⟩ := hO4.val
          have HW4 := Lib.hid hW4
          have HLMV := Lib.hid hlmv
          clear hO4 hW4 hlmv
          dsimp only
          repeat ((fail_if_success at_builtin); first | go_values | go_skip | go_guarded | go_step | go_upon)
          have hf5 : Grew wr (w4.alloc (.cells #[.slice A4 (mvd f alts).length c4] 50)) := grew_then_alloc hf4 _
          have hO5 := HQ.out.kept (moves_WR moves_alts) hf5.1 (ownNone _) (by simp)
          have htw := OneAt.new w4 (.slice A4 (mvd f alts).length c4) 50
          have hlen := HLJ.out
          have hs5 := hf5.1.size
          have hs4 := hf4.1.size
          have hltO := HQ.out.lt
          refine Own.app1 (moves_WR moves_alts) elem_alts hO5 rfl _ _ rfl rfl rfl (mvd f alts) [.slice A4 (mvd f alts).length c4] rfl ?_ ?_ ?_ (by rw [hlen]; omega) (by omega) (by omega) ?_
          · intro j u hj
            match j with
            | 0 => simp at hj; subst hj; exact htw.cell
            | j + 1 => simp at hj
          · intro u hu
            simp at hu
            subst hu
            rfl
          · refine moves_WR moves_alts _ _ _ _ _ _ (fun b hb => ⟨by omega, by simp; omega, fun e => ?_⟩) (fun b hb => Below.heap_alloc _ _ _ (by omega)) HW4.out
            have := (hltO b e.symm).2
            omega
          intro v7 w7 hO7 hg7 hp7
          have hfr7 : Grew wo w7 := grew_own (grew_trans hfq hf5) (fun b hb => (hltO b hb).1) hg7.1 hg7.2
          rw [← HT2.out] at hO7
          obtain ⟨A7, c7, he7, hcc7⟩ := hO7.val
          have HO7 := Lib.hid hO7
          clear hO7 hO5 htw hltO
          have hl7 : ((row.take (j + 1)).map (mvd f)).length = j + 1 := by rw [List.length_map, List.length_take]; omega
          rw [hl7] at he7
          clear hl7
          subst he7
          go_wp2_with fail
          exact ⟨⟨j + 1, by omega, by go_num, hfr7, HO7.out⟩, by simp [intOf]; omega⟩
        · obtain rfl : j = row.length := by omega
          rw [List.take_length] at hQ
          have hO1 := HO.out.grew hfq
          obtain ⟨hc0, hc1, hc2'⟩ := hO1.1.cells
          have hfz := hO1.1.free 2
          obtain ⟨Am, cm, hme, hmc⟩ := hO1.2.2.2.val
          rw [HL.out] at hme hmc
          subst hme
          have hsq := hfq.1.size
          have hlm2 : (row.map (mvd f)).length = row.length := by simp
          have hWq := hQ.slW moves_alts (by omega) (S := fun b => wo.heap.size ≤ b ∧ b < wr.heap.size) (fun b h1 h2 => ⟨h1, h2⟩) (fun b hb => hQ.lt b hb)
          have HWq := Lib.hid hWq
          have HO1 := Lib.hid hO1
          clear hWq hQ hO1 hlj
          repeat ((fail_if_success at_builtin); first | go_values | go_skip | go_guarded | go_step | go_upon)
          have hf5 : Grew wr (wr.alloc (.cells #[.slice Aq row.length cq] 49)) := grew_alloc _ _
          have hO5 := (HO1.out.grew hf5)
          have htw := OneAt.new wr (.slice Aq row.length cq) 49
          have hlen := HL.out
          have hxl := HXS.out
          have hltO := hO5.2.2.2.lt
          have hltO1 := HO1.out.2.2.2.lt
          refine Own.app1 (moves_WR moves_rule) elem_rule hO5.2.2.2 rfl _ _ rfl rfl rfl (row.map (mvd f)) [.slice Aq row.length cq] rfl ?_ ?_ ?_ (by rw [hlen]; omega) (by omega) (by simp; omega) ?_
          · intro j u hj
            match j with
            | 0 => simp at hj; subst hj; exact htw.cell
            | j + 1 => simp at hj
          · intro u hu
            simp at hu
            subst hu
            rfl
          · refine moves_WR moves_rule _ _ _ _ _ _ (fun b hb => ⟨by omega, by simp; omega, fun e => ?_⟩) (fun b hb => Below.heap_alloc _ _ _ (by omega)) HWq.out
            have hO2 := HO.out.2.2.2.lt b e.symm
            omega
          intro v7 w7 hO7 hg7 hp7
          rw [← HT.out] at hO7
          have hT7 : ThreeAt w7 g r (.int .i64 st) (.slice Am (xs.length + k) cm) 25 := hO5.1.move (hg7.1.block g (by simp; omega) (fun e => by have := (hltO g e.symm).1; omega))
          have hG7 : GrewG g n0 wo w7 := (GrewG.of (grew_trans hfq hf5) (by omega)).trans (.ofR hg7 (by simp; omega) (fun b hb => by have := (hltO b hb).1; omega))
          obtain ⟨A7, c7, he7, hcc7⟩ := hO7.val
          rw [show (xs ++ (m.take (k + 1)).map (·.map (mvd f))).length = xs.length + (k + 1) by rw [List.length_append, List.length_map, List.length_take]; omega] at he7
          have hT8 := hT7.set2 v7
          have hO8 := hO7.kept (moves_WR moves_rule) (w' := w7.setCell ⟨g, 2, none⟩ v7) (row := some g) (frm_set (frm_refl _ _) _ _) (.inr fun e => by have := (hO7.lt g e).1; omega) (fun b hb e => by injection e with e; omega)
          have HG8 := Lib.hid (hfr.trans (hG7.set 2 v7))
          obtain ⟨hd0, hd1, hd2⟩ := hT7.cells
          have hfz7 := hT7.free 2
          have HO8 := Lib.hid (show OutAt (w7.setCell ⟨g, 2, none⟩ v7) g n0 r st v7 (xs ++ (m.take (k + 1)).map (·.map (mvd f))) from ⟨hT8, hgn, by have := hg7.1.size; simp at this ⊢; omega, hO8⟩)
          clear hO7 hO5 htw hltO hO8 hT8 hT7 hG7
          subst he7
          go_wp2_with fail
          exact ⟨⟨k + 1, by omega, by go_num, HG8.out, _, HO8.out⟩, by simp [intOf]; omega⟩
    · obtain rfl : k = m.length := by omega
      rw [List.take_length] at hO
      have HO := Lib.hid hO
      clear hO
      go_wp2_with fail
      exact bodyPost_end (results_none rfl _ _ _) rfl ⟨rfl, hfr, mv, HO.out⟩
end Go.Proofs.YtjpdmncafacmaaaGreatDoor
