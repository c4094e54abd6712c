/- GrpOwn: parts of the walks, one section each: the texts TurnP, TurnW, ReachW, LOwn, LawMixOwn. -/
import Derived.Test.YtjpdmncafacmaaaGreatDoorJoinD
import Derived.Test.YtjpdmncafacmaaaGreatDoorRefBothR
import Derived.Test.YtjpdmncafacmaaaGreatDoorGrpMrg
import Derived.Test.YtjpdmncafacmaaaGreatDoorGrpHit
import Derived.Test.YtjpdmncafacmaaaGreatDoorGrpA
import Derived.Test.YtjpdmncafacmaaaGreatDoorAuLaw
import Derived.ScopeJumps
import Derived.WalkMore
import Derived.Test.YtjpdmncafacmaaaGreatDoorGrpD
import Derived.Test.YtjpdmncafacmaaaGreatDoorCards
import Derived.Test.YtjpdmncafacmaaaGreatDoorTie
import Derived.WalkKit
import Derived.ProofKit
import Derived.OpenShut
import Derived.ShutString
import Derived.ChangeOld
import Derived.Below
import Derived.SizedLaws
import Derived.Carry
import Derived.Deep.DeepHandedRow
import Derived.Deep.CondSized
import Derived.Lib.LaidTab
import Derived.Stop.LaidErr
import Derived.SevenTiedAt
/- Whole numbers changed in place: what else is read stays. -/
section
set_option linter.unusedVariables false
set_option linter.unusedSimpArgs false
namespace Go.Proofs.YtjpdmncafacmaaaGreatDoor
open Go.RowKit

/-- The same value, or both are whole numbers. -/
def SameV (v v' : Value) : Prop := v' = v ∨ ∃ n m, v = .int .i64 n ∧ v' = .int .i64 m
theorem SameV.trans {v v1 v2 : Value} (h : SameV v v1) (h' : SameV v1 v2) : SameV v v2 := by
  rcases h with rfl | ⟨n, m, rfl, rfl⟩
  · exact h'
  · rcases h' with rfl | ⟨n', m', _, rfl⟩
    · exact .inr ⟨_, _, rfl, rfl⟩
    · exact .inr ⟨_, _, rfl, rfl⟩
/-- Only whole numbers in the blocks `S` differ. -/
structure Turned (S : Nat → Prop) (w w' : World) : Prop where
  os : w'.os = w.os
  tape : w'.tape = w.tape
  output : w'.output = w.output
  size : w'.heap.size = w.heap.size
  drawn : w.drawn ≤ w'.drawn
  block : ∀ b, ¬ S b → w'.heap[b]? = w.heap[b]?
  frozen : ∀ a, w'.frozen? a = w.frozen? a
  cell : ∀ b o v, w.cell? ⟨b, o, none⟩ = some v → ∃ v', w'.cell? ⟨b, o, none⟩ = some v' ∧ SameV v v'
theorem turned_refl (S : Nat → Prop) (w : World) : Turned S w w := ⟨rfl, rfl, rfl, rfl, Nat.le_refl _, fun _ _ => rfl, fun _ => rfl, fun _ _ v h => ⟨v, h, .inl rfl⟩⟩
theorem Turned.drewN {S : Nat → Prop} {w w' : World} (h : Turned S w w') (n : Nat) : Turned S w (w'.drewN n) :=
  ⟨h.os, h.tape, h.output, h.size, Nat.le_trans h.drawn (Nat.le_add_right _ _), h.block, h.frozen, h.cell⟩
theorem Turned.drew {S : Nat → Prop} {w w' : World} (h : Turned S w w') : Turned S w w'.drew :=
  ⟨h.os, h.tape, h.output, h.size, Nat.le_trans h.drawn (Nat.le_add_right _ _), h.block, h.frozen, h.cell⟩
theorem Turned.set {S : Nat → Prop} {w w' : World} (h : Turned S w w') {b o : Nat} {n : Int} (hb : S b) (hc : w'.cell? ⟨b, o, none⟩ = some (.int .i64 n)) (m : Int) : Turned S w (w'.setCell ⟨b, o, none⟩ (.int .i64 m)) := by
  refine ⟨h.os, h.tape, h.output, by simpa using h.size, h.drawn, fun q hq => ?_, fun a => ?_, fun b' o' v hv => ?_⟩
  · rw [Below.heap_setCell _ _ _ _ (by rintro rfl; exact hq hb)]
    exact h.block q hq
  · rw [World.frozen?_setCell]
    exact h.frozen a
  · obtain ⟨v', h1, h2⟩ := h.cell b' o' v hv
    by_cases he : b = b' ∧ o = o'
    · obtain ⟨rfl, rfl⟩ := he
      rw [hc] at h1
      injection h1 with h1
      subst h1
      exact ⟨_, World.cell?_setCell_same _ _ _ hc, h2.trans (.inr ⟨_, _, rfl, rfl⟩)⟩
    · rw [World.cell?_setCell_other _ _ _ _ (by intro e; simp only [Addr.mk.injEq] at e; exact he ⟨e.1, e.2.1⟩)]
      exact ⟨v', h1, h2⟩
theorem Turned.at {S : Nat → Prop} {w w' : World} (h : Turned S w w') {b o : Nat} {A : Option Addr} {n c : Nat} (hc : w.cell? ⟨b, o, none⟩ = some (.slice A n c)) : w'.cell? ⟨b, o, none⟩ = some (.slice A n c) := by
  obtain ⟨v', h1, rfl | ⟨n, m, e, _⟩⟩ := h.cell _ _ _ hc
  · exact h1
  · cases e
theorem SameV.int {n : Int} {v' : Value} (h : SameV (.int .i64 n) v') : ∃ m, v' = .int .i64 m := by
  rcases h with rfl | ⟨_, m, _, rfl⟩
  · exact ⟨_, rfl⟩
  · exact ⟨_, rfl⟩
theorem Turned.num {S : Nat → Prop} {w w' : World} (h : Turned S w w') {b o : Nat} {n : Int} (hc : w.cell? ⟨b, o, none⟩ = some (.int .i64 n)) : ∃ m, w'.cell? ⟨b, o, none⟩ = some (.int .i64 m) := by
  obtain ⟨v', h1, h2⟩ := h.cell _ _ _ hc
  obtain ⟨m, rfl⟩ := h2.int
  exact ⟨m, h1⟩
end Go.Proofs.YtjpdmncafacmaaaGreatDoor
end
/- law10.turn, walked: an automaton's numbers changed in place; nothing but its own blocks. -/
section
set_option linter.unusedVariables false
set_option linter.unusedSimpArgs false
namespace Go.Proofs.YtjpdmncafacmaaaGreatDoor
open Go.RowKit

/-- Nothing is changed but the blocks `S` (and new ones). -/
structure Spared (S : Nat → Prop) (w w' : World) : Prop where
  os : w'.os = w.os
  tape : w'.tape = w.tape
  output : w'.output = w.output
  size : w.heap.size ≤ w'.heap.size
  drawn : w.drawn ≤ w'.drawn
  block : ∀ b, b < w.heap.size → ¬ S b → w'.heap[b]? = w.heap[b]?
theorem Spared.of {S : Nat → Prop} {w w1 w' : World} (hG : Grew w w1) (h : Turned S w1 w') : Spared S w w' :=
  ⟨h.os.trans hG.1.os, h.tape.trans hG.1.tape, h.output.trans hG.1.output, by rw [h.size]; exact hG.1.size, Nat.le_trans hG.2 h.drawn, fun b hb hn => (h.block b hn).trans (hG.1.block b hb (by simp))⟩
theorem frz_at {S : Nat → Prop} {w w' : World} (h : Turned S w w') {b : Nat} (hu : Unf w b) (o : Nat) : w'.frozen? ⟨b, o, none⟩ = false := (h.frozen _).trans (hu o)
set_option maxRecDepth 100000 in
set_option maxHeartbeats 2000000 in
theorem turn_calls (V : Au) (S : Nat → Prop) (w : World) (hS : ∀ b, S b → b < w.heap.size) (r m : Value) (ha : WR AuR S w V [r, .int .i64 V.start, m]) :
    Calls Tryz.prog 22 #[.agg #[r, .int .i64 V.start, m]] w (fun e w' => e = .returned (.tuple #[]) ∧ Spared S w w') := by
  obtain ⟨r', m', he, hr, hm, _, _⟩ := ha
  simp only [List.cons.injEq, and_true, true_and] at he
  obtain ⟨rfl, rfl⟩ := he
  obtain ⟨A, c, rfl⟩ := row_slice hr
  obtain ⟨B, d, rfl⟩ := row_slice hm
  obtain ⟨w1, hw1⟩ : ∃ w1, w1 = w.alloc (.cells #[.slice A V.ranks.length c, .int .i64 V.start, .slice B V.moves.length d] 25) := ⟨_, rfl⟩
  have hG1 : Grew w w1 := by rw [hw1]; exact grew_alloc _ _
  have xa : ThreeAt w1 w.heap.size (.slice A V.ranks.length c) (.int .i64 V.start) (.slice B V.moves.length d) 25 := by rw [hw1]; exact ThreeAt.new w _ _ _ _
  have hmv : ∀ b, S b ∧ Unf w b → S b ∧ Unf w1 b := fun b hb => ⟨hb.1, hb.2.move (frm_lt hG1.1 b (hS b hb.1))⟩
  have hR1 : RowS 1 IntR (fun b => S b ∧ Unf w1 b) w1 V.ranks [.slice A V.ranks.length c] := moves_row moves_int _ _ _ _ _ _ hmv (fun b hb => frm_lt hG1.1 b (hS b hb.1)) hr
  have hM1 : MovesR (fun b => S b ∧ Unf w1 b) w1 V.moves [.slice B V.moves.length d] := moves_moves _ _ _ _ _ _ hmv (fun b hb => frm_lt hG1.1 b (hS b hb.1)) hm
  have HR : Hid (Sl (fun b => S b ∧ Unf w1 b) w1 1 (IntR (fun b => S b ∧ Unf w1 b) w1) V.ranks (.slice A V.ranks.length c)) := row_val hR1
  have HM : Hid (Sl (fun b => S b ∧ Unf w1 b) w1 1 (RuleR (fun b => S b ∧ Unf w1 b) w1) V.moves (.slice B V.moves.length d)) := row_val hM1
  have HX : Hid (∀ wr, Turned S w1 wr → wr.cell? ⟨w.heap.size, 0, none⟩ = some (.slice A V.ranks.length c) ∧ wr.cell? ⟨w.heap.size, 2, none⟩ = some (.slice B V.moves.length d)) := fun wr h => ⟨h.at xa.cells.1, h.at xa.cells.2.2⟩
  have HFZ : Hid (∀ wr, Turned S w1 wr → ∀ b, S b ∧ Unf w1 b → ∀ o, wr.frozen? ⟨b, o, none⟩ = false) := fun wr h b hb o => frz_at h hb.2 o
  have hlm := HM.out.choose_spec.choose_spec.2.2.1
  have hlr := HR.out.choose_spec.choose_spec.2.2.1
  have HG1 := Lib.hid hG1
  have HW1 := Lib.hid hw1
  clear hr hm hR1 hM1 hmv hG1
  obtain ⟨ya0, ya1, ya2⟩ := xa.cells
  rw [hw1] at ya0 ya1 ya2
  clear hw1 xa
  go_enter Tryz.func22, Tryz.ntmps22
  go_wp2_with fail
  rw [← HW1.out]
  clear ya0 ya1 ya2
  go_loopw [10] (fun i wr => ∃ k : Nat, k ≤ V.moves.length ∧ i = .int .i64 k ∧ Turned S w1 wr) (fun i _ => V.moves.length - (intOf i).toNat)
  case atStart => exact ⟨0, Nat.zero_le _, rfl, turned_refl _ _⟩
  case round =>
    obtain ⟨k, hk, rfl, hT⟩ := hrel
    obtain ⟨x0, x2⟩ := HX.out wr hT
    by_cases hlt : k < V.moves.length
    · obtain ⟨b0, o0, p0, rfl, hb0, hp0, hpt⟩ := HM.out.at1 k hlt
      generalize V.moves[k] = row at *
      obtain ⟨A2, c2, rfl⟩ := row_slice hpt
      have HR2 : Hid (Sl (fun b => S b ∧ Unf w1 b) w1 1 (AltsR (fun b => S b ∧ Unf w1 b) w1) row (.slice A2 row.length c2)) := row_val hpt
      have hl2 := HR2.out.choose_spec.choose_spec.2.2.1
      have hq0 := hT.at hp0
      clear hpt
      go_wp2_with fail
      clear hq0 x0 x2
      go_loopw [19] (fun i wr => ∃ f : Nat, f ≤ row.length ∧ i = .int .i64 f ∧ Turned S w1 wr) (fun i _ => row.length - (intOf i).toNat)
      case atStart => exact ⟨0, Nat.zero_le _, rfl, hT⟩
      case round =>
        obtain ⟨f, hf, rfl, hT2⟩ := hrel
        obtain ⟨x0, x2⟩ := HX.out _ hT2
        have hq0 := hT2.at hp0
        by_cases hlt2 : f < row.length
        · obtain ⟨b1, o1, p1, rfl, hb1, hp1, hpt⟩ := HR2.out.at1 f hlt2
          generalize row[f] = alts at *
          obtain ⟨A3, c3, rfl⟩ := row_slice hpt
          have HR3 : Hid (Sl (fun b => S b ∧ Unf w1 b) w1 1 (AltR (fun b => S b ∧ Unf w1 b) w1) alts (.slice A3 alts.length c3)) := row_val hpt
          have hl3 := HR3.out.choose_spec.choose_spec.2.2.1
          have hq1 := hT2.at hp1
          clear hpt
          go_wp2_with fail
          clear hq0 hq1 x0 x2
          go_loopw [31] (fun i wr => ∃ e : Nat, e ≤ alts.length ∧ i = .int .i64 e ∧ Turned S w1 wr) (fun i _ => alts.length - (intOf i).toNat)
          case atStart => exact ⟨0, Nat.zero_le _, rfl, hT2⟩
          case round =>
            obtain ⟨e, hle, rfl, hT3⟩ := hrel
            obtain ⟨x0, x2⟩ := HX.out _ hT3
            have hq0 := hT3.at hp0
            have hq1 := hT3.at hp1
            by_cases hlt3 : e < alts.length
            · obtain ⟨b2, o2, p2, rfl, hb2, hp2, hpt⟩ := HR3.out.at1 e hlt3
              generalize alts[e] = l at *
              obtain ⟨A4, c4, rfl⟩ := row_slice hpt
              have HR4 : Hid (Sl (fun b => S b ∧ Unf w1 b) w1 2 (NdR (fun b => S b ∧ Unf w1 b) w1) l (.slice A4 l.length c4)) := row_val hpt
              have hl4 := HR4.out.choose_spec.choose_spec.2.2.1
              have hq2 := hT3.at hp2
              clear hpt
              go_wp2_with fail
              clear hq0 hq1 hq2 x0 x2
              go_loopw [46] (fun i wr => ∃ p : Nat, p ≤ l.length ∧ i = .int .i64 p ∧ Turned S w1 wr) (fun i _ => l.length - (intOf i).toNat)
              case atStart => exact ⟨0, Nat.zero_le _, rfl, hT3⟩
              case round =>
                obtain ⟨p, hle, rfl, hT4⟩ := hrel
                obtain ⟨x0, x2⟩ := HX.out _ hT4
                have hq0 := hT4.at hp0
                have hq1 := hT4.at hp1
                have hq2 := hT4.at hp2
                by_cases hlt4 : p < l.length
                · obtain ⟨b3, o3, u3, v3, rfl, hb3, hu3, hv3, hnd, _⟩ := HR4.out.at2 p hlt4
                  simp only [List.cons.injEq, and_true] at hnd
                  obtain ⟨rfl, rfl⟩ := hnd
                  obtain ⟨n, hn⟩ := hT4.num hu3
                  have hfz := HFZ.out _ hT4 b3 hb3 (o3 + p * 2)
                  have HS := Lib.hid (fun mm => hT4.set hb3.1 hn mm)
                  go_wp2_with fail
                  go_still_tail 30, (by kernel_rfl)
                  go_wp2_with fail
                  refine ⟨⟨p + 1, by omega, by go_num, ?_⟩, by simp [intOf]; omega⟩
                  exact (HS.out _).drew
                · obtain rfl : p = l.length := by omega
                  go_wp2_with fail
                  exact ⟨⟨e + 1, by omega, by go_num, hT4⟩, by simp [intOf]; omega⟩
            · obtain rfl : e = alts.length := by omega
              go_wp2_with fail
              exact ⟨⟨f + 1, by omega, by go_num, hT3⟩, by simp [intOf]; omega⟩
        · obtain rfl : f = row.length := by omega
          go_wp2_with fail
          exact ⟨⟨k + 1, by omega, by go_num, hT2⟩, by simp [intOf]; omega⟩
    · obtain rfl : k = V.moves.length := by omega
      go_wp2_with fail
      clear x0 x2
      go_loopw [86] (fun i wr => ∃ k : Nat, k ≤ V.ranks.length ∧ i = .int .i64 k ∧ Turned S w1 wr) (fun i _ => V.ranks.length - (intOf i).toNat)
      case atStart => exact ⟨0, Nat.zero_le _, rfl, hT⟩
      case round =>
        obtain ⟨k, hk, rfl, hT⟩ := hrel
        obtain ⟨x0, x2⟩ := HX.out _ hT
        by_cases hlt : k < V.ranks.length
        · obtain ⟨b0, o0, p0, rfl, hb0, hp0, hpt, _⟩ := HR.out.at1 k hlt
          simp only [List.cons.injEq, and_true] at hpt
          subst hpt
          obtain ⟨n, hn⟩ := hT.num hp0
          have hfz := HFZ.out _ hT b0 hb0 (o0 + k)
          have HS := Lib.hid (fun mm => hT.set hb0.1 hn mm)
          go_wp2_with fail
          exact ⟨⟨k + 1, by omega, by go_num, HS.out _⟩, by simp [intOf]; omega⟩
        · obtain rfl : k = V.ranks.length := by omega
          go_wp2_with fail
          exact bodyPost_end (results_none rfl _ _ _) rfl ⟨rfl, Spared.of HG1.out hT⟩
end Go.Proofs.YtjpdmncafacmaaaGreatDoor
end
/- mix's Reach: the states that are needed. -/
section
set_option linter.unusedVariables false
set_option linter.unusedSimpArgs false
namespace Go.Proofs.YtjpdmncafacmaaaGreatDoor
open Go.RowKit

theorem bit_and : ∀ m, m < 64 → ∀ s, s < 6 → (m / 2 ^ s) &&& 1 = if m.testBit s then 1 else 0 := by decide
theorem bit_or_lt : ∀ m, m < 64 → ∀ s, s < 6 → m.testBit s = false → m < m ||| 2 ^ s ∧ m ||| 2 ^ s < 64 := by decide
theorem bit_or (m s t : Nat) : (m ||| 2 ^ s).testBit t = true ↔ m.testBit t = true ∨ t = s := by
  rw [Nat.testBit_or, Nat.testBit_two_pow, Bool.or_eq_true, decide_eq_true_iff]
  exact or_congr Iff.rfl ⟨Eq.symm, Eq.symm⟩
theorem bit_one (s t : Nat) : (2 ^ s).testBit t = true ↔ t = s := by
  rw [Nat.testBit_two_pow, decide_eq_true_iff]
  exact ⟨Eq.symm, Eq.symm⟩
theorem and_i64 (a : Nat) (ha : a < 64) : bits .and .i64 (a : Int) 1 = ((a &&& 1 : Nat) : Int) := by
  have hx : a &&& 1 ≤ 1 := Nat.and_le_right
  have h1 : (BitVec.ofInt 64 (a : Int)).toNat = a := by
    rw [BitVec.ofInt_natCast, BitVec.toNat_ofNat]; exact Nat.mod_eq_of_lt (by omega)
  have h2 : (BitVec.ofInt 64 (1 : Int)).toNat = 1 := by decide
  show IntKind.i64.wrap ((BitVec.ofInt 64 (a : Int) &&& BitVec.ofInt 64 (1 : Int)).toNat : Int) = _
  rw [BitVec.toNat_and, h1, h2]
  exact IntWalk.i64_in _ (by omega)
theorem bit_test (met st : Nat) (h : met < 64) (hs : st < 6) : (bits .and .i64 ((met : Int) / 2 ^ st) 1 == 0) = !met.testBit st := by
  rw [show ((met : Int) / 2 ^ st) = ((met / 2 ^ st : Nat) : Int) by rw [Int.natCast_ediv, Int.natCast_pow]; rfl, and_i64 _ (Nat.lt_of_le_of_lt (Nat.div_le_self _ _) h), bit_and met h st hs]
  cases met.testBit st <;> rfl
theorem filter_more (p : Nat → Bool) (n : Nat) (h : ∀ s, n ≤ s → p s = false) : ∀ d, (List.range (n + d)).filter p = (List.range n).filter p
  | 0 => rfl
  | d + 1 => by
    rw [show n + (d + 1) = (n + d) + 1 by omega, List.range_succ, List.filter_append, filter_more p n h d]
    simp [h (n + d) (by omega)]
theorem reach_list {a : Au} (h : a.ok = true) {met : Nat} (hm : met < 64) (he : ∀ s, met.testBit s = reachB a s) : listP met = reachL a := by
  have hn := (ok_parts h).2.2.1
  rw [bits_eq met hm]
  have e1 : (fun i : Nat => met.testBit i) = reachB a := funext he
  rw [e1]
  have := filter_more (reachB a) a.moves.length (fun s hs => by
    cases h2 : reachB a s
    · rfl
    · have := reach_lt h h2; omega) (6 - a.moves.length)
  rw [show a.moves.length + (6 - a.moves.length) = 6 by omega] at this
  exact this
/-- A table of states' new numbers, the first `k` of them laid. -/
def tlm (qs : List Nat) (n : Nat) : Nat → List Int
  | 0 => List.replicate n 0
  | k + 1 => (tlm qs n k).set (qs.getD k 0) (k : Int)
theorem tlm_len (qs : List Nat) (n : Nat) : ∀ k, (tlm qs n k).length = n
  | 0 => by simp [tlm]
  | k + 1 => by simp [tlm, tlm_len qs n k]
theorem tlm_bd (qs : List Nat) (n : Nat) : ∀ k, ∀ x ∈ tlm qs n k, 0 ≤ x ∧ x ≤ k
  | 0, x, hx => by
    have := List.eq_of_mem_replicate hx
    omega
  | k + 1, x, hx => by
    rcases List.mem_or_eq_of_mem_set hx with h | h
    · have := tlm_bd qs n k x h
      omega
    · omega
theorem tlm_at (qs : List Nat) (n : Nat) (hnd : qs.Nodup) (hq : ∀ q ∈ qs, q < n) : ∀ k, k ≤ qs.length → ∀ i (hi : i < qs.length), i < k → (tlm qs n k).getD qs[i] 0 = i
  | 0, _, i, hi, h => absurd h (Nat.not_lt_zero _)
  | k + 1, hkk, i, hi, h => by
    have hin := hq _ (List.getElem_mem hi)
    unfold tlm
    rw [List.getD_eq_getElem?_getD, List.getElem?_set]
    by_cases hik : i = k
    · subst hik
      rw [show qs.getD i 0 = qs[i] by simp [hi], if_pos rfl, if_pos (by rw [tlm_len]; exact hin)]
      rfl
    · have hik2 : i < k := by omega
      have hkl : k < qs.length := by omega
      have hne : qs.getD k 0 ≠ qs[i] := by
        rw [show qs.getD k 0 = qs[k] by simp [hkl]]
        intro e
        exact (List.pairwise_iff_getElem.1 hnd i k hi hkl hik2) e.symm
      rw [if_neg hne, ← List.getD_eq_getElem?_getD]
      exact tlm_at qs n hnd hq k (by omega) i hi hik2
theorem num_slices {S : Nat → Prop} {w : World} {V : Au} {r m : Value} (h : WR AuR S w V [r, .int .i64 V.start, m]) : ∃ A n c B p d, r = .slice A n c ∧ m = .slice B p d := by
  obtain ⟨r', m', he, ⟨v1, h1, s1⟩, ⟨v2, h2, s2⟩, _⟩ := h
  obtain ⟨A1, c1, rfl, _⟩ := s1.val
  obtain ⟨A2, c2, rfl, _⟩ := s2.val
  simp only [List.cons.injEq, and_true, true_and] at he h1 h2
  rw [h1] at he
  rw [h2] at he
  exact ⟨_, _, _, _, _, _, he.1, he.2⟩
theorem wp_scope_pass {P : Program} {ac : Act} {w : World} {Q : Exit → Act → World → Prop} {c rest : Code} (l : Nat) (J : Act → World → Prop) (μ : Act → World → Nat) (hf : findLabel c l = some (Code.skip.seq rest))
    (pass : ∀ a w, J a w → rest.wp P (Exit.jump l (fun a' w' => J a' w' ∧ μ a' w' < μ a w) Q) a w)
    (first : (∀ a w, J a w → rest.wp P (Exit.jump l J Q) a w) → c.wp P (Exit.jump l J Q) ac w) : (Code.scope c).wp P Q ac w :=
  wp_scope_jumps l J μ hf (first fun a w h => wp_mono (pass a w h) fun e a' w' hq => by
    cases e with
    | goto l' => exact ⟨hq.1, hq.2.1⟩
    | _ => exact hq) fun a w h => wp_seq (wp_skip (pass a w h))
set_option maxRecDepth 100000 in
set_option maxHeartbeats 4000000 in
theorem reach_calls (a : Au) (w : World) (hT : Tab w) (r m : Value) (ha : rdO AuR w a [r, .int .i64 a.start, m]) :
    Calls Tryz.prog 24 #[.agg #[r, .int .i64 a.start, m]] w (RetA w (reachV a) (reachE a)) := by
  obtain ⟨hR, hM, hs1, hs2⟩ := AuR.parts ha
  obtain ⟨A, c, rfl, hc, hlm⟩ := hR.val
  obtain ⟨B, d, rfl, hd, hlm2⟩ := hM.val
  have HA := Lib.hid ha
  have HTB := Lib.hid hT
  clear ha hT
  obtain ⟨w2, hw2⟩ : ∃ w2, w2 = (w.alloc (.cells #[.slice A a.ranks.length c, .int .i64 a.start, .slice B a.moves.length d] 25)).alloc (.cells #[.slice none 0 0, .int .i64 0, .slice none 0 0] 25) := ⟨_, rfl⟩
  have hG2 : Grew w w2 := by rw [hw2]; exact grew_then_alloc (grew_alloc _ _) _
  have xa : ThreeAt w2 w.heap.size (.slice A a.ranks.length c) (.int .i64 a.start) (.slice B a.moves.length d) 25 := by
    rw [hw2]; exact (ThreeAt.new w _ _ _ _).frm (frm_alloc _ _)
  have xo : ThreeAt w2 (w.heap.size + 1) (.slice none 0 0) (.int .i64 0) (.slice none 0 0) 25 := by
    have h := ThreeAt.new (w.alloc (.cells #[.slice A a.ranks.length c, .int .i64 a.start, .slice B a.moves.length d] 25)) (.slice none 0 0) (.int .i64 0) (.slice none 0 0) 25
    rw [World.size_alloc] at h
    rw [hw2]; exact h
  have hP := acheck_calls a w2 _ _ (rdO_frm moves_au hG2.1 HA.out)
  have hs2' := xo.lt
  have HM := Lib.hid hM
  cases hok : a.ok
  · rw [hok] at hP
    rw [hw2] at hP
    have HP := Lib.hid hP
    have HW2 := Lib.hid hw2
    have HJ : Hid (reachE a = 10 ∧ reachV a = Au.zero) := by
      unfold Hid reachE reachV
      rw [hok]
      exact ⟨rfl, rfl⟩
    clear hw2 hP hok hM
    go_enter Tryz.func24, Tryz.ntmps24
    go_wp2_with fail
    refine wp_scope_jumps 0 (fun _ _ => False) (fun _ _ => 0) rfl ?_ (fun _ _ h => h.elim)
    go_wp2_with fail
    refine HP.out.mono ?_
    rw [← HW2.out]
    rintro e w3 ⟨rfl, hf3⟩
    have hG3 := grew_trans hG2 hf3
    obtain ⟨xo0, xo1, xo2⟩ := (xo.frm hf3.1).cells
    have xof := (xo.frm hf3.1).free
    have xf0 := xof 0
    have xf1 := xof 1
    have xf2 := xof 2
    obtain ⟨xa0, xa1, xa2⟩ := (xa.frm hf3.1).cells
    have hs3 := (xo.frm hf3.1).lt
    dsimp only
    go_wp2_with fail
    try simp only [Exit.jump]
    refine bodyPost_ret (v := .tuple #[.agg #[.slice none 0 0, .int .i64 0, .slice none 0 0], .int .i64 10]) (by simp [results, Tryz.results24, go_sem, xo0, xo1, xo2, xf0, xf1, xf2]) rfl ⟨.slice none 0 0, .slice none 0 0, ?_, ?_, ?_⟩
    · rw [HJ.out.1, HJ.out.2]; rfl
    · exact grew_set_new (grew_set_new (grew_set_new hG3 (by omega) _ _) (by omega) _ _) (by omega) _ _
    · rw [HJ.out.2]
      exact au_zero _ _
  · rw [hok] at hP
    rw [hw2] at hP
    have HP := Lib.hid hP
    have HW2 := Lib.hid hw2
    have HOK := Lib.hid hok
    have HJ : Hid (reachE a = 0 ∧ reachV a = reachA a) := by
      unfold Hid reachE reachV
      rw [hok]
      exact ⟨rfl, rfl⟩
    obtain ⟨_, hm1, hm6, hst0, hst1, _⟩ := ok_parts hok
    obtain ⟨st0, hste⟩ : ∃ st0 : Nat, a.start = st0 := ⟨a.start.toNat, by omega⟩
    have hstn : Hid (a.start.toNat = st0) := by unfold Hid; omega
    have hst6 : st0 < 6 := by omega
    obtain ⟨hshs, hs64s⟩ := shl_i64 st0 hst6
    obtain ⟨pw, hpw⟩ : ∃ pw : Nat, pw = 2 ^ st0 := ⟨_, rfl⟩
    rw [← hpw] at hshs hs64s
    have HPW := Lib.hid hpw
    obtain ⟨J, hJ⟩ : ∃ J : Act → World → Prop, J = (fun a' w' => ∃ (met : Nat) (u6 u7 u8 u9 u10 u11 u12 u13 u14 u15 u16 u17 u18 u19 u20 u21 u22 u23 u24 u25 u26 u27 u28 u29 u30 u31 u32 u33 u34 u35 u36 u37 u38 u39 u40 u41 u42 u43 u44 u45 u46 u47 u48 u49 u50 u51 u52 u53 u54 u55 u56 u57 u58 u59 u60 u61 u62 u63 u64 u65 u66 u67 u68 u69 u70 u71 u72 u73 u74 u75 u76 u77 u78 u79 u80 u81 u82 u83 u84 u85 u86 u87 u88 u89 u90 u91 u92 : Value), met < 64 ∧ Hid (met.testBit a.start.toNat = true) ∧ Hid (∀ s, met.testBit s = true → reachB a s = true) ∧ Grew w2 w' ∧ a' = { tmps := #[.agg #[.slice A a.ranks.length c, .int .i64 a.start, .slice B a.moves.length d], .pointer (some ⟨w.heap.size, 0, none⟩), .pointer (some ⟨w.heap.size + 1, 0, none⟩), .int .i64 0, .int .i64 0, .int .i64 met, u6, u7, u8, u9, u10, u11, u12, u13, u14, u15, u16, u17, u18, u19, u20, u21, u22, u23, u24, u25, u26, u27, u28, u29, u30, u31, u32, u33, u34, u35, u36, u37, u38, u39, u40, u41, u42, u43, u44, u45, u46, u47, u48, u49, u50, u51, u52, u53, u54, u55, u56, u57, u58, u59, u60, u61, u62, u63, u64, u65, u66, u67, u68, u69, u70, u71, u72, u73, u74, u75, u76, u77, u78, u79, u80, u81, u82, u83, u84, u85, u86, u87, u88, u89, u90, u91, u92], defers := [] }) := ⟨_, rfl⟩
    have HSTE := Lib.hid hste
    have HJD := Lib.hid hJ
    clear hw2 hP hok hM hste hpw
    go_enter Tryz.func24, Tryz.ntmps24
    go_wp2_with fail
    refine wp_scope_pass 0 J (fun a' _ => 64 - (intOf (a'.tmps.getD 5 undef)).toNat) rfl ?pass fun hpass => ?first
    case first =>
      have HPASS := Lib.hid hpass
      clear hpass hJ
      go_wp2_with fail
      refine HP.out.mono ?_
      rw [← HW2.out]
      rintro e w3 ⟨rfl, hf3⟩
      obtain ⟨xa0, xa1, xa2⟩ := (xa.frm hf3.1).cells
      rw [HSTE.out] at xa1
      dsimp only
      go_wp2_with fail
      go_step3
      rename_i hK
      refine hK _ _ (HPASS.out _ _ ?_)
      rw [HJD.out]
      refine ⟨pw, _, _, _, _, _, _, _, _, _, _, _, _, _, _, _, _, _, _, _, _, _, _, _, _, _, _, _, _, _, _, _, _, _, _, _, _, _, _, _, _, _, _, _, _, _, _, _, _, _, _, _, _, _, _, _, _, _, _, _, _, _, _, _, _, _, _, _, _, _, _, _, _, _, _, _, _, _, _, _, _, _, _, _, _, _, _, _, hs64s, ?_, ?_, hf3, rfl⟩
      · unfold Hid
        rw [hstn.out, HPW.out, bit_one]
      · intro s hs
        rw [HPW.out, bit_one] at hs
        rw [hs, ← hstn.out]
        exact reach_start a
    case pass =>
      intro a1 w1 hJ1
      rw [hJ] at hJ1
      clear hJ
      obtain ⟨met, u6, u7, u8, u9, u10, u11, u12, u13, u14, u15, u16, u17, u18, u19, u20, u21, u22, u23, u24, u25, u26, u27, u28, u29, u30, u31, u32, u33, u34, u35, u36, u37, u38, u39, u40, u41, u42, u43, u44, u45, u46, u47, u48, u49, u50, u51, u52, u53, u54, u55, u56, u57, u58, u59, u60, u61, u62, u63, u64, u65, u66, u67, u68, u69, u70, u71, u72, u73, u74, u75, u76, u77, u78, u79, u80, u81, u82, u83, u84, u85, u86, u87, u88, u89, u90, u91, u92, hm64, HMS, HMR, hG1, rfl⟩ := hJ1
      have HLI := Lib.hid (list_calls met hm64 w1 (HTB.out.grew (grew_trans hG2 hG1)))
      go_wp2_with fail
      refine HLI.out.mono ?_
      rintro e wl ⟨ul, rfl, hfl, hOl⟩
      have hll : (listI met).length = (listP met).length := by unfold listI; simp
      have hl6 := bits_len met hm64
      have HSL := Lib.hid (hOl.sl moves_int (S := fun b => b < wl.heap.size) (by omega) (fun b _ h => h) (fun b _ h => h))
      obtain ⟨A8, c8, rfl, hc8⟩ := hOl.val
      rw [hll] at hc8 HSL ⊢
      clear hOl
      have hG1l := grew_trans hG1 hfl
      obtain ⟨ln, hln⟩ : ∃ ln, ln = (listP met).length := ⟨_, rfl⟩
      rw [← hln] at hl6 HSL hc8 ⊢
      have HLN := Lib.hid hln
      have HLL := Lib.hid hll
      clear hll hln
      dsimp only
      go_wp2_with fail
      go_loopw [5, 30] (fun z i wr => ∃ k : Nat, z = .int .i64 met ∧ k ≤ ln ∧ i = .int .i64 k ∧ Grew wl wr ∧ Hid (∀ j (h : j < (listP met).length), j < k → ∀ s ∈ needsOf a (listP met)[j], met.testBit s = true)) (fun _ i _ => ln - (intOf i).toNat)
      case atStart => exact ⟨0, rfl, Nat.zero_le _, rfl, grew_refl _, fun j h h0 => absurd h0 (Nat.not_lt_zero _)⟩
      case round =>
        obtain ⟨k, rfl, hk, rfl, hfr, HK⟩ := hrel
        have hGr := grew_trans hG1l hfr
        by_cases hlt : k < ln
        · have hkp : k < (listP met).length := by rw [← HLN.out]; exact hlt
          obtain ⟨b8, o8, p8, rfl, hb8, hp8', hpt8⟩ := HSL.out.at1 k (by rw [HLL.out, ← HLN.out]; exact hlt)
          have hp8 := frm_cell hfr.1 hp8'
          obtain ⟨hpv8, _⟩ := hpt8
          have hpe : (listI met)[k]'(by rw [HLL.out, ← HLN.out]; exact hlt) = (((listP met)[k] : Nat) : Int) := by unfold listI; simp
          rw [hpe] at hpv8
          simp only [List.cons.injEq, and_true] at hpv8
          subst hpv8
          have hqb : met.testBit (listP met)[k] = true := by
            have hmem : (listP met)[k] ∈ (List.range 6).filter fun i => met.testBit i := by
              rw [← bits_eq met hm64]
              exact List.getElem_mem hkp
            exact (List.mem_filter.1 hmem).2
          have HKS : Hid ((∀ s ∈ needsOf a (listP met)[k], met.testBit s = true) → ∀ j (h : j < (listP met).length), j < k + 1 → ∀ s ∈ needsOf a (listP met)[j], met.testBit s = true) := fun h1 j h h2 => by
            by_cases hjk : j = k
            · subst hjk; exact h1
            · exact HK.out j h (by omega)
          have hqr := HMR.out _ hqb
          have hqn := reach_lt HOK.out hqr
          have HQR := Lib.hid hqr
          clear hpe hqb hp8' hqr
          generalize (listP met)[k] = q at *
          have hSr : ∀ b, b < w.heap.size → wr.heap[b]? = w.heap[b]? := fun b hb => frm_lt (grew_trans hG2 hGr).1 b hb
          have hMr := HM.out.move (S' := fun b => b < w.heap.size) (w' := wr) (r' := RuleR (fun b => b < w.heap.size) wr) (fun b hb => hb) hSr (fun x _ cs h => moves_rule _ _ _ _ _ _ (fun b hb => hb) hSr h)
          obtain ⟨b, o, p0, rfl, hb, hp0, hpt⟩ := hMr.at1 q hqn
          have HND : Hid (a.moves.getD q [] = a.moves[q]) := by unfold Hid; simp [hqn]
          have HSM := Lib.hid (ok_state HOK.out _ (List.getElem_mem hqn))
          have hrl := ((ok_rows HOK.out).2 _ (List.getElem_mem hqn)).1
          have HRW := Lib.hid ((ok_rows HOK.out).2 _ (List.getElem_mem hqn))
          clear hMr hSr
          generalize a.moves[q] = row at *
          obtain ⟨v2, hve2, hRow⟩ := hpt
          obtain rfl : p0 = v2 := by simpa using hve2
          obtain ⟨A2, c2, rfl, hc2, hm2⟩ := hRow.val
          clear hve2
          have HRow := Lib.hid hRow
          obtain ⟨xa0, xa1, xa2⟩ := (xa.frm hGr.1).cells
          have iq0 : (0 : Int) ≤ (q : Int) := by omega
          have iq1 : (q : Int) < a.moves.length := by omega
          clear hRow
          go_wp2_with fail
          obtain ⟨wo, hwo⟩ : ∃ wo : World, wo = wr := ⟨_, rfl⟩
          subst hwo
          go_loopw [5, 40] (fun z i wq => ∃ f : Nat, z = .int .i64 met ∧ f ≤ row.length ∧ i = .int .i64 f ∧ Grew wo wq ∧ Hid (∀ j (h : j < row.length), j < f → ∀ l ∈ row[j], ∀ x ∈ l, met.testBit x.2.toNat = true)) (fun _ i _ => row.length - (intOf i).toNat)
          case atStart => exact ⟨0, rfl, Nat.zero_le _, rfl, grew_refl _, fun j h h0 => absurd h0 (Nat.not_lt_zero _)⟩
          case round =>
            obtain ⟨f, rfl, hf, rfl, hfq, HF⟩ := hrel
            by_cases hltf : f < row.length
            · have hRq := HRow.out.move (S' := fun b => b < w.heap.size) (w' := wr) (r' := AltsR (fun b => b < w.heap.size) wr) (fun b hb => hb) (fun b hb => frm_lt hfq.1 b (by have := (grew_trans hG2 hGr).1.size; omega)) (fun x _ cs h => moves_alts _ _ _ _ _ _ (fun b hb => hb) (fun b hb => frm_lt hfq.1 b (by have := (grew_trans hG2 hGr).1.size; omega)) h)
              obtain ⟨b3, o3, q0, rfl, hb3, hq0, hqt⟩ := hRq.at1 f hltf
              have HAS := Lib.hid (HSM.out _ (List.getElem_mem hltf))
              have hal := (HRW.out.2 _ (List.getElem_mem hltf)).1
              have HAL := Lib.hid (HRW.out.2 _ (List.getElem_mem hltf))
              have HNA := Lib.hid (fun (l : List Nd) (hl : l ∈ row[f]) (x : Nd) (hx : x ∈ l) => mem_needs (a := a) (q := q) HND.out (List.getElem_mem hltf) hl hx)
              have HFS : Hid ((∀ l ∈ row[f], ∀ x ∈ l, met.testBit x.2.toNat = true) → ∀ j (h : j < row.length), j < f + 1 → ∀ l ∈ row[j], ∀ x ∈ l, met.testBit x.2.toNat = true) := fun h1 j h h2 => by
                by_cases hjk : j = f
                · subst hjk; exact h1
                · exact HF.out j h (by omega)
              clear hRq
              generalize row[f] = alts at *
              obtain ⟨v3, hve3, hAl⟩ := id hqt
              obtain rfl : q0 = v3 := by simpa using hve3
              obtain ⟨A3, c3, rfl, hc3, hm3⟩ := hAl.val
              have HAl := Lib.hid hAl
              have hGq := grew_trans hGr hfq
              clear hqt hAl hve3
              go_wp2_with fail
              obtain ⟨wi, hwi⟩ : ∃ wi : World, wi = wr := ⟨_, rfl⟩
              subst hwi
              go_loopw [5, 46] (fun z i wq => ∃ e : Nat, z = .int .i64 met ∧ e ≤ alts.length ∧ i = .int .i64 e ∧ Grew wi wq ∧ Hid (∀ j (h : j < alts.length), j < e → ∀ x ∈ alts[j], met.testBit x.2.toNat = true)) (fun _ i _ => alts.length - (intOf i).toNat)
              case atStart => exact ⟨0, rfl, Nat.zero_le _, rfl, grew_refl _, fun j h h0 => absurd h0 (Nat.not_lt_zero _)⟩
              case round =>
                obtain ⟨e, rfl, he, rfl, hfp, HE⟩ := hrel
                by_cases hlte : e < alts.length
                · have hRp := HAl.out.move (S' := fun b => b < w.heap.size) (w' := wr) (r' := AltR (fun b => b < w.heap.size) wr) (fun b hb => hb) (fun b hb => frm_lt hfp.1 b (by have := (grew_trans hG2 hGq).1.size; omega)) (fun x _ cs h => moves_alt _ _ _ _ _ _ (fun b hb => hb) (fun b hb => frm_lt hfp.1 b (by have := (grew_trans hG2 hGq).1.size; omega)) h)
                  obtain ⟨b4, o4, p4, rfl, hb4, hp4, hpt4⟩ := hRp.at1 e hlte
                  have HLS := Lib.hid (HAS.out _ (List.getElem_mem hlte))
                  have hll := (HAL.out.2 _ (List.getElem_mem hlte)).1
                  have HNL := Lib.hid (HNA.out _ (List.getElem_mem hlte))
                  have HES : Hid ((∀ x ∈ alts[e], met.testBit x.2.toNat = true) → ∀ j (h : j < alts.length), j < e + 1 → ∀ x ∈ alts[j], met.testBit x.2.toNat = true) := fun h1 j h h2 => by
                    by_cases hjk : j = e
                    · subst hjk; exact h1
                    · exact HE.out j h (by omega)
                  clear hRp
                  generalize alts[e] = l at *
                  obtain ⟨A4, c4, h4, hc4, hm4⟩ := (row_val hpt4).val
                  subst h4
                  have HL := Lib.hid (row_val hpt4)
                  have hGp := grew_trans hGq hfp
                  clear hpt4
                  go_wp2_with fail
                  obtain ⟨wz, hwz⟩ : ∃ wz : World, wz = wr := ⟨_, rfl⟩
                  subst hwz
                  go_loopw [5, 52] (fun z i wq => ∃ p : Nat, z = .int .i64 met ∧ p ≤ l.length ∧ i = .int .i64 p ∧ Grew wz wq ∧ Hid (∀ j (h : j < l.length), j < p → met.testBit l[j].2.toNat = true)) (fun _ i _ => l.length - (intOf i).toNat)
                  case atStart => exact ⟨0, rfl, Nat.zero_le _, rfl, grew_refl _, fun j h h0 => absurd h0 (Nat.not_lt_zero _)⟩
                  case round =>
                    obtain ⟨p, rfl, hp, rfl, hfz, HP9⟩ := hrel
                    by_cases hltp : p < l.length
                    · have hRz := HL.out.move (S' := fun b => b < w.heap.size) (w' := wr) (r' := NdR (fun b => b < w.heap.size) wr) (fun b hb => hb) (fun b hb => frm_lt hfz.1 b (by have := (grew_trans hG2 hGp).1.size; omega)) (fun x _ cs h => h)
                      obtain ⟨b5, o5, y0, y1, h5e, hb5, hy0, hy1, hyt⟩ := hRz.at2 p hltp
                      subst h5e
                      obtain ⟨hyv, _⟩ := hyt
                      simp only [List.cons.injEq, and_true] at hyv
                      obtain ⟨rfl, rfl⟩ := hyv
                      have HPS : Hid (met.testBit l[p].2.toNat = true → ∀ j (h : j < l.length), j < p + 1 → met.testBit l[j].2.toNat = true) := fun h1 j h h2 => by
                        by_cases hjk : j = p
                        · subst hjk; exact h1
                        · exact HP9.out j h (by omega)
                      have hxs := HLS.out _ (List.getElem_mem hltp)
                      have HNX := Lib.hid (HNL.out _ (List.getElem_mem hltp))
                      clear hRz
                      generalize l[p] = x at *
                      obtain ⟨st, hst⟩ : ∃ st : Nat, x.2 = st := ⟨x.2.toNat, by omega⟩
                      have hst6' : st < 6 := by omega
                      have HST : Hid (x.2.toNat = st) := by unfold Hid; omega
                      rw [hst] at hy1
                      obtain ⟨hsh, hs64⟩ := shl_i64 st hst6'
                      have hst64 : (st : Int) ≤ 64 := by omega
                      obtain ⟨x0, x1, _, _⟩ := (TwoAt.new wr (.int .i64 x.1) (.int .i64 st) 80).cells
                      have hgx : Grew wr (wr.alloc (.cells #[.int .i64 x.1, .int .i64 st] 80)) := grew_alloc _ _
                      clear hst hxs
                      have hba := bit_and met hm64 st hst6'
                      have hbt := bit_test met st hm64 hst6'
                      cases hmb : met.testBit st
                      · rw [hmb] at hbt
                        obtain ⟨hb1, hb2⟩ := bit_or_lt met hm64 st hst6' hmb
                        have ho := or_i64 met (2 ^ st) hm64 hs64
                        obtain ⟨pw2, hpw2⟩ : ∃ pw2 : Nat, pw2 = met ||| 2 ^ st := ⟨_, rfl⟩
                        rw [← hpw2] at ho hb1 hb2
                        have HPW2 := Lib.hid hpw2
                        have hcp : ((2 ^ st : Nat) : Int) = (2 : Int) ^ st := by rw [Int.natCast_pow]; rfl
                        rw [hcp] at ho
                        clear hpw2 hmb hcp
                        go_wp2_with fail
                        go_step3
                        refine (show (0 : Nat) = 0 ∧ (J _ _ ∧ _) from ⟨rfl, ?_, ?_⟩)
                        · rw [HJD.out]
                          refine ⟨pw2, _, _, _, _, _, _, _, _, _, _, _, _, _, _, _, _, _, _, _, _, _, _, _, _, _, _, _, _, _, _, _, _, _, _, _, _, _, _, _, _, _, _, _, _, _, _, _, _, _, _, _, _, _, _, _, _, _, _, _, _, _, _, _, _, _, _, _, _, _, _, _, _, _, _, _, _, _, _, _, _, _, _, _, _, _, _, _, hb2, ?_, ?_, grew_trans hGp (grew_trans hfz hgx), rfl⟩
                          · unfold Hid
                            rw [HPW2.out, bit_or]
                            exact .inl HMS.out
                          · intro s hs
                            rw [HPW2.out, bit_or] at hs
                            rcases hs with hs | hs
                            · exact HMR.out s hs
                            · rw [hs, ← HST.out]
                              exact reach_step HQR.out HNX.out
                        · show 64 - (intOf (Value.int .i64 pw2)).toNat < 64 - (intOf (Value.int .i64 met)).toNat
                          simp [intOf]
                          omega
                      · rw [hmb] at hbt
                        have HNB : Hid (met.testBit x.2.toNat = true) := by unfold Hid; rw [HST.out]; exact hmb
                        clear hmb
                        go_wp2_with fail
                        exact ⟨⟨p + 1, rfl, by omega, by go_num, grew_trans hfz hgx, HPS.out HNB.out⟩, by simp [intOf]; omega⟩
                    · obtain rfl : p = l.length := by omega
                      have HD1 := Lib.hid (HES.out fun x hx => by
                        obtain ⟨j, hj, rfl⟩ := List.getElem_of_mem hx
                        exact HP9.out j hj hj)
                      go_wp2_with fail
                      exact ⟨⟨e + 1, rfl, by omega, by go_num, grew_trans hfp hfz, HD1.out⟩, by simp [intOf]; omega⟩
                · obtain rfl : e = alts.length := by omega
                  have HD1 := Lib.hid (HFS.out fun l hl x hx => by
                    obtain ⟨j, hj, rfl⟩ := List.getElem_of_mem hl
                    exact HE.out j hj hj x hx)
                  go_wp2_with fail
                  exact ⟨⟨f + 1, rfl, by omega, by go_num, grew_trans hfq hfp, HD1.out⟩, by simp [intOf]; omega⟩
            · obtain rfl : f = row.length := by omega
              have HD1 := Lib.hid (HKS.out fun s hs => by
                obtain ⟨alts, h1, l, h2, x, h3, rfl⟩ := needs_mem hs
                rw [HND.out] at h1
                obtain ⟨j, hj, rfl⟩ := List.getElem_of_mem h1
                exact HF.out j hj hj l h2 x h3)
              go_wp2_with fail
              exact ⟨⟨k + 1, rfl, by omega, by go_num, grew_trans hfr hfq, HD1.out⟩, by simp [intOf]; omega⟩
        · obtain rfl : k = ln := by omega
          have HEQ : Hid (∀ s, met.testBit s = reachB a s) := reach_eq HMS.out (fun q hq s hs => by
            have hq6 : q < 6 := Nat.lt_of_lt_of_le (reach_lt HOK.out (HMR.out q hq)) hm6
            have hmem : q ∈ listP met := by
              rw [bits_eq met hm64]
              exact List.mem_filter.2 ⟨List.mem_range.2 hq6, hq⟩
            obtain ⟨j, hj, rfl⟩ := List.getElem_of_mem hmem
            exact HK.out j hj (by rw [HLN.out]; exact hj) s hs) HMR.out
          have HLP := Lib.hid (reach_list HOK.out hm64 HEQ.out)
          have HLI2 := Lib.hid (list_calls met hm64 wr (HTB.out.grew (grew_trans hG2 hGr)))
          have hmk := fun w => mk_ints a.moves.length (by omega) w
          obtain ⟨xa0, xa1, xa2⟩ := (xa.frm hGr.1).cells
          go_wp2_with fail
          refine HLI2.out.mono ?_
          rintro e w5 ⟨us, rfl, hf5, hO5⟩
          have hll : (listI met).length = (listP met).length := by unfold listI; simp
          have hSS := hO5.sl moves_int (S := fun b => b < w5.heap.size) (by rw [hll, ← HLN.out]; omega) (fun b _ h => h) (fun b _ h => h)
          have hLE : listI met = (reachL a).map fun q : Nat => (q : Int) := by unfold listI; rw [HLP.out]
          rw [hLE] at hSS
          obtain ⟨A9, c9, rfl, hc9⟩ := hO5.val
          have hlk : (listI met).length = k := by rw [HLL.out, HLN.out]
          rw [hlk] at hSS hc9 ⊢
          have HSS := Lib.hid hSS
          have HKR : Hid ((reachL a).length = k) := by unfold Hid; rw [← HLP.out, HLN.out]
          clear hO5 hSS hLE hlk hll
          have hG5 := grew_trans hGr hf5
          obtain ⟨xa0, xa1, xa2⟩ := (xa.frm hG5.1).cells
          dsimp only
          go_wp2_with fail
          have hin := ints_made w5 a.moves.length
          have hG6 : Grew w5 (w5.alloc (.cells (Array.replicate a.moves.length (.int .i64 0)) 3)) := grew_alloc _ _
          generalize w5.alloc (.cells (Array.replicate a.moves.length (.int .i64 0)) 3) = w6 at *
          go_loopw [79] (fun i wr => ∃ e : Nat, e ≤ k ∧ i = .int .i64 e ∧ Grew w5 wr ∧ IntsAt wr w5.heap.size (tlm (reachL a) a.moves.length e)) (fun i _ => k - (intOf i).toNat)
          case atStart => exact ⟨0, Nat.zero_le _, rfl, hG6, hin⟩
          case round =>
            obtain ⟨e, he, rfl, hfe, hI⟩ := hrel
            have hle := tlm_len (reachL a) a.moves.length e
            by_cases hlte : e < k
            · have hek : e < (reachL a).length := by rw [HKR.out]; exact hlte
              obtain ⟨b9, o9, p9, rfl, hb9, hp9', hpt9⟩ := HSS.out.at1 e (by simpa using hek)
              have hp9 := frm_cell hfe.1 hp9'
              obtain ⟨hpv9, _⟩ := hpt9
              simp only [List.cons.injEq, and_true, List.getElem_map] at hpv9
              subst hpv9
              have hqn : (reachL a)[e] < a.moves.length := List.mem_range.1 (List.mem_filter.1 (List.getElem_mem hek)).1
              have HTS : Hid (tlm (reachL a) a.moves.length (e + 1) = (tlm (reachL a) a.moves.length e).set (reachL a)[e] (e : Int)) := by
                unfold Hid
                rw [show tlm (reachL a) a.moves.length (e + 1) = (tlm (reachL a) a.moves.length e).set ((reachL a).getD e 0) (e : Int) from rfl, show (reachL a).getD e 0 = (reachL a)[e] by simp [hek]]
              generalize (reachL a)[e] = q at *
              have hcq := hI.at (i := q) (by omega)
              have hfq := ValsAt.free hI q
              have HP9 := Lib.hid (hI.put q (e : Int))
              have iq0 : (0 : Int) ≤ (q : Int) := by omega
              have iq1 : (q : Int) < a.moves.length := by omega
              clear hp9'
              go_wp2_with fail
              exact ⟨⟨e + 1, by omega, by go_num, grew_set_new hfe (Nat.le_refl _) _ _, by rw [HTS.out]; exact HP9.out⟩, by simp [intOf]; omega⟩
            · obtain rfl : e = k := by omega
              have hGe := grew_trans hG5 hfe
              have hsl := hI.sl (n := a.moves.length) hle.symm (by omega) (fun x hx => by have := tlm_bd (reachL a) a.moves.length e x hx; omega)
              have HNC := Lib.hid (numbered_calls a HOK.out (reachL a) (fun q hq => List.mem_range.1 (List.mem_filter.1 hq).1) (by rw [HKR.out]; omega) (tlm (reachL a) a.moves.length e) hle (fun x hx => by have := tlm_bd (reachL a) a.moves.length e x hx; omega) wr _ _ _ _
                (rdO_frm moves_au (grew_trans hG2 hGe).1 HA.out) (HSS.out.frm hfe.1 (stays_rd moves_int)) hsl)
              have HNE : Hid (numA a (reachL a) (tlm (reachL a) a.moves.length e) = reachA a) := num_eq HOK.out fun q hq => by
                have hqn := reach_lt HOK.out hq
                have hmem : q ∈ reachL a := List.mem_filter.2 ⟨List.mem_range.2 hqn, hq⟩
                obtain ⟨i, hi, rfl⟩ := List.getElem_of_mem hmem
                rw [tab_at hqn, show cntB (reachB a) (reachL a)[i] = i from cntB_at (reachB a) a.moves.length i hi]
                have hik : i < e := by rw [← HKR.out]; exact hi
                exact tlm_at (reachL a) a.moves.length ((List.nodup_range).filter _) (fun q hq => List.mem_range.1 (List.mem_filter.1 hq).1) e (by rw [HKR.out]; omega) i hi hik
              rw [HNE.out, ← HKR.out] at HNC
              rw [HKR.out] at HNC
              have hse := hGe.1.size
              obtain ⟨xa0, xa1, xa2⟩ := (xa.frm hGe.1).cells
              have HXO := Lib.hid (xo.frm hGe.1)
              have HGE := Lib.hid (grew_trans hG2 hGe)
              clear hsl hle
              go_wp2_with fail
              refine HNC.out.mono ?_
              rintro e9 w9 ⟨r9, m9, rfl, hf9, hr9⟩
              obtain ⟨A1, n1, c1, B1, p1, d1, rfl, rfl⟩ := num_slices hr9
              have hx9 := HXO.out.frm hf9.1
              obtain ⟨kx0, kx1, kx2⟩ := hx9.cells
              have kxf := hx9.free
              have kxf0 := kxf 0
              have kxf1 := kxf 1
              have kxf2 := kxf 2
              have hs9 := hf9.1.size
              have HGW := Lib.hid (grew_trans HGE.out hf9)
              have HR9 := Lib.hid hr9
              clear hr9 hx9 kxf
              dsimp only
              go_wp2_with fail
              try simp only [Exit.jump]
              refine bodyPost_ret (v := .tuple #[.agg #[.slice A1 n1 c1, .int .i64 (reachA a).start, .slice B1 p1 d1], .int .i64 0]) (by simp [results, Tryz.results24, go_sem, kx0, kx1, kx2, kxf0, kxf1, kxf2]) rfl ⟨.slice A1 n1 c1, .slice B1 p1 d1, ?_, ?_, ?_⟩
              · rw [HJ.out.1, HJ.out.2]
              · exact grew_set_new (grew_set_new (grew_set_new HGW.out (by omega) _ _) (by omega) _ _) (by omega) _ _
              · rw [HJ.out.2]
                refine moves_WR moves_au _ _ _ _ _ _ (fun q hq => ⟨by have := hq.1; omega, by have := hq.2; simp; omega⟩) (fun q hq => ?_) HR9.out
                have hq1 : wr.heap.size ≤ q := hq.1
                rw [Below.heap_setCell _ _ _ _ (by show q ≠ w.heap.size + 1; omega), Below.heap_setCell _ _ _ _ (by show q ≠ w.heap.size + 1; omega), Below.heap_setCell _ _ _ _ (by show q ≠ w.heap.size + 1; omega)]
end Go.Proofs.YtjpdmncafacmaaaGreatDoor
end
/- The law MixOwn. -/
section
set_option linter.unusedVariables false
set_option linter.unusedSimpArgs false
namespace Go.Proofs.YtjpdmncafacmaaaGreatDoor
open Go.RowKit

/-- New boxes, later. -/
theorem zero1 {w v : World} {n : Nat} (h : Grew (w.alloc (.cells #[.slice none 0 0, .int .i64 0, .slice none 0 0] 25)) v) (hn : w.heap.size = n) : ThreeAt v n (.slice none 0 0) (.int .i64 0) (.slice none 0 0) 25 := by
  subst hn
  exact (ThreeAt.new w _ _ _ _).frm h.1
theorem zero2 {w v : World} {n : Nat} (h : Grew ((w.alloc (.cells #[.slice none 0 0, .int .i64 0, .slice none 0 0] 25)).alloc (.cells #[.slice none 0 0, .int .i64 0, .slice none 0 0] 25)) v) (hn : w.heap.size = n) : ThreeAt v n (.slice none 0 0) (.int .i64 0) (.slice none 0 0) 25 ∧ ThreeAt v (n + 1) (.slice none 0 0) (.int .i64 0) (.slice none 0 0) 25 := by
  subst hn
  refine ⟨((ThreeAt.new w _ _ _ _).frm (frm_alloc _ _)).frm h.1, ?_⟩
  have h2 := (ThreeAt.new (w.alloc (.cells #[.slice none 0 0, .int .i64 0, .slice none 0 0] 25)) (.slice none 0 0) (.int .i64 0) (.slice none 0 0) 25).frm h.1
  rw [World.size_alloc] at h2
  exact h2
theorem zero1d {w v : World} {n : Nat} (h : Grew (w.alloc (.cells #[.slice none 0 0, .int .i64 0, .slice none 0 0] 25)).drew v) (hn : w.heap.size = n) : ThreeAt v n (.slice none 0 0) (.int .i64 0) (.slice none 0 0) 25 := zero1 (grew_trans (grew_drew _) h) hn
theorem zero2d {w v : World} {n : Nat} (h : Grew ((w.alloc (.cells #[.slice none 0 0, .int .i64 0, .slice none 0 0] 25)).alloc (.cells #[.slice none 0 0, .int .i64 0, .slice none 0 0] 25)).drew v) (hn : w.heap.size = n) : ThreeAt v n (.slice none 0 0) (.int .i64 0) (.slice none 0 0) 25 ∧ ThreeAt v (n + 1) (.slice none 0 0) (.int .i64 0) (.slice none 0 0) 25 := zero2 (grew_trans (grew_drew _) h) hn
theorem zeroc0 {w v : World} {n : Nat} (z : ThreeAt w n (.slice none 0 0) (.int .i64 0) (.slice none 0 0) 25) (h : Grew w v) : ThreeAt v n (.slice none 0 0) (.int .i64 0) (.slice none 0 0) 25 := z.frm h.1
theorem zeroc1 {w v : World} {n : Nat} {o : Obj} (z : ThreeAt w n (.slice none 0 0) (.int .i64 0) (.slice none 0 0) 25) (h : Grew (w.alloc o) v) : ThreeAt v n (.slice none 0 0) (.int .i64 0) (.slice none 0 0) 25 := (z.frm (frm_alloc _ _)).frm h.1
theorem ThreeAt.sets {w : World} {g : Nat} {a b c : Value} {T : TypeId} (h : ThreeAt w g a b c T) (x y z : Value) : ThreeAt (((w.setCell ⟨g, 0, none⟩ x).setCell ⟨g, 1, none⟩ y).setCell ⟨g, 2, none⟩ z) g x y z T := ((h.set0 _).set1 _).set2 _
theorem ThreeAt.skip {w : World} {g g' : Nat} {a b c x y z : Value} {T : TypeId} (h : ThreeAt w g a b c T) (hne : g ≠ g') : ThreeAt (((w.setCell ⟨g', 0, none⟩ x).setCell ⟨g', 1, none⟩ y).setCell ⟨g', 2, none⟩ z) g a b c T :=
  h.move (by rw [Below.heap_setCell _ _ _ _ hne, Below.heap_setCell _ _ _ _ hne, Below.heap_setCell _ _ _ _ hne])
theorem ThreeAt.al {w : World} {g : Nat} {a b c : Value} {T : TypeId} {o : Obj} (h : ThreeAt w g a b c T) : ThreeAt (w.alloc o) g a b c T := h.frm (frm_alloc _ _)
theorem ThreeAt.newn {w : World} {n : Nat} {a b c : Value} {T : TypeId} (h : n = w.heap.size) : ThreeAt (w.alloc (.cells #[a, b, c] T)) n a b c T := by subst h; exact ThreeAt.new w _ _ _ _
/-- What was made between two worlds is there still. -/
def Later (X v W : World) : Prop := v.heap.size ≤ W.heap.size ∧ ∀ b, X.heap.size ≤ b → b < v.heap.size → W.heap[b]? = v.heap[b]?
theorem later_refl (X v : World) : Later X v v := ⟨Nat.le_refl _, fun _ _ _ => rfl⟩
theorem Later.grew {X v w w' : World} (h : Later X v w) (hg : Grew w w') : Later X v w' := ⟨Nat.le_trans h.1 hg.1.size, fun b h1 h2 => (frm_lt hg.1 b (Nat.lt_of_lt_of_le h2 h.1)).trans (h.2 b h1 h2)⟩
theorem Later.al {X v w : World} {o : Obj} (h : Later X v w) : Later X v (w.alloc o) := h.grew (grew_alloc _ _)
theorem Later.set {X v w : World} {g o : Nat} {x : Value} (h : Later X v w) (hg : g < X.heap.size ∨ v.heap.size ≤ g) : Later X v (w.setCell ⟨g, o, none⟩ x) :=
  ⟨by simpa using h.1, fun b h1 h2 => (Below.heap_setCell _ _ _ _ (by show b ≠ g; omega)).trans (h.2 b h1 h2)⟩
theorem Later.rd {X v W : World} {a : Au} {cs : List Value} (h : Later X v W) (hr : WR AuR (Fresh X v) v a cs) : rdO AuR W a cs :=
  moves_au _ _ _ _ _ _ (fun b hb => Nat.lt_of_lt_of_le hb.2 h.1) (fun b hb => h.2 b hb.1 hb.2) (WR.rd moves_au hr)
/-- Two copies are made. -/
def CopiesAt (w4 : World) (g h : Nat) (a b : Au) (wx : World) : Prop :=
  ∃ rx mx ry my, Grew w4 wx ∧ w4.heap.size ≤ g ∧ w4.heap.size ≤ h ∧ ThreeAt wx g rx (.int .i64 a.start) mx 25 ∧ ThreeAt wx h ry (.int .i64 b.start) my 25 ∧
    rdO AuR wx a [rx, .int .i64 a.start, mx] ∧ rdO AuR wx b [ry, .int .i64 b.start, my]
theorem spared_frm {w0 wk w5 wm w6 : World} (h : w0.grownBy wm none) (hk : w0.heap.size ≤ wk.heap.size) (hs : Spared (Fresh wk w5) wm w6) : w0.grownBy w6 none :=
  ⟨hs.os.trans h.os, hs.tape.trans h.tape, hs.output.trans h.output, Nat.le_trans h.size hs.size, fun b hb _ => (hs.block b (Nat.lt_of_lt_of_le hb h.size) (fun hf => by have := hf.1; omega)).trans (h.block b hb (by simp))⟩
theorem same_self {a : Au} (h : a.ok = true) : sameA a a = true := by
  rw [ok_eq] at h
  unfold sameA
  simp [h]
/-- A result is stored into its box, and turned. -/
theorem stage {wc wi w5 : World} {g7 : Nat} {V : Au} {A B : Option Addr} {n c p d : Nat} {u0 u1 u2 : Value} (hg : wc.heap.size ≤ g7) (hl : g7 < wi.heap.size) (hF : wc.grownBy wi none) (hf : wi.grownBy w5 none) (hr : WR AuR (Fresh wi w5) w5 V [.slice A n c, .int .i64 V.start, .slice B p d])
    (y : ThreeAt w5 g7 u0 u1 u2 25) :
    Calls Tryz.prog 22 #[.agg #[.slice A n c, .int .i64 V.start, .slice B p d]] (((w5.setCell ⟨g7, 0, none⟩ (.slice A n c)).setCell ⟨g7, 1, none⟩ (.int .i64 V.start)).setCell ⟨g7, 2, none⟩ (.slice B p d))
      (fun e w6 => e = .returned (.tuple #[]) ∧ wc.grownBy w6 none ∧ ThreeAt w6 g7 (.slice A n c) (.int .i64 V.start) (.slice B p d) 25) := by
  have hset : ∀ b, b ≠ g7 → (((w5.setCell ⟨g7, 0, none⟩ (.slice A n c)).setCell ⟨g7, 1, none⟩ (.int .i64 V.start)).setCell ⟨g7, 2, none⟩ (.slice B p d)).heap[b]? = w5.heap[b]? := fun b hb => by
    rw [Below.heap_setCell _ _ _ _ hb, Below.heap_setCell _ _ _ _ hb, Below.heap_setCell _ _ _ _ hb]
  have hFs := frm_set_new (frm_set_new (frm_set_new (frm_trans hF hf) hg 0 (.slice A n c)) hg 1 (.int .i64 V.start)) hg 2 (.slice B p d)
  have xs := ThreeAt.sets y (.slice A n c) (.int .i64 V.start) (.slice B p d)
  have hm := moves_WR moves_au _ _ _ _ _ _ (fun b hb => hb) (fun b hb => hset b (by have := hb.1; omega)) hr
  have hsz : (((w5.setCell ⟨g7, 0, none⟩ (.slice A n c)).setCell ⟨g7, 1, none⟩ (.int .i64 V.start)).setCell ⟨g7, 2, none⟩ (.slice B p d)).heap.size = w5.heap.size := by simp
  generalize ((w5.setCell ⟨g7, 0, none⟩ (.slice A n c)).setCell ⟨g7, 1, none⟩ (.int .i64 V.start)).setCell ⟨g7, 2, none⟩ (.slice B p d) = ws at *
  refine (turn_calls V (Fresh wi w5) ws (fun b hb => by have := hb.2; omega) _ _ hm).mono ?_
  rintro e w6 ⟨rfl, hsp⟩
  exact ⟨rfl, spared_frm hFs hF.size hsp, xs.move (hsp.block _ xs.lt (fun hh => by have := hh.1; omega))⟩
theorem copies_mk {w4 W : World} {g h : Nat} {a b : Au} {rx mx ry my : Value} (hG : Grew w4 W) (hg : w4.heap.size ≤ g) (hh : w4.heap.size ≤ h) (t1 : ThreeAt W g rx (.int .i64 a.start) mx 25) (t2 : ThreeAt W h ry (.int .i64 b.start) my 25)
    (r1 : rdO AuR W a [rx, .int .i64 a.start, mx]) (r2 : rdO AuR W b [ry, .int .i64 b.start, my]) : ∃ g' h', Value.pointer (some ⟨g, 0, none⟩) = .pointer (some ⟨g', 0, none⟩) ∧ Value.pointer (some ⟨h, 0, none⟩) = .pointer (some ⟨h', 0, none⟩) ∧ CopiesAt w4 g' h' a b W :=
  ⟨g, h, rfl, rfl, rx, mx, ry, my, hG, hg, hh, t1, t2, r1, r2⟩
set_option maxRecDepth 100000 in
set_option maxHeartbeats 4000000 in
theorem lown_calls (a b : Au) (w : World) (hT : Tab w) (r m r' m' : Value) (ha : rdO AuR w a [r, .int .i64 a.start, m]) (hb : rdO AuR w b [r', .int .i64 b.start, m']) :
    Calls Tryz.prog 6 #[.agg #[r, .int .i64 a.start, m], .agg #[r', .int .i64 b.start, m']] w fun e w' => e = .returned (.bool true) ∧ w.grownBy w' none := by
  have HA := Lib.hid ha
  have HB := Lib.hid hb
  have HTB := Lib.hid hT
  clear hT
  obtain ⟨A0, n0, c0, B0, p0, d0, rfl, rfl⟩ := au_slices2 ha
  obtain ⟨A1, n1, c1, B1, p1, d1, rfl, rfl⟩ := au_slices2 hb
  obtain ⟨w2, hw2⟩ : ∃ w2, w2 = (w.alloc (.cells #[.slice A0 n0 c0, .int .i64 a.start, .slice B0 p0 d0] 25)).alloc (.cells #[.slice A1 n1 c1, .int .i64 b.start, .slice B1 p1 d1] 25) := ⟨_, rfl⟩
  have hG2 : Grew w w2 := by rw [hw2]; exact grew_then_alloc (grew_alloc _ _) _
  have xa : ThreeAt w2 w.heap.size (.slice A0 n0 c0) (.int .i64 a.start) (.slice B0 p0 d0) 25 := by rw [hw2]; exact (ThreeAt.new w _ _ _ _).frm (frm_alloc _ _)
  have xb : ThreeAt w2 (w.heap.size + 1) (.slice A1 n1 c1) (.int .i64 b.start) (.slice B1 p1 d1) 25 := by
    have h := ThreeAt.new (w.alloc (.cells #[.slice A0 n0 c0, .int .i64 a.start, .slice B0 p0 d0] 25)) (.slice A1 n1 c1) (.int .i64 b.start) (.slice B1 p1 d1) 25
    rw [World.size_alloc] at h
    rw [hw2]; exact h
  have hIS : Hid (∀ wx, Grew w wx → Calls Tryz.prog 8 #[.agg #[.slice A0 n0 c0, .int .i64 a.start, .slice B0 p0 d0]] wx (RetD wx (.bool a.ok))) := fun wx hx => by
    have h := ris_calls a wx _ _ (rdO_frm moves_au hx.1 ha)
    rw [← ok_eq] at h
    exact h
  have hISB : Hid (∀ wx, Grew w wx → Calls Tryz.prog 8 #[.agg #[.slice A1 n1 c1, .int .i64 b.start, .slice B1 p1 d1]] wx (RetD wx (.bool b.ok))) := fun wx hx => by
    have h := ris_calls b wx _ _ (rdO_frm moves_au hx.1 hb)
    rw [← ok_eq] at h
    exact h
  have HW2 := Lib.hid hw2
  obtain ⟨ya0, ya1, ya2⟩ := xa.cells
  obtain ⟨yb0, yb1, yb2⟩ := xb.cells
  rw [hw2] at ya0 ya1 ya2 yb0 yb1 yb2
  clear hw2 ha hb
  go_enter Tryz.func6, Tryz.ntmps6
  go_wp2_with fail
  rw [← HW2.out]
  refine (hIS.out _ hG2).mono ?_
  rintro e w3 ⟨rfl, hf3⟩
  have hG3 := grew_trans hG2 hf3
  have hl3 : w.heap.size + 1 < w3.heap.size := (xb.frm hf3.1).lt
  clear ya0 ya1 ya2 yb0 yb1 yb2
  obtain ⟨xa0, xa1, xa2⟩ := (xa.frm hf3.1).cells
  obtain ⟨xb0, xb1, xb2⟩ := (xb.frm hf3.1).cells
  dsimp only
  cases hok : a.ok with
  | false =>
    clear hok
    go_wp2_with fail
    refine (alive_calls _ (HTB.out.grew hG3)).mono ?_
    rintro e w5 ⟨rfl, hf5⟩
    dsimp only
    go_wp2_with fail
    exact bodyPost_ret (results_tmp rfl _ _ _) rfl ⟨rfl, (grew_trans hG3 hf5).1⟩
  | true =>
    have HOA := Lib.hid hok
    clear hok
    go_wp2_with fail
    refine (hISB.out _ hG3).mono ?_
    rintro e w4 ⟨rfl, hf4⟩
    have hG4 := grew_trans hG3 hf4
    have ya := (xa.frm hf3.1).frm hf4.1
    have yb := (xb.frm hf3.1).frm hf4.1
    clear xa0 xa1 xa2 xb0 xb1 xb2 xa xb
    obtain ⟨xa0, xa1, xa2⟩ := ya.cells
    obtain ⟨xb0, xb1, xb2⟩ := yb.cells
    have hl4 := yb.lt
    dsimp only
    cases hok : b.ok with
    | false =>
      clear hok
      go_wp2_with fail
      refine (alive_calls _ (HTB.out.grew hG4)).mono ?_
      rintro e w5 ⟨rfl, hf5⟩
      dsimp only
      go_wp2_with fail
      exact bodyPost_ret (results_tmp rfl _ _ _) rfl ⟨rfl, (grew_trans hG4 hf5).1⟩
    | true =>
      have HOB := Lib.hid hok
      clear hok
      go_wp2_with fail
      go_cut [5, 6] (fun s5 s6 wx => ∃ g h, s5 = .pointer (some ⟨g, 0, none⟩) ∧ s6 = .pointer (some ⟨h, 0, none⟩) ∧ CopiesAt w4 g h a b wx)
      case first =>
        have hk0 : ∀ wx, wx = w4.drew → (Grew w4 wx ∧ wx.cell? ⟨w.heap.size, 0, none⟩ = some (.slice A0 n0 c0) ∧ wx.cell? ⟨w.heap.size, 1, none⟩ = some (.int .i64 a.start) ∧ wx.cell? ⟨w.heap.size, 2, none⟩ = some (.slice B0 p0 d0) ∧ wx.cell? ⟨w.heap.size + 1, 0, none⟩ = some (.slice A1 n1 c1) ∧ wx.cell? ⟨w.heap.size + 1, 1, none⟩ = some (.int .i64 b.start) ∧ wx.cell? ⟨w.heap.size + 1, 2, none⟩ = some (.slice B1 p1 d1)) := by
          rintro wx rfl
          exact ⟨grew_drew _, xa0, xa1, xa2, xb0, xb1, xb2⟩
        have hks : ∀ v1 v2 : World, Grew v1 v2 → (Grew w4 v1 ∧ v1.cell? ⟨w.heap.size, 0, none⟩ = some (.slice A0 n0 c0) ∧ v1.cell? ⟨w.heap.size, 1, none⟩ = some (.int .i64 a.start) ∧ v1.cell? ⟨w.heap.size, 2, none⟩ = some (.slice B0 p0 d0) ∧ v1.cell? ⟨w.heap.size + 1, 0, none⟩ = some (.slice A1 n1 c1) ∧ v1.cell? ⟨w.heap.size + 1, 1, none⟩ = some (.int .i64 b.start) ∧ v1.cell? ⟨w.heap.size + 1, 2, none⟩ = some (.slice B1 p1 d1)) → (Grew w4 v2 ∧ v2.cell? ⟨w.heap.size, 0, none⟩ = some (.slice A0 n0 c0) ∧ v2.cell? ⟨w.heap.size, 1, none⟩ = some (.int .i64 a.start) ∧ v2.cell? ⟨w.heap.size, 2, none⟩ = some (.slice B0 p0 d0) ∧ v2.cell? ⟨w.heap.size + 1, 0, none⟩ = some (.slice A1 n1 c1) ∧ v2.cell? ⟨w.heap.size + 1, 1, none⟩ = some (.int .i64 b.start) ∧ v2.cell? ⟨w.heap.size + 1, 2, none⟩ = some (.slice B1 p1 d1)) :=
          fun v1 v2 hf h => ⟨grew_trans h.1 hf, frm_cell hf.1 h.2.1, frm_cell hf.1 h.2.2.1, frm_cell hf.1 h.2.2.2.1, frm_cell hf.1 h.2.2.2.2.1, frm_cell hf.1 h.2.2.2.2.2.1, frm_cell hf.1 h.2.2.2.2.2.2⟩
        have hka : ∀ (v1 : World) (o : Obj), (Grew w4 v1 ∧ v1.cell? ⟨w.heap.size, 0, none⟩ = some (.slice A0 n0 c0) ∧ v1.cell? ⟨w.heap.size, 1, none⟩ = some (.int .i64 a.start) ∧ v1.cell? ⟨w.heap.size, 2, none⟩ = some (.slice B0 p0 d0) ∧ v1.cell? ⟨w.heap.size + 1, 0, none⟩ = some (.slice A1 n1 c1) ∧ v1.cell? ⟨w.heap.size + 1, 1, none⟩ = some (.int .i64 b.start) ∧ v1.cell? ⟨w.heap.size + 1, 2, none⟩ = some (.slice B1 p1 d1)) → (Grew w4 (v1.alloc o) ∧ (v1.alloc o).cell? ⟨w.heap.size, 0, none⟩ = some (.slice A0 n0 c0) ∧ (v1.alloc o).cell? ⟨w.heap.size, 1, none⟩ = some (.int .i64 a.start) ∧ (v1.alloc o).cell? ⟨w.heap.size, 2, none⟩ = some (.slice B0 p0 d0) ∧ (v1.alloc o).cell? ⟨w.heap.size + 1, 0, none⟩ = some (.slice A1 n1 c1) ∧ (v1.alloc o).cell? ⟨w.heap.size + 1, 1, none⟩ = some (.int .i64 b.start) ∧ (v1.alloc o).cell? ⟨w.heap.size + 1, 2, none⟩ = some (.slice B1 p1 d1)) :=
          fun v1 o h => hks _ _ (grew_alloc _ _) h
        have hkc : ∀ (v1 : World) (g o : Nat) (x : Value), w4.heap.size ≤ g → (Grew w4 v1 ∧ v1.cell? ⟨w.heap.size, 0, none⟩ = some (.slice A0 n0 c0) ∧ v1.cell? ⟨w.heap.size, 1, none⟩ = some (.int .i64 a.start) ∧ v1.cell? ⟨w.heap.size, 2, none⟩ = some (.slice B0 p0 d0) ∧ v1.cell? ⟨w.heap.size + 1, 0, none⟩ = some (.slice A1 n1 c1) ∧ v1.cell? ⟨w.heap.size + 1, 1, none⟩ = some (.int .i64 b.start) ∧ v1.cell? ⟨w.heap.size + 1, 2, none⟩ = some (.slice B1 p1 d1)) → (Grew w4 (v1.setCell ⟨g, o, none⟩ x) ∧ (v1.setCell ⟨g, o, none⟩ x).cell? ⟨w.heap.size, 0, none⟩ = some (.slice A0 n0 c0) ∧ (v1.setCell ⟨g, o, none⟩ x).cell? ⟨w.heap.size, 1, none⟩ = some (.int .i64 a.start) ∧ (v1.setCell ⟨g, o, none⟩ x).cell? ⟨w.heap.size, 2, none⟩ = some (.slice B0 p0 d0) ∧ (v1.setCell ⟨g, o, none⟩ x).cell? ⟨w.heap.size + 1, 0, none⟩ = some (.slice A1 n1 c1) ∧ (v1.setCell ⟨g, o, none⟩ x).cell? ⟨w.heap.size + 1, 1, none⟩ = some (.int .i64 b.start) ∧ (v1.setCell ⟨g, o, none⟩ x).cell? ⟨w.heap.size + 1, 2, none⟩ = some (.slice B1 p1 d1)) := by
          intro v1 g o x hg h
          refine ⟨grew_set_new h.1 hg _ _, ?_, ?_, ?_, ?_, ?_, ?_⟩
          · rw [World.cell?_setCell_other _ _ _ _ (by intro e; injection e with e; omega)]; exact h.2.1
          · rw [World.cell?_setCell_other _ _ _ _ (by intro e; injection e with e; omega)]; exact h.2.2.1
          · rw [World.cell?_setCell_other _ _ _ _ (by intro e; injection e with e; omega)]; exact h.2.2.2.1
          · rw [World.cell?_setCell_other _ _ _ _ (by intro e; injection e with e; omega)]; exact h.2.2.2.2.1
          · rw [World.cell?_setCell_other _ _ _ _ (by intro e; injection e with e; omega)]; exact h.2.2.2.2.2.1
          · rw [World.cell?_setCell_other _ _ _ _ (by intro e; injection e with e; omega)]; exact h.2.2.2.2.2.2
        have HK0 := Lib.hid hk0
        have HKW : Hid (Grew w4 w4 ∧ w4.cell? ⟨w.heap.size, 0, none⟩ = some (.slice A0 n0 c0) ∧ w4.cell? ⟨w.heap.size, 1, none⟩ = some (.int .i64 a.start) ∧ w4.cell? ⟨w.heap.size, 2, none⟩ = some (.slice B0 p0 d0) ∧ w4.cell? ⟨w.heap.size + 1, 0, none⟩ = some (.slice A1 n1 c1) ∧ w4.cell? ⟨w.heap.size + 1, 1, none⟩ = some (.int .i64 b.start) ∧ w4.cell? ⟨w.heap.size + 1, 2, none⟩ = some (.slice B1 p1 d1)) := ⟨grew_refl _, xa0, xa1, xa2, xb0, xb1, xb2⟩
        have HKD : Hid (∀ v1 : World, (Grew w4 v1 ∧ v1.cell? ⟨w.heap.size, 0, none⟩ = some (.slice A0 n0 c0) ∧ v1.cell? ⟨w.heap.size, 1, none⟩ = some (.int .i64 a.start) ∧ v1.cell? ⟨w.heap.size, 2, none⟩ = some (.slice B0 p0 d0) ∧ v1.cell? ⟨w.heap.size + 1, 0, none⟩ = some (.slice A1 n1 c1) ∧ v1.cell? ⟨w.heap.size + 1, 1, none⟩ = some (.int .i64 b.start) ∧ v1.cell? ⟨w.heap.size + 1, 2, none⟩ = some (.slice B1 p1 d1)) → (Grew w4 v1.drew ∧ v1.drew.cell? ⟨w.heap.size, 0, none⟩ = some (.slice A0 n0 c0) ∧ v1.drew.cell? ⟨w.heap.size, 1, none⟩ = some (.int .i64 a.start) ∧ v1.drew.cell? ⟨w.heap.size, 2, none⟩ = some (.slice B0 p0 d0) ∧ v1.drew.cell? ⟨w.heap.size + 1, 0, none⟩ = some (.slice A1 n1 c1) ∧ v1.drew.cell? ⟨w.heap.size + 1, 1, none⟩ = some (.int .i64 b.start) ∧ v1.drew.cell? ⟨w.heap.size + 1, 2, none⟩ = some (.slice B1 p1 d1))) := fun v1 h => hks _ _ (grew_drew _) h
        have HK := Lib.hid hks
        have HKA := Lib.hid hka
        have HKC := Lib.hid hkc
        have HCA : Hid (∀ wx, Grew w4 wx → Calls Tryz.prog 20 #[.agg #[.slice A0 n0 c0, .int .i64 a.start, .slice B0 p0 d0]] wx (RetU wx a)) := fun wx hg => rcopy_calls a HOA.out wx _ _ (rdO_frm moves_au (frm_trans hG4.1 hg.1) HA.out)
        have HCB : Hid (∀ wx, Grew w4 wx → Calls Tryz.prog 20 #[.agg #[.slice A1 n1 c1, .int .i64 b.start, .slice B1 p1 d1]] wx (RetU wx b)) := fun wx hg => rcopy_calls b HOB.out wx _ _ (rdO_frm moves_au (frm_trans hG4.1 hg.1) HB.out)
        clear hk0 hks hka hkc xa0 xa1 xa2 xb0 xb1 xb2
        go_region_held3 (fun wx => Grew w4 wx ∧ wx.cell? ⟨w.heap.size, 0, none⟩ = some (.slice A0 n0 c0) ∧ wx.cell? ⟨w.heap.size, 1, none⟩ = some (.int .i64 a.start) ∧ wx.cell? ⟨w.heap.size, 2, none⟩ = some (.slice B0 p0 d0) ∧ wx.cell? ⟨w.heap.size + 1, 0, none⟩ = some (.slice A1 n1 c1) ∧ wx.cell? ⟨w.heap.size + 1, 1, none⟩ = some (.int .i64 b.start) ∧ wx.cell? ⟨w.heap.size + 1, 2, none⟩ = some (.slice B1 p1 d1)) (repeat' (first | with_reducible assumption | with_reducible refine HKC.out _ _ _ _ (by first | omega | (simp only [World.size_alloc, World.size_setCell]; omega)) ?_ | with_reducible refine HKA.out _ _ ?_ | with_reducible refine HKD.out _ ?_ | with_reducible exact HKW.out | with_reducible exact HK.out _ _ (by assumption) (by assumption) | with_reducible exact HK0.out _ rfl)) (first | (go_at_call 20; (with_reducible refine (HCA.out _ (And.left (by assumption))).mono ?_); rintro e v5 ⟨r5, m5, rfl, hg5, hr5, -, -⟩; obtain ⟨A5, n5, c5, B5, p5, d5, rfl, rfl⟩ := au_slices hr5; have hS5 := HK.out _ _ hg5 (by assumption); have hz5 := hS5.1.1.size; (first | ((with_reducible have zz := zero2d hg5 (rfl : w4.heap.size = w4.heap.size)); obtain ⟨zA, zB⟩ := zz; obtain ⟨zA0, zA1, zA2⟩ := zA.cells; have zAf0 := zA.free 0; have zAf1 := zA.free 1; have zAf2 := zA.free 2; have zAl := zA.lt; obtain ⟨zB0, zB1, zB2⟩ := zB.cells; have zBf0 := zB.free 0; have zBf1 := zB.free 1; have zBf2 := zB.free 2; have zBl := zB.lt) | ((with_reducible have zA := zero1d hg5 (rfl : w4.heap.size = w4.heap.size)); obtain ⟨zA0, zA1, zA2⟩ := zA.cells; have zAf0 := zA.free 0; have zAf1 := zA.free 1; have zAf2 := zA.free 2; have zAl := zA.lt) | skip); have HR5 := Lib.hid hr5; have HG5 := Lib.hid hg5; clear hr5 hg5) | (go_at_call 20; (with_reducible refine (HCB.out _ (And.left (by assumption))).mono ?_); rintro e v6 ⟨r6, m6, rfl, hg6, hr6, -, -⟩; obtain ⟨A6, n6, c6, B6, p6, d6, rfl, rfl⟩ := au_slices hr6; have hS6 := HK.out _ _ hg6 (by assumption); have hz6 := hS6.1.1.size; have hy6 := hg6.1.size; (try simp only [World.size_alloc] at hy6); (first | ((with_reducible have zz := zero2 hg6 (rfl : v5.heap.size = v5.heap.size)); obtain ⟨zC, zD⟩ := zz; obtain ⟨zC0, zC1, zC2⟩ := zC.cells; have zCf0 := zC.free 0; have zCf1 := zC.free 1; have zCf2 := zC.free 2; have zCl := zC.lt; obtain ⟨zD0, zD1, zD2⟩ := zD.cells; have zDf0 := zD.free 0; have zDf1 := zD.free 1; have zDf2 := zD.free 2; have zDl := zD.lt) | ((with_reducible have zC := zero1 hg6 (rfl : v5.heap.size = v5.heap.size)); obtain ⟨zC0, zC1, zC2⟩ := zC.cells; have zCf0 := zC.free 0; have zCf1 := zC.free 1; have zCf2 := zC.free 2; have zCl := zC.lt) | skip); (try ((with_reducible first | have zE := zeroc0 zA hg6 | have zE := zeroc1 zA hg6); obtain ⟨zE0, zE1, zE2⟩ := zE.cells; have zEf0 := zE.free 0; have zEf1 := zE.free 1; have zEf2 := zE.free 2; have zEl := zE.lt)); (try ((with_reducible first | have zF := zeroc0 zB hg6 | have zF := zeroc1 zB hg6); obtain ⟨zF0, zF1, zF2⟩ := zF.cells; have zFf0 := zF.free 0; have zFf1 := zF.free 1; have zFf2 := zF.free 2; have zFl := zF.lt)); have HR6 := Lib.hid hr6; have HG6 := Lib.hid hg6; clear hr6 hg6))
        all_goals
          go_wp2_with fail
          go_meet
          case rel =>
            with_reducible refine copies_mk (rx := .slice A5 n5 c5) (mx := .slice B5 p5 d5) (ry := .slice A6 n6 c6) (my := .slice B6 p6 d6) ?gr ?h1 ?h2 ?t1 ?t2 ?r1 ?r2
            case h1 => omega
            case h2 => omega
            case gr => with_reducible exact And.left (by assumption)
            case t1 => (repeat (first | with_reducible assumption | with_reducible exact ThreeAt.newn (by first | with_reducible rfl | (simp only [World.size_drew, World.size_alloc, World.size_setCell]; done) | (simp only [World.size_drew, World.size_alloc, World.size_setCell]; omega)) | with_reducible refine ThreeAt.sets (a := .slice none 0 0) (b := .int .i64 0) (c := .slice none 0 0) ?_ _ _ _ | with_reducible refine ThreeAt.skip ?_ (by omega) | with_reducible refine ThreeAt.al ?_))
            case t2 => (repeat (first | with_reducible assumption | with_reducible exact ThreeAt.newn (by first | with_reducible rfl | (simp only [World.size_drew, World.size_alloc, World.size_setCell]; done) | (simp only [World.size_drew, World.size_alloc, World.size_setCell]; omega)) | with_reducible refine ThreeAt.sets (a := .slice none 0 0) (b := .int .i64 0) (c := .slice none 0 0) ?_ _ _ _ | with_reducible refine ThreeAt.skip ?_ (by omega) | with_reducible refine ThreeAt.al ?_))
            case r1 => refine Later.rd ?_ HR5.out; (repeat (first | with_reducible exact later_refl _ _ | with_reducible refine Later.al ?_ | with_reducible refine Later.set ?_ (by (try simp only [World.size_drew, World.size_alloc]); omega) | with_reducible refine Later.grew ?_ HG6.out))
            case r2 => refine Later.rd ?_ HR6.out; (repeat (first | with_reducible exact later_refl _ _ | with_reducible refine Later.al ?_ | with_reducible refine Later.set ?_ (by (try simp only [World.size_drew, World.size_alloc]); omega) | with_reducible refine Later.grew ?_ HG6.out))
      case rest =>
        obtain ⟨g, h, rfl, rfl, rx, mx, ry, my, hGc, hgl, hhl, tx, ty, hrx, hry⟩ := hcut
        obtain ⟨A2, n2, c2, B2, p2, d2, rfl, rfl⟩ := au_slices2 hrx
        obtain ⟨A3, n3, c3, B3, p3, d3, rfl, rfl⟩ := au_slices2 hry
        have hGw : Grew w wc := grew_trans hG4 hGc
        have HCAnd : Hid (∀ wx, wc.grownBy wx none → Calls Tryz.prog 21 #[.agg #[.slice A0 n0 c0, .int .i64 a.start, .slice B0 p0 d0], .agg #[.slice A1 n1 c1, .int .i64 b.start, .slice B1 p1 d1]] wx (RetF wx (joinV stAnd a b) (joinE stAnd a b))) := fun wx hx => (and_calls a b wx _ _ _ _ (rdO_frm moves_au (frm_trans hGw.1 hx) HA.out) (rdO_frm moves_au (frm_trans hGw.1 hx) HB.out)).mono (fun e w' ⟨r, m, h1, h2, h3⟩ => ⟨r, m, h1, h2.1, h3⟩)
        have HCOr : Hid (∀ wx, wc.grownBy wx none → Calls Tryz.prog 23 #[.agg #[.slice A0 n0 c0, .int .i64 a.start, .slice B0 p0 d0], .agg #[.slice A1 n1 c1, .int .i64 b.start, .slice B1 p1 d1]] wx (RetF wx (joinV stOr a b) (joinE stOr a b))) := fun wx hx => (or_calls a b wx _ _ _ _ (rdO_frm moves_au (frm_trans hGw.1 hx) HA.out) (rdO_frm moves_au (frm_trans hGw.1 hx) HB.out)).mono (fun e w' ⟨r, m, h1, h2, h3⟩ => ⟨r, m, h1, h2.1, h3⟩)
        have HCReach : Hid (∀ wx, wc.grownBy wx none → Calls Tryz.prog 24 #[.agg #[.slice A0 n0 c0, .int .i64 a.start, .slice B0 p0 d0]] wx (RetF wx (reachV a) (reachE a))) := fun wx hx => (reach_calls a wx (HTB.out.frm (frm_trans hGw.1 hx)) _ _ (rdO_frm moves_au (frm_trans hGw.1 hx) HA.out)).mono (fun e w' ⟨r, m, h1, h2, h3⟩ => ⟨r, m, h1, h2.1, h3⟩)
        have HCPlain : Hid (∀ wx, wc.grownBy wx none → Calls Tryz.prog 15 #[.agg #[.slice A0 n0 c0, .int .i64 a.start, .slice B0 p0 d0]] wx (RetF wx (plainV a) (plainE a))) := fun wx hx => (plain_calls a wx _ _ (rdO_frm moves_au (frm_trans hGw.1 hx) HA.out)).mono (fun e w' ⟨r, m, h1, h2, h3⟩ => ⟨r, m, h1, h2.1, h3⟩)
        have HCMerge : Hid (∀ wx, wc.grownBy wx none → Calls Tryz.prog 17 #[.agg #[.slice A0 n0 c0, .int .i64 a.start, .slice B0 p0 d0]] wx (RetF wx (mergeV a) (mergeE a))) := fun wx hx => merge_calls a wx (HTB.out.frm (frm_trans hGw.1 hx)) _ _ (rdO_frm moves_au (frm_trans hGw.1 hx) HA.out)
        have HSA : Hid (∀ wx, wc.grownBy wx none → Calls Tryz.prog 25 #[.agg #[.slice A0 n0 c0, .int .i64 a.start, .slice B0 p0 d0], .agg #[.slice A2 n2 c2, .int .i64 a.start, .slice B2 p2 d2]] wx (RetD wx (.bool true))) := fun wx hx => by
          have h := rsame_calls a a wx _ _ _ _ (rdO_frm moves_au (frm_trans hGw.1 hx) HA.out) (rdO_frm moves_au hx hrx)
          rw [same_self HOA.out] at h
          exact h
        have HSB : Hid (∀ wx, wc.grownBy wx none → Calls Tryz.prog 25 #[.agg #[.slice A1 n1 c1, .int .i64 b.start, .slice B1 p1 d1], .agg #[.slice A3 n3 c3, .int .i64 b.start, .slice B3 p3 d3]] wx (RetD wx (.bool true))) := fun wx hx => by
          have h := rsame_calls b b wx _ _ _ _ (rdO_frm moves_au (frm_trans hGw.1 hx) HB.out) (rdO_frm moves_au hx hry)
          rw [same_self HOB.out] at h
          exact h
        have HTW : Hid (∀ wx, wc.grownBy wx none → Tab wx) := fun wx hx => HTB.out.frm (frm_trans hGw.1 hx)
        have HYA := Lib.hid (ya.frm hGc.1)
        have HYB := Lib.hid (yb.frm hGc.1)
        have HTX := Lib.hid tx
        have HTY := Lib.hid ty
        have HGW := Lib.hid hGw
        clear tx ty hrx hry ya yb hGw xa0 xa1 xa2 xb0 xb1 xb2
        obtain ⟨xa0, xa1, xa2⟩ := (HYA.out.frm (frm_refl wc none)).cells
        have hla := (HYA.out.frm (frm_refl wc none)).lt
        obtain ⟨xb0, xb1, xb2⟩ := (HYB.out.frm (frm_refl wc none)).cells
        have hlb := (HYB.out.frm (frm_refl wc none)).lt
        go_wp2_with fail
        refine (HCAnd.out _ (frm_refl _ _)).mono ?_
        rintro e w5 ⟨r5, m5, rfl, hf5, hr5⟩
        generalize joinV stAnd a b = V at *
        obtain ⟨A5, n5, c5, B5, p5, d5, rfl, rfl⟩ := au_slices hr5
        clear xa0 xa1 xa2 xb0 xb1 xb2 hla hlb
        obtain ⟨xa0, xa1, xa2⟩ := (HYA.out.frm hf5).cells
        have hla := (HYA.out.frm hf5).lt
        obtain ⟨xb0, xb1, xb2⟩ := (HYB.out.frm hf5).cells
        have hlb := (HYB.out.frm hf5).lt
        have x7 := ThreeAt.new w5 (.slice A5 n5 c5) (.int .i64 V.start) (.slice B5 p5 d5) 25
        have hm5 : WR AuR (Fresh wc w5) (w5.alloc (.cells #[.slice A5 n5 c5, .int .i64 V.start, .slice B5 p5 d5] 25)) V [.slice A5 n5 c5, .int .i64 V.start, .slice B5 p5 d5] :=
          moves_WR moves_au _ _ _ _ _ _ (fun b hb => hb) (fun b hb => Below.heap_alloc _ _ _ hb.2) hr5
        have HT5 := Lib.hid (turn_calls V (Fresh wc w5) (w5.alloc (.cells #[.slice A5 n5 c5, .int .i64 V.start, .slice B5 p5 d5] 25)) (fun b hb => by have := hb.2; simp; omega) _ _ hm5)
        have HF5 : Hid (wc.grownBy (w5.alloc (.cells #[.slice A5 n5 c5, .int .i64 V.start, .slice B5 p5 d5] 25)) none) := frm_then_alloc hf5 _
        have HX7 := Lib.hid x7
        have hz5 := hf5.size
        clear hr5 hm5 x7 hf5
        go_wp2_with fail
        refine HT5.out.mono ?_
        rintro e w6 ⟨rfl, hsp⟩
        have hF6 := spared_frm HF5.out (Nat.le_refl _) hsp
        have x6 := HX7.out.move (hsp.block _ HX7.out.lt (fun hh => by have := hh.2; omega))
        clear hsp
        clear xa0 xa1 xa2 xb0 xb1 xb2 hla hlb
        obtain ⟨g7, hg7⟩ : ∃ g7, g7 = w5.heap.size := ⟨_, rfl⟩
        rw [← hg7] at x6 hz5 ⊢
        clear hg7 HT5 HF5 HX7
        obtain ⟨xa0, xa1, xa2⟩ := (HYA.out.frm hF6).cells
        have hla := (HYA.out.frm hF6).lt
        obtain ⟨xb0, xb1, xb2⟩ := (HYB.out.frm hF6).cells
        have hlb := (HYB.out.frm hF6).lt
        have hl7 := x6.lt
        dsimp only
        go_wp2_with fail
        refine (HCOr.out _ hF6).mono ?_
        rintro e w7 ⟨r5, m5, rfl, hf7, hr7⟩
        generalize joinV stOr a b = V7 at *
        obtain ⟨A7, n7, c7, B7, p7, d7, rfl, rfl⟩ := au_slices hr7
        clear xa0 xa1 xa2 xb0 xb1 xb2 hla hlb
        obtain ⟨xa0, xa1, xa2⟩ := (HYA.out.frm (frm_trans hF6 hf7)).cells
        have hla := (HYA.out.frm (frm_trans hF6 hf7)).lt
        obtain ⟨xb0, xb1, xb2⟩ := (HYB.out.frm (frm_trans hF6 hf7)).cells
        have hlb := (HYB.out.frm (frm_trans hF6 hf7)).lt
        have y7 := x6.frm hf7
        obtain ⟨z0, z1, z2⟩ := y7.cells
        have zf0 := y7.free 0
        have zf1 := y7.free 1
        have zf2 := y7.free 2
        have zl := y7.lt
        have HH7 := Lib.hid (stage hz5 hl7 hF6 hf7 hr7 y7)
        have HF7 := Lib.hid hf7
        clear hr7 hf7 y7 x6
        go_wp2_with fail
        refine HH7.out.mono ?_
        rintro e w8 ⟨rfl, hw8, xw8⟩
        clear z0 z1 z2 zf0 zf1 zf2 zl HH7 HF7 hl7
        clear xa0 xa1 xa2 xb0 xb1 xb2 hla hlb
        obtain ⟨xa0, xa1, xa2⟩ := (HYA.out.frm hw8).cells
        have hla := (HYA.out.frm hw8).lt
        obtain ⟨xb0, xb1, xb2⟩ := (HYB.out.frm hw8).cells
        have hlb := (HYB.out.frm hw8).lt
        have hl9 := xw8.lt
        dsimp only
        go_wp2_with fail
        refine (HCReach.out _ hw8).mono ?_
        rintro e w9 ⟨r5, m5, rfl, hf9, hr9⟩
        generalize reachV a = V9 at *
        obtain ⟨A9, n9, c9, B9, p9, d9, rfl, rfl⟩ := au_slices hr9
        clear xa0 xa1 xa2 xb0 xb1 xb2 hla hlb
        obtain ⟨xa0, xa1, xa2⟩ := (HYA.out.frm (frm_trans hw8 hf9)).cells
        have hla := (HYA.out.frm (frm_trans hw8 hf9)).lt
        obtain ⟨xb0, xb1, xb2⟩ := (HYB.out.frm (frm_trans hw8 hf9)).cells
        have hlb := (HYB.out.frm (frm_trans hw8 hf9)).lt
        have y9 := xw8.frm hf9
        obtain ⟨z0, z1, z2⟩ := y9.cells
        have zf0 := y9.free 0
        have zf1 := y9.free 1
        have zf2 := y9.free 2
        have zl := y9.lt
        have HH9 := Lib.hid (stage hz5 hl9 hw8 hf9 hr9 y9)
        have HF9 := Lib.hid hf9
        clear hr9 hf9 y9 xw8
        go_wp2_with fail
        refine HH9.out.mono ?_
        rintro e w10 ⟨rfl, hw10, xw10⟩
        clear z0 z1 z2 zf0 zf1 zf2 zl HH9 HF9 hl9
        clear xa0 xa1 xa2 xb0 xb1 xb2 hla hlb
        obtain ⟨xa0, xa1, xa2⟩ := (HYA.out.frm hw10).cells
        have hla := (HYA.out.frm hw10).lt
        obtain ⟨xb0, xb1, xb2⟩ := (HYB.out.frm hw10).cells
        have hlb := (HYB.out.frm hw10).lt
        have hl11 := xw10.lt
        dsimp only
        go_wp2_with fail
        refine (HCPlain.out _ hw10).mono ?_
        rintro e w11 ⟨r5, m5, rfl, hf11, hr11⟩
        generalize plainV a = V11 at *
        obtain ⟨A11, n11, c11, B11, p11, d11, rfl, rfl⟩ := au_slices hr11
        clear xa0 xa1 xa2 xb0 xb1 xb2 hla hlb
        obtain ⟨xa0, xa1, xa2⟩ := (HYA.out.frm (frm_trans hw10 hf11)).cells
        have hla := (HYA.out.frm (frm_trans hw10 hf11)).lt
        obtain ⟨xb0, xb1, xb2⟩ := (HYB.out.frm (frm_trans hw10 hf11)).cells
        have hlb := (HYB.out.frm (frm_trans hw10 hf11)).lt
        have y11 := xw10.frm hf11
        obtain ⟨z0, z1, z2⟩ := y11.cells
        have zf0 := y11.free 0
        have zf1 := y11.free 1
        have zf2 := y11.free 2
        have zl := y11.lt
        have HH11 := Lib.hid (stage hz5 hl11 hw10 hf11 hr11 y11)
        have HF11 := Lib.hid hf11
        clear hr11 hf11 y11 xw10
        go_wp2_with fail
        refine HH11.out.mono ?_
        rintro e w12 ⟨rfl, hw12, xw12⟩
        clear z0 z1 z2 zf0 zf1 zf2 zl HH11 HF11 hl11
        clear xa0 xa1 xa2 xb0 xb1 xb2 hla hlb
        obtain ⟨xa0, xa1, xa2⟩ := (HYA.out.frm hw12).cells
        have hla := (HYA.out.frm hw12).lt
        obtain ⟨xb0, xb1, xb2⟩ := (HYB.out.frm hw12).cells
        have hlb := (HYB.out.frm hw12).lt
        have hl13 := xw12.lt
        dsimp only
        go_wp2_with fail
        refine (HCMerge.out _ hw12).mono ?_
        rintro e w13 ⟨r5, m5, rfl, hf13, hr13⟩
        generalize mergeV a = V13 at *
        obtain ⟨A13, n13, c13, B13, p13, d13, rfl, rfl⟩ := au_slices hr13
        clear xa0 xa1 xa2 xb0 xb1 xb2 hla hlb
        obtain ⟨xa0, xa1, xa2⟩ := (HYA.out.frm (frm_trans hw12 hf13)).cells
        have hla := (HYA.out.frm (frm_trans hw12 hf13)).lt
        obtain ⟨xb0, xb1, xb2⟩ := (HYB.out.frm (frm_trans hw12 hf13)).cells
        have hlb := (HYB.out.frm (frm_trans hw12 hf13)).lt
        have y13 := xw12.frm hf13
        obtain ⟨z0, z1, z2⟩ := y13.cells
        have zf0 := y13.free 0
        have zf1 := y13.free 1
        have zf2 := y13.free 2
        have zl := y13.lt
        have HH13 := Lib.hid (stage hz5 hl13 hw12 hf13 hr13 y13)
        have HF13 := Lib.hid hf13
        clear hr13 hf13 y13 xw12
        go_wp2_with fail
        refine HH13.out.mono ?_
        rintro e w14 ⟨rfl, hw14, xw14⟩
        clear z0 z1 z2 zf0 zf1 zf2 zl HH13 HF13 hl13
        clear xa0 xa1 xa2 xb0 xb1 xb2 hla hlb
        obtain ⟨xa0, xa1, xa2⟩ := (HYA.out.frm hw14).cells
        have hla := (HYA.out.frm hw14).lt
        obtain ⟨xb0, xb1, xb2⟩ := (HYB.out.frm hw14).cells
        have hlb := (HYB.out.frm hw14).lt
        obtain ⟨sx0, sx1, sx2⟩ := (HTX.out.frm hw14).cells
        have hlx := (HTX.out.frm hw14).lt
        obtain ⟨sy0, sy1, sy2⟩ := (HTY.out.frm hw14).cells
        have hly := (HTY.out.frm hw14).lt
        dsimp only
        go_wp2_with fail
        refine (HSA.out _ hw14).mono ?_
        rintro e wp ⟨rfl, hfp⟩
        have hFp := frm_trans hw14 hfp.1
        clear xa0 xa1 xa2 xb0 xb1 xb2 hla hlb sx0 sx1 sx2 sy0 sy1 sy2 hlx hly
        obtain ⟨xa0, xa1, xa2⟩ := (HYA.out.frm hFp).cells
        have hla := (HYA.out.frm hFp).lt
        obtain ⟨xb0, xb1, xb2⟩ := (HYB.out.frm hFp).cells
        have hlb := (HYB.out.frm hFp).lt
        obtain ⟨sy0, sy1, sy2⟩ := (HTY.out.frm hFp).cells
        have hly := (HTY.out.frm hFp).lt
        dsimp only
        go_wp2_with fail
        refine (HSB.out _ hFp).mono ?_
        rintro e wq ⟨rfl, hfq⟩
        have hFq := frm_trans hFp hfq.1
        dsimp only
        go_wp2_with fail
        refine (alive_calls _ (HTW.out _ hFq)).mono ?_
        rintro e wz ⟨rfl, hfz⟩
        dsimp only
        go_wp2_with fail
        exact bodyPost_ret (results_tmp rfl _ _ _) rfl ⟨rfl, frm_trans HGW.out.1 (frm_trans hFq hfz.1)⟩
end Go.Proofs.YtjpdmncafacmaaaGreatDoor
end
/- MixOwn: the law's walk lifted to its row, and the tied card. -/
section
set_option linter.unusedVariables false
set_option linter.unusedSimpArgs false
namespace Go.Proofs.YtjpdmncafacmaaaGreatDoor.mixOwn
open Go.ChangeShapes Go.WideShapes Go.ChangeAt Go.RowKit
open Go.ChangeMaps (open_string shut_string)
theorem own : ownKnob Tryz.prog.godebug = none := by kernel_rfl
theorem laidOut : laidOutB Tryz.prog = true := by kernel_rfl
theorem gTab : Tryz.prog.globalNamed "math/bits.deBruijn64tab" = some 1 := by kernel_rfl
theorem gTabType : (Tryz.prog.globals[1]?).map (·.type) = some 179 := by kernel_rfl
theorem cellsTab : Tryz.prog.cellsOf 179 = 64 := by kernel_rfl
theorem cellsU8 : Tryz.prog.cellsOf 5 = 1 := by kernel_rfl
theorem table {W : World} (h : laidMetH Tryz.prog Rows.mixOwnRow.laid W) : Tab W :=
  tab_of (Lib.tabIs_of_head (rest := _) gTab gTabType Tryz.underlying179 Tryz.underlying5 cellsU8 cellsTab (laidMet.tail h))
set_option maxRecDepth 100000 in
theorem contract (H : Type) (enc : TypeId × Value → H) (W : World) (base : Nat) (args : Array Value) (ds gs : List (DataW H)) (before : List MemPlace)
    (hval0 : ∀ (j : Nat) t v, Tryz.f6.params[j]? = some t → args[j]? = some v → Value.okWide Tryz.prog W .any base t v)
    (hW : DataW.Whole enc Tryz.prog Tryz.f6.params.toList Rows.mixOwnSpec.vars false W args.toList ds gs before) (hL : laidMetH Tryz.prog Rows.mixOwnRow.laid W)
    (hsz0 : (DataW.weightsEach Tryz.prog (Tryz.f6.params.toList ++ Rows.mixOwnSpec.plain.varTypes Tryz.prog) (ds ++ gs)).all (· ≤ reachBytes) = true) :
    Calls Tryz.prog 6 args W fun e W' => ∃ v, e = .returned v ∧ Rows.mixOwnSpec.post enc Tryz.prog Tryz.f6 false true false false W args v W' := by
  have hsz : (DataW.weightsEach Tryz.prog (Tryz.f6.params.toList ++ Rows.mixOwnSpec.plain.varTypes Tryz.prog) (ds ++ gs)).all (· ≤ reachBytes) = true := hsz0
  have hval : ∀ (j : Nat) t v, Tryz.f6.params[j]? = some t → args[j]? = some v → Value.okWide Tryz.prog W .any base t v := hval0
  have hW' := hW
  obtain ⟨p, q, hA0, hV, rfl, hfz, hnd⟩ := hW
  have hA : DataW.TrodAll enc Tryz.prog W 0 (fun _ => true) true Tryz.f6.params.toList args.toList ds p := hA0
  rw [Tryz.params6] at hA hval hsz
  obtain ⟨a0, vs0, d0, ds0, p0, q0, hargs, rfl, rfl, h0, r0⟩ := trodAll_cons hA
  obtain ⟨a1, vs1, d1, ds1, p1, q1, rfl, rfl, rfl, h1, r1⟩ := trodAll_cons r0
  obtain ⟨rfl, rfl, rfl⟩ := trodAll_nil r1
  obtain rfl : args = #[a0, a1] := by cases args; simp_all
  obtain ⟨rfl, rfl⟩ := trodVars_none hV
  have k0 := h0
  have lt0 : ∀ x ∈ p0, x.block < W.heap.size := by obtain ⟨m, hm⟩ := k0; exact DataW.trod_lt m _ _ _ hm
  have o0 := arg_au (hval 0 25 a0 rfl rfl) h0 (fun n hn => by simpa using List.all_eq_true.1 hsz _ (DataW.weights_mem_each (j := 0) (t := 25) rfl rfl n hn))
  obtain ⟨t0, v0, u0, rfl, x0⟩ := o0
  have k1 := h1
  have lt1 : ∀ x ∈ p1, x.block < W.heap.size := by obtain ⟨m, hm⟩ := k1; exact DataW.trod_lt m _ _ _ hm
  have o1 := arg_au (hval 1 25 a1 rfl rfl) h1 (fun n hn => by simpa using List.all_eq_true.1 hsz _ (DataW.weights_mem_each (j := 1) (t := 25) rfl rfl n hn))
  obtain ⟨t1, v1, u1, rfl, x1⟩ := o1
  have htab := table hL
  clear hA0 hval0 hsz0
  refine (lown_calls t0 t1 W htab v0 u0 v1 u1 x0 x1).mono fun e W' ⟨he, hf⟩ => ?_
  have bel : Below W.heap.size W W' := ⟨hf.os, hf.tape, hf.output, hf.size, fun k hk => hf.block k hk (by simp)⟩
  subst he
  exact ⟨_, rfl, _, _, _, [], _, [], hW', trodAll_mk1 (shut_bool Tryz.underlying4 _), (trodAll_cons_mk (Below.trod laidOut (by kernel_rfl) (of_decide_eq_true (by kernel_rfl)) k0 bel lt0) (trodAll_cons_mk (Below.trod laidOut (by kernel_rfl) (of_decide_eq_true (by kernel_rfl)) k1 bel lt1) trodAll_mk0)), rfl, bel.frame _, fun h => by cases h⟩

/-- The three listed variables, laid. -/
def laidHeap3 (h : Array Obj) : Array Obj :=
  (laidHeap h).modify 2 (fun | .cells _ t frozen => .cells #[.int .u64 1, .int .u64 10, .int .u64 100, .int .u64 1000, .int .u64 10000, .int .u64 100000, .int .u64 1000000, .int .u64 10000000, .int .u64 100000000, .int .u64 1000000000, .int .u64 10000000000, .int .u64 100000000000, .int .u64 1000000000000, .int .u64 10000000000000, .int .u64 100000000000000, .int .u64 1000000000000000, .int .u64 10000000000000000, .int .u64 100000000000000000, .int .u64 1000000000000000000, .int .u64 10000000000000000000] t frozen | o => o)
/-- A world for the witness: the listed variables hold what their initialisers lay. -/
noncomputable def laidWorld (os : Os) : World :=
  { World.holding Tryz.prog os ⟨#[], #[], []⟩ with heap := laidHeap3 (World.holding Tryz.prog os ⟨#[], #[], []⟩).heap }
theorem laid_met (os : Os) : laidMet Tryz.prog Rows.mixOwnRow.laid ((laidWorld os).forCall (fun _ _ => 0) ⟨#[], #[.agg #[.slice none 0 0, .int .i64 0, .slice none 0 0], .agg #[.slice none 0 0, .int .i64 0, .slice none 0 0]], []⟩).memory :=
  laidMet_of_run' 64 (by kernel_rfl) (by kernel_rfl)
theorem reads (os : Os) {H : Type} (enc : TypeId × Value → H) : ∃ places, DataW.whole enc Tryz.prog ((laidWorld os).forCall (fun _ _ => 0) ⟨#[], #[.agg #[.slice none 0 0, .int .i64 0, .slice none 0 0], .agg #[.slice none 0 0, .int .i64 0, .slice none 0 0]], []⟩).memory Tryz.f6.params.toList Rows.mixOwnSpec.vars false #[(.agg #[.slice none 0 0, .int .i64 0, .slice none 0 0] : Value), (.agg #[.slice none 0 0, .int .i64 0, .slice none 0 0] : Value)].toList 64 = some ([.agg [.nil, .lit (.int .i64 0), .nil], .agg [.nil, .lit (.int .i64 0), .nil]], [], places) :=
  ⟨[], by kernel_rfl⟩
set_option maxRecDepth 100000 in
theorem lifted (os : Os) (started : os.Started) (H : Type) (enc : TypeId × Value → H) (F : Stop.Interp) :
    ReturnsInHanded {} Tryz.checked os 6 .any ((OpenSpec.ofChange Rows.mixOwnSpec).preRow enc Tryz.prog Tryz.f6 Rows.mixOwnRow.domain false Rows.mixOwnRow.laid) (((OpenSpec.ofChange Rows.mixOwnSpec).at F).post enc Tryz.prog Tryz.f6 false true false false) := by
  obtain ⟨places, hx⟩ := reads os enc
  refine returnsInHanded_of_row (C := Tryz.checked) (s := OpenSpec.ofChange Rows.mixOwnSpec) own started (by kernel_rfl) Tryz.func6
    (witness_row_at (enc := enc) (C := Tryz.checked) false (laidWorld os) #[.agg #[.slice none 0 0, .int .i64 0, .slice none 0 0], .agg #[.slice none 0 0, .int .i64 0, .slice none 0 0]] rfl (by kernel_rfl) (by kernel_rfl) (by kernel_rfl)
      (OpenSpec.preRow_of_cond 64 hx (by kernel_rfl) (fun k hk => by cases hk) (by kernel_rfl) (laid_met os))) ?_
  intro W base args ds gs before hval hW _ _ hsz hL _ _
  exact contract H enc W base args ds gs before hval hW hL hsz
theorem said : Rows.MixOwnSaid :=
  OpenClaim.holds_of_cond 6 Tryz.f6 rfl rfl rfl rfl rfl rfl rfl ⟨rfl, rfl, rfl, rfl, rfl⟩ rfl rfl rfl rfl rfl (by kernel_rfl) Tryz.func6 (by kernel_rfl)
    (of_decide_eq_true (by kernel_rfl)) (by unfold Func.isWrapper; first | (rw [if_pos (by decide +kernel)]; kernel_rfl) | (rw [if_neg (by decide +kernel)]; exact ⟨rfl, rfl⟩))
    (fun os started H enc _ F => by rw [OpenClaim.pre_eq_preRow]; exact lifted os started H enc F)
set_option maxRecDepth 100000 in
theorem plain (f : FuncId) (fn : Func) (hf : Tryz.pinned.checked.prog.funcNamed "virgation/virgationlaw10.MixOwn" = some f) (hfn : Tryz.pinned.checked.prog.funcs[f]? = some fn) :
    false = Tryz.pinned.checked.prog.looks [] ∧ ∀ (j : Nat) t, fn.params[j]? = some t → Tryz.pinned.checked.prog.wantsStandIn t = false := by
  obtain rfl : f = 6 := Option.some.inj ((show Tryz.prog.funcNamed "virgation/virgationlaw10.MixOwn" = some 6 by kernel_rfl).symm.trans hf) |>.symm
  obtain rfl : fn = Tryz.f6 := (Option.some.inj (Tryz.func6.symm.trans hfn)).symm
  refine ⟨by kernel_rfl, fun j t ht => ?_⟩
  rw [Tryz.params6] at ht
  have s0 : Tryz.prog.wantsStandIn 25 = false := by kernel_rfl
  have hm := Array.mem_of_getElem? ht
  simp only [List.mem_toArray, List.mem_cons, List.not_mem_nil, or_false] at hm
  rcases hm with rfl | rfl
  all_goals assumption
theorem card : Rows.MixOwnCardSaid :=
  Claim7.holds_tied_plain_at .later [] _ _ _ _ said (fun _ h => by cases h) (by kernel_rfl) (fun _ h => by cases h) mixOwn_row_tie rfl ⟨rfl, rfl⟩ (by kernel_rfl) rfl plain (by kernel_rfl)
end Go.Proofs.YtjpdmncafacmaaaGreatDoor.mixOwn
namespace Go.Proofs.YtjpdmncafacmaaaGreatDoor
/-- The card, under a short name, for the claim. -/
theorem mixOwn_holds : Rows.MixOwnCardSaid := mixOwn.card
end Go.Proofs.YtjpdmncafacmaaaGreatDoor
end
