/- GrpSome: parts of the walks, one section each: the texts HasW, WholeW, OverW, NodesW, TreeIs, FoundP, RowV, ReachP, AccW, WaysW, LeastW, FoundW, Many, LSome, LawMixSome. -/
import Derived.Test.YtjpdmncafacmaaaGreatDoorGrpHit
import Derived.Test.YtjpdmncafacmaaaGreatDoorGrpA
import Derived.Test.YtjpdmncafacmaaaGreatDoorOwn
import Derived.Test.YtjpdmncafacmaaaGreatDoorMore
import Derived.Test.YtjpdmncafacmaaaGreatDoorSameR
import Derived.Test.YtjpdmncafacmaaaGreatDoorGrpC
import Derived.Test.YtjpdmncafacmaaaGreatDoorClos
import Derived.Test.YtjpdmncafacmaaaGreatDoorRefIs
import Derived.Test.YtjpdmncafacmaaaGreatDoorAuLaw
import Derived.Test.YtjpdmncafacmaaaGreatDoorRefCopy
import Derived.Test.YtjpdmncafacmaaaGreatDoorGrpD
import Derived.Test.YtjpdmncafacmaaaGreatDoorGrpB
import Derived.Test.YtjpdmncafacmaaaGreatDoorCards
import Derived.Test.YtjpdmncafacmaaaGreatDoorTie
import Derived.WalkKit
import Derived.ProofKit
import Derived.OpenShut
import Derived.ShutString
import Derived.ChangeOld
import Derived.Below
import Derived.SizedLaws
import Derived.Carry
import Derived.Deep.DeepHandedRow
import Derived.Deep.CondSized
import Derived.Lib.LaidTab
import Derived.Stop.LaidErr
import Derived.SevenTiedAt
/- The reference's has; a row of truths as it is read. -/
section
set_option linter.unusedVariables false
set_option linter.unusedSimpArgs false
namespace Go.Proofs.YtjpdmncafacmaaaGreatDoor
open Go.RowKit

theorem bit_and1 : ∀ m, m < 64 → ∀ s, s < 6 → (m / 2 ^ s) &&& 1 = if m.testBit s then 1 else 0 := by decide
theorem bit_test1 (met st : Nat) (h : met < 64) (hs : st < 6) : (bits .and .i64 ((met : Int) / 2 ^ st) 1 == 1) = met.testBit st := by
  have h1 := and_i64n (met / 2 ^ st) 1 (Nat.lt_of_le_of_lt (Nat.div_le_self _ _) (by omega)) (by omega)
  rw [show ((met : Int) / 2 ^ st) = ((met / 2 ^ st : Nat) : Int) by rw [Int.natCast_ediv, Int.natCast_pow]; rfl]
  have h2 : bits .and .i64 ((met / 2 ^ st : Nat) : Int) 1 = (((met / 2 ^ st) &&& 1 : Nat) : Int) := h1
  rw [h2, bit_and1 met h st hs]
  cases met.testBit st <;> rfl
set_option maxRecDepth 20000 in
theorem has_calls (s q : Nat) (hs : s < 64) (hq : q < 6) (w : World) :
    Calls Tryz.prog 82 #[.int .i64 s, .int .i64 q] w (RetD w (.bool (s.testBit q))) := by
  have HB := Lib.hid (bit_test1 s q hs hq)
  have hq64 : (q : Int) ≤ 64 := by omega
  go_enter Tryz.func82, Tryz.ntmps82
  go_wp2_with fail
  refine bodyPost_ret (results_tmp rfl _ _ _) rfl ⟨?_, grew_refl _⟩
  rw [← HB.out]
  rfl
/-- A row of truths, as it is read. -/
def BolR : RdS Bool := fun _ _ b cs => cs = [.bool b]
theorem moves_bol : Moves BolR := fun S S' w w' x cs hS hw h => h
theorem BoolsAt.sl {w : World} {g n : Nat} {xs : List Bool} (h : BoolsAt w g xs) (hn : n = xs.length) (hm : xs.length ≤ 1000) : SlO w 1 (rdO BolR) xs (.slice (some ⟨g, 0, none⟩) n n) := by
  subst hn
  refine ⟨_, _, rfl, Nat.le_refl _, by omega, fun _ => ⟨g, 0, rfl, ValsAt.lt h, fun i hi => ⟨[.bool xs[i]], rfl, fun j hj => ?_, rfl⟩⟩⟩
  obtain rfl : j = 0 := by omega
  simpa using h.at hi
end Go.Proofs.YtjpdmncafacmaaaGreatDoor
end
/- The reference's Whole: a tree has no unknown part. -/
section
set_option linter.unusedVariables false
set_option linter.unusedSimpArgs false
namespace Go.Proofs.YtjpdmncafacmaaaGreatDoor
open Go.RowKit

/-- A tree of a depth of at most `d` has no part labelled -1. -/
def wholeTo : Nat → Tr → Bool
  | 0, _ => true
  | d + 1, t => t.kids.all (wholeTo d) && t.label != -1
set_option maxRecDepth 20000 in
set_option maxHeartbeats 1000000 in
theorem whole_calls : ∀ (d : Nat) (t : Tr) (w : World) (v : Value) (ht : rdO (TrD d) w t [.int .i64 t.label, v]),
    Calls Tryz.prog 39 #[.agg #[.int .i64 t.label, v]] w (RetD w (.bool (wholeTo d t))) := by
  intro d
  induction d with
  | zero => intro t w v ht; exact ht.elim
  | succ d ih =>
  intro t w v ht
  obtain ⟨v', hv, hlb, hk⟩ := ht
  simp only [List.cons.injEq, and_true, true_and] at hv
  subst hv
  have hK : SlO w 2 (rdO (TrD d)) t.kids v := hk
  obtain ⟨A, c, rfl, hc, hm⟩ := hK.val
  have HIH := Lib.hid ih
  have hxt := TwoAt.new w (.int .i64 t.label) (.slice A t.kids.length c) 29
  have hf1 : Grew w (w.alloc (.cells #[.int .i64 t.label, .slice A t.kids.length c] 29)) := grew_alloc _ _
  obtain ⟨x0, x1, _, _⟩ := hxt.cells
  have HDP : Hid (wholeTo (d + 1) t = (t.kids.all (wholeTo d) && t.label != -1)) := rfl
  obtain ⟨w1, hw1⟩ : ∃ w1, w1 = w.alloc (.cells #[.int .i64 t.label, .slice A t.kids.length c] 29) := ⟨_, rfl⟩
  rw [← hw1] at hxt hf1
  have HW1 := Lib.hid hw1
  rw [HDP.out]
  clear hk ih HDP hw1
  generalize t.kids = ks at *
  generalize t.label = lb at *
  go_enter Tryz.func39, Tryz.ntmps39
  go_wp2_with fail
  rw [← HW1.out]
  clear x0 x1
  go_loopw [8] (fun i wr => ∃ k : Nat, k ≤ ks.length ∧ i = .int .i64 k ∧ Grew w1 wr ∧ Hid (ks.all (wholeTo d) = (ks.drop k).all (wholeTo d))) (fun i _ => ks.length - (intOf i).toNat)
  case atStart => exact ⟨0, Nat.zero_le _, rfl, grew_refl _, rfl⟩
  case round =>
    obtain ⟨k, hk, rfl, hfr, HC⟩ := hrel
    by_cases hlt : k < ks.length
    · obtain ⟨b, o, p0, p1, rfl, hb, hp0, hp1, hpt⟩ := (hK.frm (grew_trans hf1 hfr).1 (stays_rd (moves_tr d))).at2 k hlt
      have HT : Hid ((ks.drop k).all (wholeTo d) = (wholeTo d ks[k] && (ks.drop (k + 1)).all (wholeTo d))) := by
        unfold Hid
        rw [List.drop_eq_getElem_cons hlt, List.all_cons]
      generalize ks[k] = y at *
      obtain ⟨rfl, A1, n1, c1, rfl⟩ : p0 = .int .i64 y.label ∧ ∃ A1 n1 c1, p1 = .slice A1 n1 c1 := by
        cases d with
        | zero => exact hpt.elim
        | succ d =>
          obtain ⟨u, h, _, hsl⟩ := hpt
          simp only [List.cons.injEq, and_true] at h
          obtain ⟨h1, rfl⟩ := h
          obtain ⟨A1, c1, h2, _⟩ := hsl.val
          exact ⟨h1, _, _, _, h2⟩
      have hC := Lib.hid (HIH.out y (wr.alloc (.cells #[.int .i64 y.label, .slice A1 n1 c1] 29)) _ (rdO_frm (moves_tr d) (frm_alloc _ _) hpt))
      clear hpt
      generalize hwd : wholeTo d y = dy at *
      clear hwd
      generalize y.label = ly at *
      go_wp2_with fail
      refine hC.out.mono ?_
      rintro e w2 ⟨rfl, hf2⟩
      have hG := grew_trans (grew_then_alloc hfr (.cells #[.int .i64 ly, .slice A1 n1 c1] 29)) hf2
      dsimp only
      cases dy with
      | false =>
        have HD : Hid ((ks.all (wholeTo d) && lb != -1) = false) := by unfold Hid; rw [HC.out, HT.out]; rfl
        go_wp2_with fail
        exact bodyPost_ret (results_tmp rfl _ _ _) rfl ⟨by rw [HD.out]; rfl, grew_trans hf1 hG⟩
      | true =>
        have HD : Hid (ks.all (wholeTo d) = (ks.drop (k + 1)).all (wholeTo d)) := by unfold Hid; rw [HC.out, HT.out]; rfl
        go_wp2_with fail
        exact ⟨⟨k + 1, by omega, by go_num, hG, HD.out⟩, by simp [intOf]; omega⟩
    · obtain rfl : k = ks.length := by omega
      have HD : Hid ((ks.all (wholeTo d) && lb != -1) = (lb != -1)) := by
        unfold Hid
        rw [HC.out, List.drop_eq_nil_of_le (by omega)]
        simp
      obtain ⟨y0, y1, _, _⟩ := (hxt.frm hfr.1).cells
      go_wp2_with fail
      exact bodyPost_ret (results_tmp rfl _ _ _) rfl ⟨by rw [HD.out]; rfl, grew_trans hf1 hfr⟩
end Go.Proofs.YtjpdmncafacmaaaGreatDoor
end
/- The reference's over: a tree fits the ranks. -/
section
set_option linter.unusedVariables false
set_option linter.unusedSimpArgs false
namespace Go.Proofs.YtjpdmncafacmaaaGreatDoor
open Go.RowKit

/-- Each part has a symbol's label, and as many kids as that asks. -/
def fitsTo (ranks : List Int) : Nat → Tr → Prop
  | 0, _ => True
  | d + 1, t => (0 ≤ t.label ∧ t.label < ranks.length ∧ ranks.getD t.label.toNat 0 = t.kids.length) ∧ ∀ y ∈ t.kids, fitsTo ranks d y
set_option maxRecDepth 20000 in
set_option maxHeartbeats 1000000 in
theorem over_calls (ranks : List Int) : ∀ (d : Nat) (t : Tr) (w : World) (v u : Value) (ht : rdO (TrD d) w t [.int .i64 t.label, v]), SlO w 1 (rdO IntR) ranks u → fitsTo ranks d t →
    Calls Tryz.prog 65 #[u, .agg #[.int .i64 t.label, v]] w (RetD w (.bool true)) := by
  intro d
  induction d with
  | zero => intro t w v u ht; exact ht.elim
  | succ d ih =>
  intro t w v u ht hu hfits
  obtain ⟨v', hv, hlb, hk⟩ := ht
  simp only [List.cons.injEq, and_true, true_and] at hv
  subst hv
  have hK : SlO w 2 (rdO (TrD d)) t.kids v := hk
  obtain ⟨A, c, rfl, hc, hm⟩ := hK.val
  obtain ⟨B, c', rfl, hc', hm'⟩ := hu.val
  obtain ⟨⟨h0, h1, h2⟩, h3⟩ := hfits
  have HIH := Lib.hid ih
  have HF := Lib.hid h3
  have hxt := TwoAt.new w (.int .i64 t.label) (.slice A t.kids.length c) 29
  have hf1 : Grew w (w.alloc (.cells #[.int .i64 t.label, .slice A t.kids.length c] 29)) := grew_alloc _ _
  have hln : t.label.toNat < ranks.length := by omega
  obtain ⟨b, o, p0, rfl, hb, hp0, hpt⟩ := (hu.frm hf1.1 (stays_rd moves_int)).at1 t.label.toNat hln
  obtain ⟨hpv, _⟩ := hpt
  simp only [List.cons.injEq, and_true] at hpv
  rw [show ranks[t.label.toNat] = (t.kids.length : Int) by rw [← h2]; simp [hln]] at hpv
  subst hpv
  obtain ⟨x0, x1, _, _⟩ := hxt.cells
  obtain ⟨w1, hw1⟩ : ∃ w1, w1 = w.alloc (.cells #[.int .i64 t.label, .slice A t.kids.length c] 29) := ⟨_, rfl⟩
  rw [← hw1] at hxt hf1 hp0 x0 x1
  have HW1 := Lib.hid hw1
  clear hk ih h2 h3 hw1
  generalize t.kids = ks at *
  generalize t.label = lb at *
  have g1 : decide (lb < -1) = false := by simp; omega
  have g2 : decide (lb ≥ (ranks.length : Int)) = false := by simp; omega
  have g3 : (lb == -1) = false := by simp; omega
  have g4 : decide (lb ≥ 0) = true := by simp; omega
  have g5 : ((ks.length : Int) != (ks.length : Int)) = false := by simp
  have HU := Lib.hid hu
  clear hu
  go_enter Tryz.func65, Tryz.ntmps65
  go_wp2_with fail
  rw [← HW1.out]
  go_quiet (fail)
  have hG1 : Grew w1 (w1.drewN nq) := ⟨frm_drewN _ nq, Nat.le_add_right _ _⟩
  clear x0 x1
  obtain ⟨x0, x1, _, _⟩ := (hxt.frm hG1.1).cells
  go_wp2_with fail
  generalize w1.drewN nq = w2 at *
  have hf2 := grew_trans hf1 hG1
  go_loopw [47] (fun i wr => ∃ k : Nat, k ≤ ks.length ∧ i = .int .i64 k ∧ Grew w2 wr) (fun i _ => ks.length - (intOf i).toNat)
  case atStart => exact ⟨0, Nat.zero_le _, rfl, grew_refl _⟩
  case round =>
    obtain ⟨k, hk, rfl, hfr⟩ := hrel
    by_cases hlt : k < ks.length
    · have hfw := grew_trans hf2 hfr
      obtain ⟨b9, o9, p0, p1, rfl, hb9, hp0, hp1, hpt⟩ := (hK.frm hfw.1 (stays_rd (moves_tr d))).at2 k hlt
      have hfy := HF.out _ (List.getElem_mem hlt)
      generalize ks[k] = y at *
      obtain ⟨rfl, A1, n1, c1, rfl⟩ : p0 = .int .i64 y.label ∧ ∃ A1 n1 c1, p1 = .slice A1 n1 c1 := by
        cases d with
        | zero => exact hpt.elim
        | succ d =>
          obtain ⟨u, h, _, hsl⟩ := hpt
          simp only [List.cons.injEq, and_true] at h
          obtain ⟨h1, rfl⟩ := h
          obtain ⟨A1, c1, h2, _⟩ := hsl.val
          exact ⟨h1, _, _, _, h2⟩
      have hC := Lib.hid (HIH.out y (wr.alloc (.cells #[.int .i64 y.label, .slice A1 n1 c1] 29)) _ _ (rdO_frm (moves_tr d) (frm_alloc _ _) hpt) (HU.out.frm (grew_then_alloc hfw _).1 (stays_rd moves_int)) hfy)
      clear hpt hfy
      generalize y.label = ly at *
      go_wp2_with fail
      refine hC.out.mono ?_
      rintro e w3 ⟨rfl, hf3⟩
      dsimp only
      go_wp2_with fail
      exact ⟨⟨k + 1, by omega, by go_num, grew_trans (grew_then_alloc hfr _) hf3⟩, by simp [intOf]; omega⟩
    · go_wp2_with fail
      exact bodyPost_ret (results_tmp rfl _ _ _) rfl ⟨rfl, grew_trans hf2 hfr⟩
end Go.Proofs.YtjpdmncafacmaaaGreatDoor
end
/- The reference's Nodes of a tree that has no more than are counted. -/
section
set_option linter.unusedVariables false
set_option linter.unusedSimpArgs false
namespace Go.Proofs.YtjpdmncafacmaaaGreatDoor
open Go.RowKit

set_option maxRecDepth 20000 in
set_option maxHeartbeats 1000000 in
theorem nodesT_calls : ∀ (d : Nat) (t : Tr) (mx : Nat) (w : World) (v : Value) (ht : rdO (TrD d) w t [.int .i64 t.label, v]), sizeTo d t ≤ mx → mx ≤ 1000000 →
    Calls Tryz.prog 64 #[.agg #[.int .i64 t.label, v], .int .i64 mx] w (RetD w (.int .i64 (sizeTo d t))) := by
  intro d
  induction d with
  | zero => intro t mx w v ht; exact ht.elim
  | succ d ih =>
  intro t mx w v ht hfit hmx
  obtain ⟨v', hv, hlb, hk⟩ := ht
  simp only [List.cons.injEq, and_true, true_and] at hv
  subst hv
  have hK : SlO w 2 (rdO (TrD d)) t.kids v := hk
  obtain ⟨A, c, rfl, hc, hm⟩ := hK.val
  have HIH := Lib.hid ih
  have hxt := TwoAt.new w (.int .i64 t.label) (.slice A t.kids.length c) 29
  have hf1 : Grew w (w.alloc (.cells #[.int .i64 t.label, .slice A t.kids.length c] 29)) := grew_alloc _ _
  obtain ⟨x0, x1, _, _⟩ := hxt.cells
  have hsz : sizeTo (d + 1) t = (t.kids.map (sizeTo d)).sum + 1 := rfl
  obtain ⟨w1, hw1⟩ : ∃ w1, w1 = w.alloc (.cells #[.int .i64 t.label, .slice A t.kids.length c] 29) := ⟨_, rfl⟩
  rw [← hw1] at hxt hf1
  have HW1 := Lib.hid hw1
  rw [hsz] at hfit ⊢
  clear hk ih hsz hw1
  generalize t.kids = ks at *
  generalize t.label = lb at *
  have HFIT := Lib.hid hfit
  clear hfit
  go_enter Tryz.func64, Tryz.ntmps64
  go_wp2_with fail
  rw [← HW1.out]
  clear x0 x1
  go_loopw [5, 6] (fun z i wr => ∃ (k n : Nat), k ≤ ks.length ∧ i = .int .i64 k ∧ z = .int .i64 n ∧ Hid (n = ((ks.take k).map (sizeTo d)).sum + 1) ∧ n ≤ mx ∧ Grew w1 wr) (fun _ i _ => ks.length - (intOf i).toNat)
  case atStart => exact ⟨0, 1, Nat.zero_le _, rfl, rfl, rfl, by have := HFIT.out; omega, grew_refl _⟩
  case round =>
    obtain ⟨k, n, hk, rfl, rfl, HN, hn, hfr⟩ := hrel
    obtain ⟨x0, x1, _, _⟩ := (hxt.frm hfr.1).cells
    have hlx := (hxt.frm hfr.1).lt
    by_cases hlt : k < ks.length
    · obtain ⟨b, o, p0, p1, rfl, hb, hp0, hp1, hpt⟩ := (hK.frm (grew_trans hf1 hfr).1 (stays_rd (moves_tr d))).at2 k hlt
      have HS : Hid (((ks.take (k + 1)).map (sizeTo d)).sum + 1 = n + sizeTo d ks[k]) := by
        unfold Hid
        rw [List.take_succ_eq_append_getElem hlt, List.map_append, List.sum_append, HN.out]
        simp
        omega
      have hfit2 : n + sizeTo d ks[k] ≤ mx := by
        have h9 : (ks.map (sizeTo d)).sum = ((ks.take (k + 1)).map (sizeTo d)).sum + ((ks.drop (k + 1)).map (sizeTo d)).sum := by rw [← List.sum_append, ← List.map_append, List.take_append_drop]
        have h8 := HS.out
        have h7 := HFIT.out
        omega
      generalize ks[k] = y at *
      obtain ⟨rfl, A1, n1, c1, rfl⟩ : p0 = .int .i64 y.label ∧ ∃ A1 n1 c1, p1 = .slice A1 n1 c1 := by
        cases d with
        | zero => exact hpt.elim
        | succ d =>
          obtain ⟨u, h, _, hsl⟩ := hpt
          simp only [List.cons.injEq, and_true] at h
          obtain ⟨h1, rfl⟩ := h
          obtain ⟨A1, c1, h2, _⟩ := hsl.val
          exact ⟨h1, _, _, _, h2⟩
      have hC := Lib.hid (HIH.out y (mx - n) wr _ hpt (by omega) (by omega))
      have hsub : ((mx - n : Nat) : Int) = (mx : Int) - n := by omega
      rw [hsub] at hC
      clear hpt hsub
      generalize hsd : sizeTo d y = sd at *
      clear hsd
      generalize y.label = ly at *
      have hnm : (n : Int) ≤ mx := by omega
      go_wp2_with fail
      refine hC.out.mono ?_
      rintro e w2 ⟨rfl, hf2⟩
      dsimp only
      go_wp2_with fail
      exact ⟨⟨k + 1, n + sd, by omega, by go_num, by go_num, by unfold Hid; rw [HS.out], hfit2, grew_trans hfr hf2⟩, by simp [intOf]; omega⟩
    · obtain rfl : k = ks.length := by omega
      have HD : Hid ((ks.map (sizeTo d)).sum + 1 = n) := by
        unfold Hid
        have h := HN.out
        rw [List.take_length] at h
        exact h.symm
      go_wp2_with fail
      exact bodyPost_ret (results_tmp rfl _ _ _) rfl ⟨by rw [HD.out]; rfl, grew_trans hf1 hfr⟩
end Go.Proofs.YtjpdmncafacmaaaGreatDoor
end
/- The reference's Is of trees: true of a tree that fits. -/
section
set_option linter.unusedVariables false
set_option linter.unusedSimpArgs false
namespace Go.Proofs.YtjpdmncafacmaaaGreatDoor
open Go.RowKit

set_option maxRecDepth 20000 in
set_option maxHeartbeats 1000000 in
theorem treeIs_calls (ranks : List Int) (d : Nat) (hd : d ≤ 1000000000) (t : Tr) (w : World) (v u : Value) (ht : rdO (TrD d) w t [.int .i64 t.label, v]) (hu : SlO w 1 (rdO IntR) ranks u)
    (hf : fitsTo ranks d t) (hs : sizeTo d t ≤ 20000) (hdp : depthTo d t ≤ 200) :
    Calls Tryz.prog 27 #[u, .agg #[.int .i64 t.label, v]] w (RetD w (.bool true)) := by
  obtain ⟨A, n, c, rfl⟩ : ∃ A n c, v = .slice A n c := by
    cases d with
    | zero => exact ht.elim
    | succ d =>
      obtain ⟨u', h, _, hsl⟩ := ht
      simp only [List.cons.injEq, and_true, true_and] at h
      subst h
      obtain ⟨A1, c1, h2, _⟩ := hsl.val
      exact ⟨_, _, _, h2⟩
  obtain ⟨B, c', rfl, _⟩ := hu.val
  have hf1 : Grew w (w.alloc (.cells #[.int .i64 t.label, .slice A n c] 29)) := grew_alloc _ _
  have hxt := TwoAt.new w (.int .i64 t.label) (.slice A n c) 29
  obtain ⟨w1, hw1⟩ : ∃ w1, w1 = w.alloc (.cells #[.int .i64 t.label, .slice A n c] 29) := ⟨_, rfl⟩
  rw [← hw1] at hf1 hxt
  have HT := Lib.hid ht
  have HU := Lib.hid hu
  have HF := Lib.hid hf
  have hN := nodesT_calls d t 20000 w1 _ (rdO_frm (moves_tr d) hf1.1 ht) hs (by omega)
  rw [hw1] at hN
  have HN := Lib.hid hN
  have HD : Hid (∀ wx, Grew w wx → Calls Tryz.prog 37 #[.agg #[.int .i64 t.label, .slice A n c]] wx (RetD wx (.int .i64 (depthTo d t)))) := fun wx hx => depth_calls d hd t wx _ (rdO_frm (moves_tr d) hx.1 ht)
  have HO : Hid (∀ wx, Grew w wx → Calls Tryz.prog 65 #[.slice B ranks.length c', .agg #[.int .i64 t.label, .slice A n c]] wx (RetD wx (.bool true))) := fun wx hx => over_calls ranks d t wx _ _ (rdO_frm (moves_tr d) hx.1 ht) (hu.frm hx.1 (stays_rd moves_int)) hf
  have HW1 := Lib.hid hw1
  have xt' := hxt
  rw [hw1] at xt'
  obtain ⟨z0, z1, _, _⟩ := xt'.cells
  clear ht hu hf hN hw1 xt'
  generalize sizeTo d t = sz at *
  generalize depthTo d t = dp at *
  generalize t.label = lb at *
  go_enter Tryz.func27, Tryz.ntmps27
  go_wp2_with fail
  refine HN.out.mono ?_
  rw [← HW1.out]
  rintro e w2 ⟨rfl, hf2⟩
  obtain ⟨x0, x1, _, _⟩ := (hxt.frm hf2.1).cells
  have hlx := (hxt.frm hf2.1).lt
  dsimp only
  go_wp2_with fail
  refine (HD.out _ (grew_trans hf1 hf2)).mono ?_
  rintro e w3 ⟨rfl, hf3⟩
  clear x0 x1
  have hf13 := grew_trans hf2 hf3
  obtain ⟨x0, x1, _, _⟩ := (hxt.frm hf13.1).cells
  dsimp only
  go_wp2_with fail
  refine (HO.out _ (grew_trans hf1 hf13)).mono ?_
  rintro e w4 ⟨rfl, hf4⟩
  dsimp only
  go_wp2_with fail
  exact bodyPost_ret (results_tmp rfl _ _ _) rfl ⟨rfl, grew_trans (grew_trans hf1 hf13) hf4⟩
end Go.Proofs.YtjpdmncafacmaaaGreatDoor
end
/- What Some's tree is, plainly: of the ranks, whole, of the least depth, and accepted. -/
section
set_option linter.unusedVariables false
set_option linter.unusedSimpArgs false
namespace Go.Proofs.YtjpdmncafacmaaaGreatDoor
open Go.RowKit

theorem dn_le {a : Au} {s : Nat} {m : Made} {j : Nat} : ∀ {k}, j ≤ k → dnP a j s = some m → dnP a k s = some m := by
  intro k h hm
  induction k with
  | zero => obtain rfl : j = 0 := by omega
            exact hm
  | succ k ih =>
    by_cases e : j = k + 1
    · subst e; exact hm
    · exact dn_mono (ih (by omega))
/-- The round in which a set is found. -/
def RkAt (a : Au) (s k : Nat) : Prop := (dnP a k s).isSome = true ∧ ∀ j, j < k → dnP a j s = none
theorem rk_pos {a : Au} {s k : Nat} (h : RkAt a s k) : ∃ j, k = j + 1 := by
  cases k with
  | zero => exact absurd h.1 (by simp [dnP])
  | succ j => exact ⟨j, rfl⟩
/-- What is found in a round is found by its way. -/
theorem rk_way {a : Au} {s j : Nat} (h : RkAt a s (j + 1)) {m : Made} (hm : dnP a (j + 1) s = some m) : s < 2 ^ a.moves.length ∧ wayP a (dnP a j) s = some m := by
  have h0 := h.2 j (by omega)
  have hst : dnP a (j + 1) s = (dnP a j s).or (foundP a (dnP a j) (2 ^ a.moves.length) s) := rfl
  rw [hst, h0, Option.none_or] at hm
  obtain ⟨_, h2, h3⟩ := found_none hm
  exact ⟨h2, h3⟩
theorem dn_rk {a : Au} {s : Nat} : ∀ k, (dnP a k s).isSome = true → ∃ j, j ≤ k ∧ RkAt a s j
  | 0, h => by simp [dnP] at h
  | k + 1, h => by
    cases hd : dnP a k s with
    | some m =>
      obtain ⟨j, hj, hr⟩ := dn_rk k (by rw [hd]; rfl)
      exact ⟨j, by omega, hr⟩
    | none =>
      refine ⟨k + 1, Nat.le_refl _, h, fun j hj => ?_⟩
      cases hj2 : dnP a j s with
      | none => rfl
      | some m => rw [dn_le (show j ≤ k by omega) hj2] at hd; cases hd
/-- What a way is. -/
theorem way_has {a : Au} {dn : Nat → Option Made} {s : Nat} {m : Made} (hs : s < 64) (h : wayP a dn s = some m) :
    m.1 < a.ranks.length ∧ there dn (a.rankAt m.1) m.2 = true ∧ ∀ q, s.testBit q = true → ∃ l ∈ a.altsAt m.1 q, ∀ x ∈ l, (m.2.get x.1.toNat).testBit x.2.toNat = true := by
  obtain ⟨sym, hsym, h⟩ := List.exists_of_findSome?_eq_some h
  unfold way1 at h
  obtain ⟨k, hk, rfl⟩ := Option.map_eq_some_iff.1 h
  obtain ⟨h1, _, h3⟩ := choose_has _ _ _ hk
  refine ⟨List.mem_range.1 hsym, h1, fun q hq => h3 q ?_⟩
  rw [bits_eq s hs, List.mem_filter, List.mem_range]
  refine ⟨?_, hq⟩
  by_cases h6 : q < 6
  · exact h6
  · rw [Nat.testBit_lt_two_pow (Nat.lt_of_lt_of_le hs (Nat.pow_le_pow_right (n := 2) (by omega) (show 6 ≤ q by omega)))] at hq
    cases hq
/-- A way of an earlier round's sets would have been found earlier. -/
theorem way_kid {a : Au} (hok : a.ok = true) {s j : Nat} (h : RkAt a s (j + 2)) {m : Made} (hm : dnP a (j + 2) s = some m) : ∃ i, i < a.rankAt m.1 ∧ dnP a j (m.2.get i) = none := by
  obtain ⟨hsn, hw⟩ := rk_way h hm
  have hn := dn_next hok j s hsn
  rw [show (dnP a (j + 1) s).isSome = false by rw [h.2 (j + 1) (by omega)]; rfl] at hn
  have h1 := (Bool.or_eq_false_iff.1 hn.symm).2
  obtain ⟨sym, hsym, hw⟩ := List.exists_of_findSome?_eq_some hw
  unfold way1 at hw
  obtain ⟨k, hk, rfl⟩ := Option.map_eq_some_iff.1 hw
  by_cases ht : there (dnP a j) (a.rankAt sym) k = true
  · exfalso
    rw [List.any_eq_false] at h1
    refine h1 sym hsym ?_
    -- the same choice
    have hc : ∀ (qs : List Nat) (k0 k1 : K4), chooseP (a.altsAt sym) (dnP a (j + 1)) (a.rankAt sym) qs k0 = some k1 → there (dnP a j) (a.rankAt sym) k1 = true → waysP (a.altsAt sym) (dnP a j) (a.rankAt sym) qs k0 = true := by
      intro qs
      induction qs with
      | nil =>
        intro k0 k1 h0 h1
        unfold chooseP at h0
        split at h0
        · injection h0 with h0; subst h0; exact h1
        · cases h0
      | cons q qs ih =>
        intro k0 k1 h0 h1
        unfold chooseP at h0
        split at h0
        · obtain ⟨l, hl, h0⟩ := List.exists_of_findSome?_eq_some h0
          unfold waysP
          rw [List.any_eq_true]
          exact ⟨l, hl, ih _ _ h0 h1⟩
        · cases h0
    exact hc _ _ _ hk ht
  · have ht' : there (dnP a j) (a.rankAt sym) k = false := by simpa using ht
    unfold there at ht'
    rw [List.all_eq_false] at ht'
    obtain ⟨i, hi, hn⟩ := ht'
    exact ⟨i, List.mem_range.1 hi, by simpa using hn⟩
theorem maxL_ge (l : List Nat) (x : Nat) (hx : x ∈ l) : x ≤ maxL l := by
  have h : ∀ (l : List Nat) (a : Nat), a ≤ l.foldl max a ∧ ∀ x ∈ l, x ≤ l.foldl max a := by
    intro l
    induction l with
    | nil => intro a; exact ⟨Nat.le_refl _, by simp⟩
    | cons y l ih =>
      intro a
      obtain ⟨h1, h2⟩ := ih (max a y)
      refine ⟨Nat.le_trans (Nat.le_max_left a y) h1, fun x hx => ?_⟩
      rcases List.mem_cons.1 hx with rfl | hx
      · exact Nat.le_trans (Nat.le_max_right a x) h1
      · exact h2 x hx
  exact (h l 0).2 x hx
/-- The tree's own equation. -/
theorem treeP_eq {a : Au} {dn : Nat → Option Made} {D s : Nat} {m : Made} (h : dn s = some m) : treeP a dn (D + 1) s = .node m.1 ((List.range (a.rankAt m.1)).map fun i => treeP a dn D (m.2.get i)) := by
  show (match dn s with | none => Tr.node 0 [] | some m => .node m.1 ((List.range (a.rankAt m.1)).map fun i => treeP a dn D (m.2.get i))) = _
  rw [h]
/-- The depth is the round. -/
theorem tree_depth {a : Au} (hok : a.ok = true) (K : Nat) : ∀ (k s : Nat), RkAt a s k → k ≤ K → ∀ D, k ≤ D → depthTo D (treeP a (dnP a K) D s) = k := by
  intro k
  induction k using Nat.strongRecOn with
  | ind k ih =>
  intro s hr hkK D hkD
  obtain ⟨j, rfl⟩ := rk_pos hr
  obtain ⟨D, rfl⟩ : ∃ D', D = D' + 1 := ⟨D - 1, by omega⟩
  obtain ⟨m, hm⟩ := Option.isSome_iff_exists.1 hr.1
  have hmK := dn_le hkK hm
  obtain ⟨hsn, hw⟩ := rk_way hr hm
  obtain ⟨_, _, hth⟩ := way_ok hok hw
  rw [treeP_eq hmK]
  show maxL (((List.range (a.rankAt m.1)).map fun i => treeP a (dnP a K) D (m.2.get i)).map (depthTo D)) + 1 = j + 1
  rw [List.map_map]
  have hkid : ∀ i, i < a.rankAt m.1 → ∃ q, q ≤ j ∧ RkAt a (m.2.get i) q ∧ depthTo D (treeP a (dnP a K) D (m.2.get i)) = q := fun i hi => by
    obtain ⟨q, hq, hrq⟩ := dn_rk j (there_at hth hi)
    exact ⟨q, hq, hrq, ih q (by omega) _ hrq (by omega) D (by omega)⟩
  have hle : maxL ((List.range (a.rankAt m.1)).map (depthTo D ∘ fun i => treeP a (dnP a K) D (m.2.get i))) ≤ j := by
    refine maxL_le j _ fun x hx => ?_
    obtain ⟨i, hi, rfl⟩ := List.mem_map.1 hx
    obtain ⟨q, hq, _, he⟩ := hkid i (List.mem_range.1 hi)
    show depthTo D (treeP a (dnP a K) D (m.2.get i)) ≤ j
    omega
  have hge : j ≤ maxL ((List.range (a.rankAt m.1)).map (depthTo D ∘ fun i => treeP a (dnP a K) D (m.2.get i))) := by
    cases j with
    | zero => exact Nat.zero_le _
    | succ j =>
      obtain ⟨i, hi, hnone⟩ := way_kid hok hr hm
      obtain ⟨q, hq, hrq, he⟩ := hkid i hi
      have hqj : q = j + 1 := by
        by_cases h : q ≤ j
        · obtain ⟨m2, hm2⟩ := Option.isSome_iff_exists.1 hrq.1
          rw [dn_le h hm2] at hnone
          cases hnone
        · omega
      refine Nat.le_trans ?_ (maxL_ge _ _ (List.mem_map.2 ⟨i, List.mem_range.2 hi, rfl⟩))
      show j + 1 ≤ depthTo D (treeP a (dnP a K) D (m.2.get i))
      omega
  omega
/-- The tree fits the ranks, and is whole. -/
theorem tree_fits {a : Au} (hok : a.ok = true) (K : Nat) : ∀ (D s : Nat), Dpt a (dnP a K) D s → fitsTo a.ranks D (treeP a (dnP a K) D s) ∧ wholeTo D (treeP a (dnP a K) D s) = true
  | 0, s, h => h.elim
  | D + 1, s, ⟨m, h1, h2, h3, h4⟩ => by
    rw [treeP_eq h1]
    obtain ⟨_, he, _⟩ := au_sym hok h2
    have hd : a.ranks.getD m.1 0 = a.rankAt m.1 := by rw [← he]; simp [h2]
    refine ⟨⟨⟨by show (0 : Int) ≤ (m.1 : Int); omega, by show (m.1 : Int) < a.ranks.length; omega, ?_⟩, ?_⟩, ?_⟩
    · show a.ranks.getD ((m.1 : Int)).toNat 0 = (((List.range (a.rankAt m.1)).map fun i => treeP a (dnP a K) D (m.2.get i)).length : Nat)
      rw [Int.toNat_natCast, hd]
      simp
    · intro y hy
      obtain ⟨i, hi, rfl⟩ := List.mem_map.1 (show y ∈ (List.range (a.rankAt m.1)).map fun i => treeP a (dnP a K) D (m.2.get i) from hy)
      exact (tree_fits hok K D _ (h4 i (List.mem_range.1 hi))).1
    · unfold wholeTo
      rw [Bool.and_eq_true]
      refine ⟨List.all_eq_true.2 fun y hy => ?_, ?_⟩
      · obtain ⟨i, hi, rfl⟩ := List.mem_map.1 (show y ∈ (List.range (a.rankAt m.1)).map fun i => treeP a (dnP a K) D (m.2.get i) from hy)
        exact (tree_fits hok K D _ (h4 i (List.mem_range.1 hi))).2
      · show ((m.1 : Int) != -1) = true
        simp
/-- For each state whether a tree is accepted surely from it. -/
def accTo (a : Au) : Nat → Tr → Nat → Bool
  | 0, _, _ => false
  | D + 1, t, q => (a.altsAt t.label.toNat q).any fun l => l.all fun x => accTo a D (t.kids.getD x.1.toNat (.node 0 [])) x.2.toNat
theorem tree_acc {a : Au} (hok : a.ok = true) (K : Nat) : ∀ (D s : Nat), s < 64 → Dpt a (dnP a K) D s → ∀ q, s.testBit q = true → accTo a D (treeP a (dnP a K) D s) q = true
  | 0, s, _, h => h.elim
  | D + 1, s, hs, ⟨m, h1, h2, h3, h4⟩ => by
    intro q hq
    obtain ⟨k, hk, hr⟩ := dn_rk K (show (dnP a K s).isSome = true by rw [h1]; rfl)
    obtain ⟨j, rfl⟩ := rk_pos hr
    obtain ⟨m', hm'⟩ := Option.isSome_iff_exists.1 hr.1
    have : m' = m := by have := dn_le hk hm'; rw [h1] at this; injection this with this; exact this.symm
    subst this
    obtain ⟨hsn, hw⟩ := rk_way hr hm'
    obtain ⟨_, _, hall⟩ := way_has hs hw
    obtain ⟨l, hl, hx⟩ := hall q hq
    obtain ⟨_, _, hsy⟩ := au_sym hok h2
    have hqn : q < a.moves.length := by
      by_cases h : q < a.moves.length
      · exact h
      · exfalso
        unfold Au.altsAt at hl
        rw [show a.moves.getD q [] = [] by simp [List.getD, List.getElem?_eq_none (Nat.le_of_not_lt h)]] at hl
        simp at hl
    obtain ⟨_, _, _, hbd⟩ := hsy q hqn
    rw [treeP_eq h1]
    unfold accTo
    rw [List.any_eq_true]
    refine ⟨l, hl, List.all_eq_true.2 fun x hxl => ?_⟩
    have hx1 := (hbd l hl).2 x hxl
    have hi : x.1.toNat < a.rankAt m'.1 := by omega
    have he : (Tr.node (m'.1 : Int) ((List.range (a.rankAt m'.1)).map fun i => treeP a (dnP a K) D (m'.2.get i))).kids.getD x.1.toNat (.node 0 []) = treeP a (dnP a K) D (m'.2.get x.1.toNat) := by
      show (((List.range (a.rankAt m'.1)).map fun i => treeP a (dnP a K) D (m'.2.get i))).getD x.1.toNat (.node 0 []) = _
      simp [hi]
    rw [he]
    exact tree_acc hok K D _ (K4.get_lt h3 _) (h4 _ hi) _ (hx x hxl)
/-- A tree of at most four kids at each node has few nodes. -/
theorem size_bd {a : Au} (hok : a.ok = true) (K : Nat) : ∀ (D s : Nat), Dpt a (dnP a K) D s → 3 * sizeTo D (treeP a (dnP a K) D s) + 1 ≤ 4 ^ depthTo D (treeP a (dnP a K) D s)
  | 0, s, h => h.elim
  | D + 1, s, ⟨m, h1, h2, h3, h4⟩ => by
    rw [treeP_eq h1]
    obtain ⟨hr4, _⟩ := au_sym hok h2
    show 3 * ((((List.range (a.rankAt m.1)).map fun i => treeP a (dnP a K) D (m.2.get i)).map (sizeTo D)).sum + 1) + 1 ≤ 4 ^ (maxL (((List.range (a.rankAt m.1)).map fun i => treeP a (dnP a K) D (m.2.get i)).map (depthTo D)) + 1)
    have hall : ∀ t ∈ ((List.range (a.rankAt m.1)).map fun i => treeP a (dnP a K) D (m.2.get i)), 3 * sizeTo D t + 1 ≤ 4 ^ maxL (((List.range (a.rankAt m.1)).map fun i => treeP a (dnP a K) D (m.2.get i)).map (depthTo D)) := fun t ht => by
      obtain ⟨i, hi, rfl⟩ := List.mem_map.1 ht
      refine Nat.le_trans (size_bd hok K D _ (h4 i (List.mem_range.1 hi))) (Nat.pow_le_pow_right (by omega) (maxL_ge _ _ (List.mem_map.2 ⟨_, ht, rfl⟩)))
    have hl : (((List.range (a.rankAt m.1)).map fun i => treeP a (dnP a K) D (m.2.get i))).length ≤ 4 := by simpa using hr4
    generalize ((List.range (a.rankAt m.1)).map fun i => treeP a (dnP a K) D (m.2.get i)) = ks at *
    generalize maxL (ks.map (depthTo D)) = e at *
    have hsum : ∀ l : List Tr, (∀ t ∈ l, 3 * sizeTo D t + 1 ≤ 4 ^ e) → 3 * (l.map (sizeTo D)).sum + l.length ≤ l.length * 4 ^ e := by
      intro l
      induction l with
      | nil => simp
      | cons t l ih =>
        intro h
        have h1 := h t (by simp)
        have h2 := ih fun t ht => h t (by simp [ht])
        simp only [List.map_cons, List.sum_cons, List.length_cons, Nat.add_mul, Nat.one_mul]
        omega
    have h9 := hsum ks hall
    have hp : 1 ≤ 4 ^ e := Nat.one_le_pow _ _ (by omega)
    rw [Nat.pow_succ]
    have hk : ks.length * 4 ^ e + (4 - ks.length) * 4 ^ e = 4 * 4 ^ e := by rw [← Nat.add_mul]; congr 1; omega
    have hm4 : (4 - ks.length) * 1 ≤ (4 - ks.length) * 4 ^ e := Nat.mul_le_mul_left _ hp
    omega
/-- The least depth. -/
def leastP (a : Au) : Nat := ((List.range (2 ^ a.moves.length + 2)).find? fun k => (dnP a k (2 ^ a.start.toNat)).isSome).getD 0
theorem least_some {a : Au} {k : Nat} (h : RkAt a (2 ^ a.start.toNat) k) (hk : k ≤ 2 ^ a.moves.length + 1) : leastP a = k := by
  unfold leastP
  have : (List.range (2 ^ a.moves.length + 2)).find? (fun k => (dnP a k (2 ^ a.start.toNat)).isSome) = some k := by
    rw [List.find?_range_eq_some]
    refine ⟨h.1, List.mem_range.2 (by omega), fun j hj => ?_⟩
    rw [h.2 j hj]
    rfl
  rw [this]
  rfl
theorem least_none {a : Au} (h : ∀ k, k ≤ 2 ^ a.moves.length + 1 → dnP a k (2 ^ a.start.toNat) = none) : leastP a = 0 := by
  unfold leastP
  have : (List.range (2 ^ a.moves.length + 2)).find? (fun k => (dnP a k (2 ^ a.start.toNat)).isSome) = none := by
    rw [List.find?_eq_none]
    intro k hk
    rw [h k (by have := List.mem_range.1 hk; omega)]
    simp
  rw [this]
  rfl
theorem dn_stay {a : Au} {K : Nat} (h : ∀ s, s < 2 ^ a.moves.length → foundP a (dnP a K) (2 ^ a.moves.length) s = none) : ∀ d, dnP a (K + d) = dnP a K
  | 0 => rfl
  | d + 1 => by
    have ih := dn_stay h d
    show stepP a (dnP a (K + d)) = _
    rw [ih]
    funext s
    unfold stepP orF
    have : foundP a (dnP a K) (2 ^ a.moves.length) s = none := by
      by_cases hs : s < 2 ^ a.moves.length
      · exact h s hs
      · exact found_sup (by omega)
    rw [this, Option.or_none]
/-- Some's rounds and the reference's depth. -/
theorem someK_least {a : Au} {K : Nat} (h : SomeK a K) (hst : a.start.toNat < a.moves.length) :
    (dnP a K (2 ^ a.start.toNat) = none → leastP a = 0) ∧ ((dnP a K (2 ^ a.start.toNat)).isSome = true → leastP a = K ∧ RkAt a (2 ^ a.start.toNat) K) := by
  obtain ⟨hK, hp, he⟩ := h
  have hc : ∀ k, k ≤ K → k ≤ cntF (dnP a k) (2 ^ a.moves.length) := by
    intro k
    induction k with
    | zero => exact fun _ => Nat.zero_le _
    | succ k ih =>
      intro hk
      obtain ⟨_, s, hs, hf⟩ := hp k (by omega)
      obtain ⟨m, hm⟩ := Option.isSome_iff_exists.1 hf
      obtain ⟨h0, _, _⟩ := found_none hm
      have h1 : (dnP a (k + 1) s).isSome = true := by
        show ((dnP a k s).or (foundP a (dnP a k) (2 ^ a.moves.length) s)).isSome = true
        rw [h0, hm]; rfl
      have := cnt_lt hs h0 h1 (fun s h => by
        obtain ⟨m, hm⟩ := Option.isSome_iff_exists.1 h
        rw [dn_mono hm]; rfl)
      have := ih (by omega)
      omega
  have hKn : K ≤ 2 ^ a.moves.length := Nat.le_trans (hc K (Nat.le_refl _)) (cnt_le _ _)
  refine ⟨fun hn => ?_, fun hs => ?_⟩
  · have hno := he.resolve_left (by rw [hn]; simp)
    refine least_none fun k hk => ?_
    by_cases hkK : k < K
    · exact (hp k hkK).1
    · obtain ⟨d, rfl⟩ : ∃ d, k = K + d := ⟨k - K, by omega⟩
      rw [dn_stay hno d]
      exact hn
  · have hr : RkAt a (2 ^ a.start.toNat) K := ⟨hs, fun j hj => (hp j hj).1⟩
    exact ⟨least_some hr (by omega), hr⟩
end Go.Proofs.YtjpdmncafacmaaaGreatDoor
end
/- Slices of one-cell values of a call's own that may be written. -/
section
set_option linter.unusedVariables false
set_option linter.unusedSimpArgs false
namespace Go.Proofs.YtjpdmncafacmaaaGreatDoor
open Go.RowKit

/-- A slice from a block's head on, the block being from `base` on and not frozen: these values. -/
def RowV (w : World) (base : Nat) (v : Value) (vs : List Value) : Prop :=
  ∃ A c, v = .slice A vs.length c ∧ vs.length ≤ c ∧ (0 < vs.length → ∃ g, A = some ⟨g, 0, none⟩ ∧ base ≤ g ∧ g < w.heap.size ∧ Unf w g ∧ ∀ i (h : i < vs.length), w.cell? ⟨g, i, none⟩ = some vs[i])
section
variable {w w' : World} {base g : Nat} {T : TypeId} {v : Value} {vs : List Value}
theorem RowV.move (h : RowV w base v vs) (hw : ∀ g, base ≤ g → g < w.heap.size → w'.heap[g]? = w.heap[g]?) (hs : w.heap.size ≤ w'.heap.size) : RowV w' base v vs := by
  obtain ⟨A, c, rfl, hc, hp⟩ := h
  refine ⟨A, c, rfl, hc, fun h0 => ?_⟩
  obtain ⟨g, rfl, hb, hg, hu, hx⟩ := hp h0
  exact ⟨g, rfl, hb, by omega, hu.move (hw g hb hg), fun i hi => (World.cell?_of_block (hw g hb hg)).trans (hx i hi)⟩
theorem RowV.grew (h : RowV w base v vs) (hf : Grew w w') : RowV w' base v vs := h.move (fun g _ hg => frm_lt hf.1 g hg) hf.1.size
theorem RowV.lower {base' : Nat} (h : RowV w base v vs) (hb : base' ≤ base) : RowV w base' v vs := by
  obtain ⟨A, c, rfl, hc, hp⟩ := h
  refine ⟨A, c, rfl, hc, fun h0 => ?_⟩
  obtain ⟨g, e, hbg, hg⟩ := hp h0
  exact ⟨g, e, by omega, hg⟩
theorem RowV.made (h : ValsAt w g T vs) (hb : base ≤ g) (n : Nat) (hn : n = vs.length) : RowV w base (.slice (some ⟨g, 0, none⟩) n n) vs := by
  subst hn
  exact ⟨_, _, rfl, Nat.le_refl _, fun h0 => ⟨g, rfl, hb, h.lt, h.free, fun i hi => by rw [h.cell i]; simp [hi]⟩⟩
theorem RowV.val (h : RowV w base v vs) : ∃ A c, v = .slice A vs.length c ∧ vs.length ≤ c := by
  obtain ⟨A, c, rfl, hc, _⟩ := h
  exact ⟨A, c, rfl, hc⟩
theorem RowV.open {A : Option Addr} {n c : Nat} (h : RowV w base (.slice A n c) vs) (h0 : 0 < vs.length) : ∃ g, A = some ⟨g, 0, none⟩ ∧ base ≤ g ∧ g < w.heap.size ∧ Unf w g ∧ ∀ i (h : i < vs.length), w.cell? ⟨g, i, none⟩ = some vs[i] := by
  obtain ⟨A', c', he, hc, hp⟩ := h
  injection he with e1 e2 e3
  subst e1
  exact hp h0
/-- A cell is written. -/
theorem RowV.put {n c : Nat} (h : RowV w base (.slice (some ⟨g, 0, none⟩) n c) vs) (h0 : 0 < vs.length) (i : Nat) (u : Value) : RowV (w.setCell ⟨g, i, none⟩ u) base (.slice (some ⟨g, 0, none⟩) n c) (vs.set i u) := by
  have hn : n = vs.length := by
    obtain ⟨A', c', he, hc, hp⟩ := h
    injection he
  have hc : vs.length ≤ c := by
    obtain ⟨A', c', he, hc, hp⟩ := h
    injection he with _ _ e
    omega
  obtain ⟨g', e, hb, hg, hu, hx⟩ := h.open h0
  injection e with e
  injection e with e
  subst e
  refine ⟨_, c, by rw [hn, List.length_set], by simpa using hc, fun _ => ⟨g, rfl, hb, by simpa using hg, hu.set _ _, fun j hj => ?_⟩⟩
  have hj' : j < vs.length := by simpa using hj
  have hxj := hx j hj'
  by_cases hij : i = j
  · subst hij
    rw [List.getElem_set_self]
    simp only [World.cell?] at hxj ⊢
    simp only [World.setCell]
    rw [Array.getElem?_modify, if_pos rfl]
    cases hb2 : w.heap[g]? with
    | none => rw [hb2] at hxj; cases hxj
    | some o =>
      rw [hb2] at hxj
      cases o <;> simp at hxj ⊢
      all_goals
        obtain ⟨hlt, _⟩ := Array.getElem?_eq_some_iff.1 hxj
        simp [Array.getElem?_setIfInBounds, hlt]
  · rw [List.getElem_set_ne hij]
    rw [← hxj]
    simp only [World.cell?, World.setCell]
    rw [Array.getElem?_modify, if_pos rfl]
    cases hb2 : w.heap[g]? with
    | none => rfl
    | some o =>
      cases o <;> simp
      all_goals simp [Array.getElem?_setIfInBounds, hij]
end
/-- A row of the call's own, of elements of one cell. -/
theorem Own.rowV {α : Type} {r : RdS α} {f : α → Value} (hr : ∀ S w x cs, r S w x cs → cs = [f x]) {w : World} {base e : Nat} {ok : Nat → Prop} {v : Value} {xs : List α} (h : Own r w base e 1 ok v xs) : RowV w base v (xs.map f) := by
  have hu := h.unf
  have hlt := h.lt
  obtain ⟨inner, ⟨hl, ho⟩, h1, hx⟩ := h
  rcases ho with ⟨rfl, h0⟩ | ⟨g, cap, cur, rfl, hb, hg, hc, hcm, hcs, htake⟩
  · exact ⟨none, 0, by simp [h0], by simp [h0], fun h => by simp at h; omega⟩
  · refine ⟨_, cap, by simp, by simpa using hc, fun _ => ⟨g, rfl, (hlt g rfl).1, (hlt g rfl).2, hu g rfl, fun i hi => ?_⟩⟩
    have hi' : i < xs.length := by simpa using hi
    obtain ⟨cs, hcl, hcc, hrr⟩ := hx i hi'
    have := hr _ _ _ _ hrr
    subst this
    have h2 := hcc 0 (by omega)
    rw [← htake, List.getElem?_take, if_pos (by omega)] at h2
    simpa [World.cell?, hg] using h2
/-- It reads. -/
theorem RowV.sl {α : Type} {r : RdS α} {f : α → Value} {w : World} {base : Nat} {v : Value} {xs : List α} (h : RowV w base v (xs.map f)) (hr : ∀ S x, x ∈ xs → r S w x [f x]) (hm : xs.length ≤ 1000000) {S : Nat → Prop} (hS : ∀ g, base ≤ g → g < w.heap.size → S g) : Sl S w 1 (r S w) xs v := by
  obtain ⟨A, c, rfl, hc, hp⟩ := h
  simp only [List.length_map] at hc hp
  refine ⟨A, c, by simp, hc, by omega, fun h0 => ?_⟩
  obtain ⟨g, rfl, hb, hg, hu, hx⟩ := hp h0
  refine ⟨g, 0, rfl, hS g hb hg, fun i hi => ⟨[f xs[i]], rfl, fun j hj => ?_, hr _ _ (List.getElem_mem hi)⟩⟩
  obtain rfl : j = 0 := by omega
  have := hx i hi
  simpa using this
theorem bol_one : ∀ (S : Nat → Prop) (w : World) (x : Bool) cs, BolR S w x cs → cs = [boolV x] := fun _ _ _ _ h => h
theorem int_one : ∀ (S : Nat → Prop) (w : World) (x : Int) cs, IntR S w x cs → cs = [intV x] := fun _ _ _ _ h => h.1
theorem RowV.bools {w : World} {base : Nat} {v : Value} {xs : List Bool} (h : RowV w base v (xs.map boolV)) (hm : xs.length ≤ 1000000) {S : Nat → Prop} (hS : ∀ g, base ≤ g → g < w.heap.size → S g) : Sl S w 1 (BolR S w) xs v :=
  h.sl (r := BolR) (fun _ _ _ => rfl) hm hS
theorem RowV.ints {w : World} {base : Nat} {v : Value} {xs : List Int} (h : RowV w base v (xs.map intV)) (hm : xs.length ≤ 1000000) (hb : ∀ x ∈ xs, -9223372036854775808 ≤ x ∧ x ≤ 9223372036854775807) {S : Nat → Prop} (hS : ∀ g, base ≤ g → g < w.heap.size → S g) : Sl S w 1 (IntR S w) xs v :=
  h.sl (r := IntR) (fun _ x hx => ⟨rfl, hb x hx⟩) hm hS
/-! ### A table written from the left -/
def tabU {α : Type} (n q : Nat) (f g : Nat → α) : List α := (List.range n).map fun i => if i < q then f i else g i
section
variable {α : Type} {n q : Nat} {f g : Nat → α}
theorem tabU_len : (tabU n q f g).length = n := by unfold tabU; simp
theorem tabU_zero : tabU n 0 f g = (List.range n).map g := by unfold tabU; simp
theorem tabU_end : tabU n n f g = (List.range n).map f := by
  unfold tabU
  exact List.map_congr_left fun i hi => if_pos (List.mem_range.1 hi)
theorem tabU_at? {i : Nat} (h : i < n) : (tabU n q f g)[i]? = some (if i < q then f i else g i) := by unfold tabU; simp [h]
theorem tabU_at {h : q < (tabU n q f g).length} : (tabU n q f g)[q] = g q := by
  have e := tabU_at? (f := f) (g := g) (q := q) (show q < n by rw [tabU_len] at h; exact h)
  rw [List.getElem?_eq_getElem h] at e
  injection e with e
  rw [e, if_neg (Nat.lt_irrefl q)]
theorem tabU_succ (h : q < n) : (tabU n q f g).set q (f q) = tabU n (q + 1) f g := by
  apply List.ext_getElem?
  intro i
  rw [List.getElem?_set]
  by_cases hi : i < n
  · rw [tabU_at? hi, tabU_at? hi]
    by_cases e : q = i
    · subst e
      rw [if_pos rfl, if_pos (by rw [tabU_len]; exact h), if_pos (by omega)]
    · rw [if_neg e]
      by_cases h1 : i < q
      · rw [if_pos h1, if_pos (by omega)]
      · rw [if_neg h1, if_neg (by omega)]
  · rw [if_neg (by omega), List.getElem?_eq_none (by rw [tabU_len]; omega), List.getElem?_eq_none (by rw [tabU_len]; omega)]
theorem tabU_self : (tabU n q f g).set q (g q) = tabU n q f g := by
  apply List.ext_getElem?
  intro i
  rw [List.getElem?_set]
  by_cases e : q = i
  · subst e
    rw [if_pos rfl]
    by_cases h : q < n
    · rw [if_pos (by rw [tabU_len]; exact h), tabU_at? h, if_neg (by omega)]
    · rw [if_neg (by rw [tabU_len]; exact h), List.getElem?_eq_none (by rw [tabU_len]; omega)]
  · rw [if_neg e]
end
end Go.Proofs.YtjpdmncafacmaaaGreatDoor
end
/- The states that are needed: the least closed set, plainly. -/
section
set_option linter.unusedVariables false
set_option linter.unusedSimpArgs false
namespace Go.Proofs.YtjpdmncafacmaaaGreatDoor
open Go.RowKit

/-- The states that a state needs. -/
def needsOf (a : Au) (q : Nat) : List Nat := ((a.moves.getD q []).flatten.flatten).map fun x : Nd => x.2.toNat
def ClosedS (a : Au) (C : Nat → Prop) : Prop := ∀ q, C q → ∀ s ∈ needsOf a q, C s
open Classical in
/-- A state is needed if it is in every closed set that holds the start. -/
noncomputable def reachB (a : Au) (s : Nat) : Bool := decide (∀ C : Nat → Prop, ClosedS a C → C a.start.toNat → C s)
theorem reach_iff (a : Au) (s : Nat) : reachB a s = true ↔ ∀ C : Nat → Prop, ClosedS a C → C a.start.toNat → C s := by
  unfold reachB
  exact @decide_eq_true_iff _ (Classical.propDecidable _)
theorem reach_start (a : Au) : reachB a a.start.toNat = true := (reach_iff _ _).2 fun _ _ h => h
theorem reach_step {a : Au} {q s : Nat} (h : reachB a q = true) (hs : s ∈ needsOf a q) : reachB a s = true :=
  (reach_iff _ _).2 fun C hC h0 => hC q ((reach_iff _ _).1 h C hC h0) s hs
/-- A closed set of needed states that holds the start holds them all. -/
theorem reach_eq {a : Au} {p : Nat → Bool} (h0 : p a.start.toNat = true) (hc : ∀ q, p q = true → ∀ s ∈ needsOf a q, p s = true) (hs : ∀ s, p s = true → reachB a s = true) : ∀ s, p s = reachB a s := by
  intro s
  cases h : reachB a s
  · cases h1 : p s
    · rfl
    · rw [hs s h1] at h; cases h
  · exact (reach_iff _ _).1 h (fun s => p s = true) hc h0
theorem mem_needs {a : Au} {q : Nat} {row : List (List (List Nd))} (hq : a.moves.getD q [] = row) {alts : List (List Nd)} (h1 : alts ∈ row) {l : List Nd} (h2 : l ∈ alts) {x : Nd} (h3 : x ∈ l) : x.2.toNat ∈ needsOf a q := by
  unfold needsOf
  rw [hq]
  exact List.mem_map.2 ⟨x, List.mem_flatten.2 ⟨l, List.mem_flatten.2 ⟨alts, h1, h2⟩, h3⟩, rfl⟩
theorem needs_mem {a : Au} {q s : Nat} (h : s ∈ needsOf a q) : ∃ alts ∈ a.moves.getD q [], ∃ l ∈ alts, ∃ x ∈ l, x.2.toNat = s := by
  unfold needsOf at h
  obtain ⟨x, hx, rfl⟩ := List.mem_map.1 h
  obtain ⟨l, hl, hx⟩ := List.mem_flatten.1 hx
  obtain ⟨alts, ha, hl⟩ := List.mem_flatten.1 hl
  exact ⟨alts, ha, l, hl, x, hx, rfl⟩
theorem needs_lt {a : Au} (h : a.ok = true) {q s : Nat} (hs : s ∈ needsOf a q) : s < a.moves.length := by
  obtain ⟨alts, h1, l, h2, x, h3, rfl⟩ := needs_mem hs
  by_cases hq : q < a.moves.length
  · rw [List.getD_eq_getElem?_getD, List.getElem?_eq_getElem hq, Option.getD_some] at h1
    have := ok_state h _ (List.getElem_mem hq) _ h1 _ h2 _ h3
    omega
  · rw [List.getD_eq_getElem?_getD, List.getElem?_eq_none (by omega)] at h1
    simp at h1
theorem reach_lt {a : Au} (h : a.ok = true) {s : Nat} (hs : reachB a s = true) : s < a.moves.length :=
  (reach_iff _ _).1 hs (fun s => s < a.moves.length) (fun q _ s hs => needs_lt h hs) (ok_parts h).2.2.2.2.1

/-! ### The reference's rounds -/
structure Infl (F : List Bool → List Bool) (E : List (Nat × Nat)) : Prop where
  len : ∀ N, (F N).length = N.length
  mono : ∀ N s, N.getD s false = true → (F N).getD s false = true
  sound : ∀ C : Nat → Prop, (∀ e ∈ E, C e.1 → C e.2) → ∀ N, (∀ s, N.getD s false = true → C s) → ∀ s, (F N).getD s false = true → C s
  comp : ∀ N, F N = N → ∀ e ∈ E, e.2 < N.length → N.getD e.1 false = true → N.getD e.2 false = true
theorem list_ext_getD : ∀ {N M : List Bool}, N.length = M.length → (∀ s, N.getD s false = true → M.getD s false = true) → (∀ s, M.getD s false = true → N.getD s false = true) → N = M
  | [], [], _, _, _ => rfl
  | a :: N, b :: M, hl, h1, h2 => by
    have e : a = b := by
      have q1 := h1 0
      have q2 := h2 0
      simp at q1 q2
      cases a <;> cases b <;> simp_all
    rw [e, list_ext_getD (N := N) (M := M) (by simpa using hl) (fun s hs => by simpa using h1 (s + 1) (by simpa using hs)) (fun s hs => by simpa using h2 (s + 1) (by simpa using hs))]
theorem Infl.id : Infl (fun N => N) [] := ⟨fun _ => rfl, fun _ _ h => h, fun _ _ _ h => h, fun _ _ e he => by simp at he⟩
theorem Infl.then {F G : List Bool → List Bool} {E E' : List (Nat × Nat)} (h : Infl F E) (h' : Infl G E') : Infl (fun N => G (F N)) (E ++ E') := by
  refine ⟨fun N => (h'.len _).trans (h.len _), fun N s hs => h'.mono _ _ (h.mono _ _ hs), fun C hC N hN => ?_, fun N hN => ?_⟩
  · exact h'.sound C (fun e he => hC e (List.mem_append.2 (.inr he))) _ (h.sound C (fun e he => hC e (List.mem_append.2 (.inl he))) N hN)
  · have hF : F N = N := (list_ext_getD (h.len N).symm (fun s hs => h.mono N s hs) (fun s hs => by
      have := h'.mono (F N) s hs
      have hN' : G (F N) = N := hN
      exact hN' ▸ this)).symm
    have hG : G N = N := by
      have hN' : G (F N) = N := hN
      rwa [hF] at hN'
    intro e he
    rcases List.mem_append.1 he with he | he
    · exact h.comp N hF e he
    · exact h'.comp N hG e he
theorem getD_set (N : List Bool) (s t : Nat) (b : Bool) : (N.set s b).getD t false = if s = t ∧ s < N.length then b else N.getD t false := by
  simp only [List.getD_eq_getElem?_getD, List.getElem?_set]
  by_cases h : s = t
  · subst h
    by_cases h2 : s < N.length
    · simp [h2]
    · simp [h2]
  · simp [h]
/-- One edge: if the first is needed, the second is. -/
def edgeN (q : Nat) (N : List Bool) (s : Nat) : List Bool := N.set s (N.getD s false || N.getD q false)
theorem Infl.edge (q s : Nat) : Infl (fun N => edgeN q N s) [(q, s)] := by
  refine ⟨fun N => by unfold edgeN; simp, fun N t ht => ?_, fun C hC N hN t ht => ?_, fun N hN e he hl h1 => ?_⟩
  · show (edgeN q N s).getD t false = true
    unfold edgeN
    rw [getD_set]
    split
    · rename_i h
      obtain ⟨rfl, _⟩ := h
      rw [ht]
      rfl
    · exact ht
  · have ht' : (edgeN q N s).getD t false = true := ht
    unfold edgeN at ht'
    rw [getD_set] at ht'
    split at ht'
    · rename_i h
      obtain ⟨rfl, _⟩ := h
      rw [Bool.or_eq_true] at ht'
      rcases ht' with h | h
      · exact hN _ h
      · exact hC (q, s) (by simp) (hN _ h)
    · exact hN _ ht'
  · obtain rfl := List.mem_singleton.1 he
    have hN' : edgeN q N s = N := hN
    have h2 : (edgeN q N s).getD s false = true := by
      unfold edgeN
      rw [getD_set, if_pos ⟨rfl, hl⟩]
      have : N.getD q false = true := h1
      rw [this, Bool.or_true]
    rwa [hN'] at h2
theorem Infl.fold {α : Type} (f : List Bool → α → List Bool) (E : α → List (Nat × Nat)) (h : ∀ x, Infl (fun N => f N x) (E x)) : ∀ L : List α, Infl (fun N => L.foldl f N) (L.flatMap E)
  | [] => Infl.id
  | x :: L => by
    have := (h x).then (Infl.fold f E h L)
    simpa using this
def rowN (a : Au) (N : List Bool) (q : Nat) : List Bool := (needsOf a q).foldl (edgeN q) N
def roundN (a : Au) (N : List Bool) : List Bool := (List.range a.moves.length).foldl (rowN a) N
def edgesN (a : Au) : List (Nat × Nat) := (List.range a.moves.length).flatMap fun q => (needsOf a q).flatMap fun s => [(q, s)]
theorem infl_round (a : Au) : Infl (roundN a) (edgesN a) := Infl.fold (rowN a) _ (fun q => Infl.fold (edgeN q) _ (fun s => Infl.edge q s) _) _
theorem edges_mem {a : Au} {e : Nat × Nat} : e ∈ edgesN a ↔ e.1 < a.moves.length ∧ e.2 ∈ needsOf a e.1 := by
  unfold edgesN
  simp only [List.mem_flatMap, List.mem_range, List.mem_singleton]
  constructor
  · rintro ⟨q, hq, s, hs, rfl⟩
    exact ⟨hq, hs⟩
  · rintro ⟨h1, h2⟩
    exact ⟨e.1, h1, e.2, h2, rfl⟩
theorem cnt_less : ∀ {N M : List Bool}, N.length = M.length → (∀ s, N.getD s false = true → M.getD s false = true) → N.count true ≤ M.count true ∧ (N ≠ M → N.count true < M.count true)
  | [], [], _, _ => ⟨Nat.le_refl _, fun h => absurd rfl h⟩
  | a :: N, b :: M, hl, h1 => by
    obtain ⟨i1, i2⟩ := cnt_less (N := N) (M := M) (by simpa using hl) (fun s hs => by simpa using h1 (s + 1) (by simpa using hs))
    have q1 := h1 0
    simp at q1
    cases a <;> cases b <;> simp_all <;> omega
def iterN (a : Au) (N : List Bool) : Nat → List Bool
  | 0 => N
  | r + 1 => roundN a (iterN a N r)
theorem iter_len (a : Au) (N : List Bool) : ∀ r, (iterN a N r).length = N.length
  | 0 => rfl
  | r + 1 => ((infl_round a).len _).trans (iter_len a N r)
theorem iter_stay (a : Au) (N : List Bool) (h0 : 1 ≤ N.count true) : ∀ r, roundN a (iterN a N r) = iterN a N r ∨ 1 + r ≤ (iterN a N r).count true
  | 0 => .inr (by simpa [iterN] using h0)
  | r + 1 => by
    by_cases h : roundN a (iterN a N r) = iterN a N r
    · left
      show roundN a (roundN a (iterN a N r)) = roundN a (iterN a N r)
      rw [h, h]
    · rcases iter_stay a N h0 r with h1 | h1
      · exact absurd h1 h
      · right
        have := (cnt_less ((infl_round a).len (iterN a N r)).symm (fun s hs => (infl_round a).mono _ s hs)).2 (fun e => h e.symm)
        show _ ≤ (roundN a (iterN a N r)).count true
        omega
theorem iter_mono (a : Au) (N : List Bool) (s : Nat) (h : N.getD s false = true) : ∀ r, (iterN a N r).getD s false = true
  | 0 => h
  | r + 1 => (infl_round a).mono _ _ (iter_mono a N s h r)
theorem iter_sound {a : Au} {N : List Bool} (h : ∀ s, N.getD s false = true → reachB a s = true) : ∀ r s, (iterN a N r).getD s false = true → reachB a s = true
  | 0 => h
  | r + 1 => (infl_round a).sound (fun s => reachB a s = true) (fun e he hs => reach_step hs (edges_mem.1 he).2) _ (iter_sound h r)
def startN (a : Au) : List Bool := (List.replicate a.moves.length false).set a.start.toNat true
/-- After as many rounds as there are states, the needed ones are known. -/
theorem iter_reach {a : Au} (h : a.ok = true) : ∀ s, (iterN a (startN a) a.moves.length).getD s false = reachB a s := by
  have hs := (ok_parts h).2.2.2.2.1
  have hl : (startN a).length = a.moves.length := by unfold startN; simp
  have h0 : (startN a).getD a.start.toNat false = true := by
    unfold startN
    rw [getD_set, if_pos ⟨rfl, by simpa using hs⟩]
  have hc : 1 ≤ (startN a).count true := by
    refine List.count_pos_iff.2 ?_
    unfold startN
    exact List.mem_iff_getElem.2 ⟨a.start.toNat, by simpa using hs, by simp⟩
  have hfix : roundN a (iterN a (startN a) a.moves.length) = iterN a (startN a) a.moves.length := by
    rcases iter_stay a (startN a) hc a.moves.length with h1 | h1
    · exact h1
    · have := List.count_le_length (a := true) (l := iterN a (startN a) a.moves.length)
      rw [iter_len, hl] at this
      omega
  have hil : (iterN a (startN a) a.moves.length).length = a.moves.length := by rw [iter_len, hl]
  refine reach_eq (p := fun s => (iterN a (startN a) a.moves.length).getD s false) (iter_mono a _ _ h0 _) (fun q hq s hs => ?_) (iter_sound (fun s hs => ?_) _)
  · have hq' : q < a.moves.length := by
      rw [← hil]
      have : (iterN a (startN a) a.moves.length).getD q false = true := hq
      by_cases h : q < (iterN a (startN a) a.moves.length).length
      · exact h
      · rw [List.getD_eq_getElem?_getD, List.getElem?_eq_none (by omega)] at this
        cases this
    exact (infl_round a).comp _ hfix (q, s) (edges_mem.2 ⟨hq', hs⟩) (by rw [hil]; exact needs_lt h hs) hq
  · unfold startN at hs
    rw [getD_set] at hs
    split at hs
    · rename_i hh
      rw [← hh.1]
      exact reach_start a
    · rw [List.getD_eq_getElem?_getD, List.getElem?_replicate] at hs
      split at hs <;> cases hs

/-! ### The automaton without the other states -/
def cntB (p : Nat → Bool) (q : Nat) : Nat := ((List.range q).filter p).length
noncomputable def reachL (a : Au) : List Nat := (List.range a.moves.length).filter (reachB a)
/-- The given states of an automaton, states changed by a table. -/
def numA (a : Au) (qs : List Nat) (tl : List Int) : Au := ⟨a.ranks, tl.getD a.start.toNat 0, qs.map fun q => (a.moves.getD q []).map fun alts => altSet (mvd (toL tl) alts)⟩
noncomputable def reachA (a : Au) : Au := numA a (reachL a) ((List.range a.moves.length).map fun q => (cntB (reachB a) q : Int))
noncomputable def reachE (a : Au) : Int := if a.ok then 0 else 10
noncomputable def reachV (a : Au) : Au := if a.ok then reachA a else Au.zero
theorem mvd_congr {f g : Nd → Nd} {alts : List (List Nd)} (h : ∀ l ∈ alts, ∀ x ∈ l, f x = g x) : mvd f alts = mvd g alts := by
  unfold mvd
  refine List.map_congr_left fun l hl => ?_
  rw [List.map_congr_left (h l hl)]
/-- Tables that agree at the needed states make the same. -/
theorem num_eq {a : Au} (h : a.ok = true) {tl tl2 : List Int} (he : ∀ q, reachB a q = true → tl.getD q 0 = tl2.getD q 0) : numA a (reachL a) tl = numA a (reachL a) tl2 := by
  unfold numA
  rw [he _ (reach_start a)]
  congr 1
  refine List.map_congr_left fun q hq => List.map_congr_left fun alts hal => ?_
  rw [mvd_congr fun l hl x hx => ?_]
  unfold toL
  rw [he _ (reach_step (q := q) (List.mem_filter.1 hq).2 (mem_needs rfl hal hl hx))]
theorem tab_at {a : Au} {q : Nat} (hq : q < a.moves.length) : ((List.range a.moves.length).map fun q => (cntB (reachB a) q : Int)).getD q 0 = cntB (reachB a) q := by
  rw [List.getD_eq_getElem?_getD, List.getElem?_map, List.getElem?_range hq]
  rfl
theorem cntB_at (p : Nat → Bool) : ∀ (n i : Nat) (h : i < ((List.range n).filter p).length), cntB p (((List.range n).filter p)[i]) = i := by
  intro n
  induction n with
  | zero => intro i h; simp at h
  | succ n ih =>
    intro i h
    have e : (List.range (n + 1)).filter p = (List.range n).filter p ++ (if p n then [n] else []) := by
      rw [List.range_succ, List.filter_append]
      congr 1
      cases hp : p n <;> simp [hp]
    by_cases hi : i < ((List.range n).filter p).length
    · have : ((List.range (n + 1)).filter p)[i] = ((List.range n).filter p)[i] := by
        simp only [e]
        rw [List.getElem_append_left hi]
      rw [this, ih i hi]
    · cases hp : p n
      · rw [e, hp] at h
        simp at h
        omega
      · rw [e, hp] at h
        have hie : i = ((List.range n).filter p).length := by simp at h; omega
        have : ((List.range (n + 1)).filter p)[i]'(by rw [e, hp]; exact h) = n := by
          simp only [e, hp, if_true]
          rw [List.getElem_append_right (by omega)]
          simp
        rw [this, hie]
        rfl
end Go.Proofs.YtjpdmncafacmaaaGreatDoor
end
/- The reference's accepts, surely: for each state whether a tree is accepted from it. -/
section
set_option linter.unusedVariables false
set_option linter.unusedSimpArgs false
namespace Go.Proofs.YtjpdmncafacmaaaGreatDoor
open Go.RowKit

theorem getD_mem {α : Type} (d : α) (R : List α) {k : Nat} (h : k < R.length) : R.getD k d ∈ R := by
  rw [List.getD_eq_getElem?_getD, List.getElem?_eq_getElem h, Option.getD_some]
  exact List.getElem_mem h
theorem alts_state {a : Au} (h : a.ok = true) {sym q : Nat} {l : List Nd} (hl : l ∈ a.altsAt sym q) {x : Nd} (hx : x ∈ l) : x.2.toNat < a.moves.length := by
  unfold Au.altsAt at hl
  by_cases hs : sym < (a.moves.getD q []).length
  · exact needs_lt h (mem_needs (q := q) rfl (getD_mem [] _ hs) hl hx)
  · rw [List.getD_eq_getElem?_getD, List.getElem?_eq_none (by omega)] at hl
    simp at hl
abbrev BRow : RdS (List Bool) := RowS 1 BolR
theorem moves_brow : Moves BRow := moves_row moves_bol
theorem info_bools : (Tryz.prog.info? 68).map (fun i => (i.zero, i.size, i.bytes)) = some (some (.slice none 0 0), 1, 24) := by kernel_rfl
theorem elem_bools : ElemInfo Tryz.prog 147 68 1 24 := .of Tryz.underlying147 info_bools rfl (by omega)
/-- For each state whether a tree is accepted from it. -/
def accL (a : Au) (D : Nat) (t : Tr) : List Bool := (List.range a.moves.length).map (accTo a D t)
theorem accL_len (a : Au) (D : Nat) (t : Tr) : (accL a D t).length = a.moves.length := by unfold accL; simp
theorem map_range_at {α : Type} (f : Nat → α) (n q : Nat) (h : q < ((List.range n).map f).length) : ((List.range n).map f)[q] = f q := by simp
theorem accL_at {a : Au} {D : Nat} {t : Tr} {q : Nat} (h : q < (accL a D t).length) : (accL a D t)[q] = accTo a D t q := map_range_at (accTo a D t) a.moves.length q h
def altAcc (a : Au) (D : Nat) (ks : List Tr) (l : List Nd) : Bool := l.all fun x => accTo a D (ks.getD x.1.toNat (.node 0 [])) x.2.toNat
theorem any_take {α : Type} (f : α → Bool) (l : List α) {k : Nat} (h : k < l.length) : (l.take (k + 1)).any f = ((l.take k).any f || f l[k]) := by
  rw [List.take_succ_eq_append_getElem h, List.any_append]
  simp
theorem all_take {α : Type} (f : α → Bool) (l : List α) {k : Nat} (h : k < l.length) : (l.take (k + 1)).all f = ((l.take k).all f && f l[k]) := by
  rw [List.take_succ_eq_append_getElem h, List.all_append]
  simp
def AccPost (a : Au) (D : Nat) (t : Tr) (w : World) (e : Ending) (w' : World) : Prop :=
  ∃ A c, e = .returned (.slice A a.moves.length c) ∧ Grew w w' ∧ RowV w' w.heap.size (.slice A a.moves.length c) ((accL a D t).map boolV)
set_option maxRecDepth 100000 in
set_option maxHeartbeats 4000000 in
theorem accepts_calls (a : Au) (hok : a.ok = true) (r m : Value) : ∀ (D : Nat) (t : Tr) (w : World) (v : Value) (ha : rdO AuR w a [r, .int .i64 a.start, m]) (ht : rdO (TrD D) w t [.int .i64 t.label, v]), fitsTo a.ranks D t →
    Calls Tryz.prog 84 #[.agg #[r, .int .i64 a.start, m], .int .i64 1, .agg #[.int .i64 t.label, v]] w (AccPost a D t w) := by
  intro D
  induction D with
  | zero => intro t w v ha ht; exact ht.elim
  | succ D ih =>
  intro t w v ha ht hfits
  obtain ⟨hR, hMv, hs1, hs2⟩ := AuR.parts ha
  obtain ⟨A, c, rfl, hc, hlm⟩ := hR.val
  obtain ⟨B, d, rfl, hd, hlm2⟩ := hMv.val
  obtain ⟨v', hv, hlb, hk⟩ := ht
  simp only [List.cons.injEq, and_true, true_and] at hv
  subst hv
  have hK : SlO w 2 (rdO (TrD D)) t.kids v := hk
  obtain ⟨C, e, rfl, he, hlk⟩ := hK.val
  obtain ⟨⟨h0, h1, h2⟩, h3⟩ := hfits
  obtain ⟨sy, hsy⟩ : ∃ sy : Nat, t.label = sy := ⟨t.label.toNat, by omega⟩
  have hsyr : sy < a.ranks.length := by omega
  obtain ⟨hr4, hre, hrows⟩ := au_sym hok hsyr
  have hkr : t.kids.length = a.rankAt sy := by
    rw [hsy, Int.toNat_natCast] at h2
    have h9 : a.ranks.getD sy 0 = a.ranks[sy] := by simp [hsyr]
    rw [h9, hre] at h2
    omega
  obtain ⟨_, hm1, hm6, _⟩ := ok_parts hok
  have HEQ : Hid (∀ q, accTo a (D + 1) t q = (a.altsAt sy q).any (altAcc a D t.kids)) := fun q => by
    show (a.altsAt t.label.toNat q).any _ = _
    rw [hsy, Int.toNat_natCast]
    rfl
  have HEL : Hid (accL a (D + 1) t = (List.range a.moves.length).map fun q => (a.altsAt sy q).any (altAcc a D t.kids)) := by
    unfold Hid accL
    exact List.map_congr_left fun q _ => HEQ.out q
  unfold AccPost
  rw [HEL.out, hsy]
  have HIH := Lib.hid ih
  have HF := Lib.hid h3
  have HA := Lib.hid ha
  have HK := Lib.hid hK
  have HM := Lib.hid hMv
  have HRW := Lib.hid hrows
  have hkl4 : t.kids.length ≤ 4 := by omega
  have HKR := Lib.hid hkr
  obtain ⟨w2, hw2⟩ : ∃ w2, w2 = (w.alloc (.cells #[.slice A a.ranks.length c, .int .i64 a.start, .slice B a.moves.length d] 25)).alloc (.cells #[.int .i64 sy, .slice C t.kids.length e] 29) := ⟨_, rfl⟩
  have hG2 : Grew w w2 := by rw [hw2]; exact grew_then_alloc (grew_alloc _ _) _
  have hs2' : w2.heap.size = w.heap.size + 2 := by rw [hw2]; simp
  have xa : ThreeAt w2 w.heap.size (.slice A a.ranks.length c) (.int .i64 a.start) (.slice B a.moves.length d) 25 := by
    rw [hw2]; exact (ThreeAt.new w _ _ _ _).frm (frm_alloc _ _)
  have xt : TwoAt w2 (w.heap.size + 1) (.int .i64 sy) (.slice C t.kids.length e) 29 := by
    rw [hw2]; exact TwoAt.new2 w _ _ _ _
  obtain ⟨w3, hw3⟩ : ∃ w3, w3 = w2.alloc (.cells (Array.replicate a.moves.length (.bool false)) 4) := ⟨_, rfl⟩
  have hmk := mk_bools a.moves.length (by omega) w2
  rw [← hw3, hs2'] at hmk
  have hG23 : Grew w2 w3 := by rw [hw3]; exact grew_alloc _ _
  have hO3 : BoolsAt w3 (w.heap.size + 2) (List.replicate a.moves.length false) := by
    have h := bools_made w2 a.moves.length
    rw [hs2'] at h
    rw [hw3]; exact h
  have hs3 : w3.heap.size = w.heap.size + 3 := by rw [hw3]; simp [hs2']
  obtain ⟨xa0, xa1, xa2⟩ := xa.cells
  obtain ⟨yt0, yt1, _, _⟩ := (xt.frm hG23.1).cells
  obtain ⟨xt0, xt1, _, _⟩ := xt.cells
  rw [hw2] at xa2 xt0 hmk
  have HW2 := Lib.hid hw2
  have HO3 := Lib.hid hO3
  have HS3 := Lib.hid hs3
  have HS2 := Lib.hid hs2'
  have hsy1 : ((sy : Int) == -1) = false := by simp
  have hlks := hlk
  have HOKA := Lib.hid hok
  clear hw2 hw3 ih h0 h1 h2 h3 ha hK hk hR hMv hrows hkr hok hO3 hs3 hs2' hsy hlb
  generalize t.kids = ks at *
  go_enter Tryz.func84, Tryz.ntmps84
  go_wp2_with fail
  go_loopw [9, 40] (fun z i wr => ∃ (k : Nat) (acc : List (List Bool)), k ≤ ks.length ∧ i = .int .i64 k ∧ Hid (acc = (ks.take k).map (accL a D)) ∧ acc.length = k ∧ Grew w3 wr ∧ Own BRow wr w3.heap.size 68 1 (fun b => w3.heap.size ≤ b) z acc) (fun _ i _ => ks.length - (intOf i).toNat)
  case atStart => exact ⟨0, [], Nat.zero_le _, rfl, rfl, rfl, grew_refl _, Own.nil _ _ _ _ _ _⟩
  case round =>
    obtain ⟨k, acc, hk, rfl, HACC, hal, hfr, hO⟩ := hrel
    obtain ⟨Au, cu, hev, hcu⟩ := hO.val
    rw [hal] at hev hcu
    subst hev
    have HAL := Lib.hid hal
    have HO := Lib.hid hO
    clear hal hO
    have hG2r := grew_trans hG23 hfr
    have hGr := grew_trans hG2 hG2r
    by_cases hlt : k < ks.length
    · obtain ⟨b, o, p0, p1, rfl, hb, hp0, hp1, hpt⟩ := (HK.out.frm hGr.1 (stays_rd (moves_tr D))).at2 k hlt
      have hfy := HF.out _ (List.getElem_mem hlt)
      have HT : Hid ((ks.take (k + 1)).map (accL a D) = acc ++ [accL a D ks[k]]) := by
        unfold Hid
        rw [List.take_succ_eq_append_getElem hlt, List.map_append, HACC.out]
        rfl
      generalize ks[k] = y at *
      obtain ⟨rfl, A1, n1, c1, rfl⟩ : p0 = .int .i64 y.label ∧ ∃ A1 n1 c1, p1 = .slice A1 n1 c1 := by
        cases D with
        | zero => exact hpt.elim
        | succ d =>
          obtain ⟨u, h, _, hsl⟩ := hpt
          simp only [List.cons.injEq, and_true] at h
          obtain ⟨h1, rfl⟩ := h
          obtain ⟨A1, c1, h2, _⟩ := hsl.val
          exact ⟨h1, _, _, _, h2⟩
      obtain ⟨xb0, xb1, xb2⟩ := (xa.frm (grew_then_alloc hG2r (.cells #[.int .i64 y.label, .slice A1 n1 c1] 29)).1).cells
      have hC := Lib.hid (HIH.out y (wr.alloc (.cells #[.int .i64 y.label, .slice A1 n1 c1] 29)) _ (rdO_frm moves_au (grew_then_alloc hGr _).1 HA.out) (rdO_frm (moves_tr D) (frm_alloc _ _) hpt) hfy)
      have HFR := Lib.hid hfr
      clear hpt hfy
      generalize hly : y.label = ly at *
      clear hly
      go_wp2_with fail
      refine hC.out.mono ?_
      rintro e w4 ⟨A4, c4, rfl, hf4, hrow4⟩
      have hG4 := grew_then_alloc HFR.out (.cells #[.int .i64 ly, .slice A1 n1 c1] 29)
      have hG4b := grew_trans hG4 hf4
      have hG45 := grew_then_alloc hG4b (.cells #[.slice A4 a.moves.length c4] 68)
      have hO5 := HO.out.kept moves_brow (show wr.grownBy (w4.alloc (.cells #[.slice A4 a.moves.length c4] 68)) none from frm_trans (frm_alloc _ _) (frm_then_alloc hf4.1 _)) (ownNone _) (by simp)
      have htw := OneAt.new w4 (.slice A4 a.moves.length c4) 68
      have hlen := HAL.out
      have hltO := HO.out.lt
      have hs4 := hf4.1.size
      have hsr := HFR.out.1.size
      have hsa : (wr.alloc (.cells #[.int .i64 ly, .slice A1 n1 c1] 29)).heap.size = wr.heap.size + 1 := by simp
      have hrow5 := hrow4.bools (by rw [accL_len]; omega) (S := fun g => wr.heap.size + 1 ≤ g ∧ g < w4.heap.size) (fun g h1 h2 => ⟨by omega, h2⟩)
      have HRow5 := Lib.hid hrow5
      clear hrow4 hrow5
      dsimp only
      repeat ((fail_if_success at_builtin); first | go_values | go_skip | go_guarded | go_step | go_upon)
      refine Own.app1 moves_brow elem_bools hO5 rfl _ _ rfl rfl rfl (accL a D y) [.slice A4 a.moves.length c4] rfl (one_at htw) ?_ ?_ (by rw [hlen]; omega) (by omega) (by simp; omega) ?_
      · intro u hu
        simp at hu
        subst hu
        rfl
      · refine moves_brow _ _ _ _ _ _ (fun q hq => ⟨by omega, by simp; omega, fun e => ?_⟩) (fun q hq => Below.heap_alloc _ _ _ hq.2) ⟨_, rfl, HRow5.out⟩
        have := (hltO q e.symm).2
        omega
      intro v7 w7 hO7 hg7 hp7
      have hfr7 : Grew w3 w7 := grew_own hG45 (fun b hb => (hltO b hb).1) hg7.1 hg7.2
      rw [← HT.out] at hO7
      obtain ⟨A7, c7, he7, hcc7⟩ := hO7.val
      have HO7 := Lib.hid hO7
      clear hO7 hO5 htw hltO
      rw [show ((ks.take (k + 1)).map (accL a D)).length = k + 1 by rw [List.length_map, List.length_take]; omega] at he7
      subst he7
      go_wp2_with fail
      exact ⟨⟨k + 1, _, by omega, by go_num, rfl, by rw [List.length_map, List.length_take]; omega, hfr7, HO7.out⟩, by simp [intOf]; omega⟩
    · obtain rfl : k = ks.length := by omega
      have HAC : Hid (acc = ks.map (accL a D)) := by
        have h := HACC.out
        rw [List.take_length] at h
        exact h
      have hsr := hfr.1.size
      have hs3 := HS3.out
      have HKD : Hid (Sl (fun b => b < wr.heap.size ∧ b ≠ w.heap.size + 2) wr 1 (BRow (fun b => b < wr.heap.size ∧ b ≠ w.heap.size + 2) wr) acc (.slice Au ks.length cu)) :=
        HO.out.sl2 moves_brow (by rw [HAL.out]; omega) (fun b h1 h2 => ⟨h2, by omega⟩) (fun b hb => by have := HO.out.lt b hb; exact ⟨this.2, by omega⟩)
      have hOr : BoolsAt wr (w.heap.size + 2) (tabU a.moves.length 0 (fun q => (a.altsAt sy q).any (altAcc a D ks)) fun _ => false) := by
        rw [tabU_zero, List.map_const', List.length_range]
        exact ValsAt.frm HO3.out hfr.1
      have HOr := Lib.hid hOr
      have HGr := Lib.hid hGr
      have HG2r := Lib.hid hG2r
      clear hOr
      obtain ⟨w5, hw5⟩ : ∃ w5 : World, w5 = wr := ⟨_, rfl⟩
      subst hw5
      go_wp2_with fail
      go_loopw [54] (fun i wr => ∃ q : Nat, q ≤ a.moves.length ∧ i = .int .i64 q ∧ GrewR w5 wr (some (w.heap.size + 2)) ∧ Hid (BoolsAt wr (w.heap.size + 2) (tabU a.moves.length q (fun q => (a.altsAt sy q).any (altAcc a D ks)) fun _ => false))) (fun i _ => a.moves.length - (intOf i).toNat)
      case atStart => exact ⟨0, Nat.zero_le _, rfl, grewR_refl _ _, HOr.out⟩
      case round =>
        obtain ⟨q, hq, rfl, hfq, HOQ⟩ := hrel
        have hGw : Grew w wr := grew_new HGr.out (by omega) hfq
        have hG2w : Grew w2 wr := grew_new HG2r.out (by have := HS2.out; omega) hfq
        by_cases hlt : q < a.moves.length
        · obtain ⟨b, o, p0, rfl, hb, hp0', hpt⟩ := HM.out.at1 q hlt
          have hp0 := frm_cell hGw.1 hp0'
          obtain ⟨hml, hma, hal12, hall⟩ := HRW.out q hlt
          generalize a.moves[q] = row at *
          have hRow := row_val hpt
          obtain ⟨A2, c2, rfl, hc2, hm2⟩ := hRow.val
          obtain ⟨b3, o3, q0, rfl, hb3, hq0', hqt⟩ := hRow.at1 sy hml
          have hq0 := frm_cell hGw.1 hq0'
          rw [hma] at hqt
          have hst8 : ∀ l ∈ a.altsAt sy q, ∀ x ∈ l, x.2.toNat < a.moves.length := fun l hl x hx => alts_state HOKA.out hl hx
          have HST8 := Lib.hid hst8
          clear hst8
          have HFQ : Hid (∀ B : Bool, B = (a.altsAt sy q).any (altAcc a D ks) → (tabU a.moves.length q (fun q => (a.altsAt sy q).any (altAcc a D ks)) fun _ => false).set q B = tabU a.moves.length (q + 1) (fun q => (a.altsAt sy q).any (altAcc a D ks)) fun _ => false) := fun B h => by
            rw [h]
            exact tabU_succ (f := fun q => (a.altsAt sy q).any (altAcc a D ks)) hlt
          have hO0 : BoolsAt wr (w.heap.size + 2) ((tabU a.moves.length q (fun q => (a.altsAt sy q).any (altAcc a D ks)) fun _ => false).set q false) := by
            rw [show (false : Bool) = (fun _ : Nat => false) q from rfl, tabU_self]
            exact HOQ.out
          have hTL : (tabU a.moves.length q (fun q => (a.altsAt sy q).any (altAcc a D ks)) fun _ => false).length = a.moves.length := tabU_len
          generalize (tabU a.moves.length q (fun q => (a.altsAt sy q).any (altAcc a D ks)) fun _ => false) = TB at *
          generalize a.altsAt sy q = alts at *
          have hAl := row_val hqt
          obtain ⟨A3, c3, rfl, hc3, hm3⟩ := hAl.val
          have HAl := Lib.hid hAl
          have HALL := Lib.hid hall
          have HO0 := Lib.hid hO0
          obtain ⟨xc0, xc1, xc2⟩ := (xa.frm hG2w.1).cells
          obtain ⟨zt0, zt1, _, _⟩ := (xt.frm hG2w.1).cells
          have hsyl : (sy : Int) < row.length := by omega
          clear hqt hpt hp0' hq0' hAl hRow hall hO0 hma
          go_wp2_with fail
          go_quiet (fail)
          have hGd : Grew wr (wr.drewN nq) := ⟨frm_drewN _ nq, Nat.le_add_right _ _⟩
          have hO1 : BoolsAt (wr.drewN nq) (w.heap.size + 2) (TB.set q false) := ValsAt.frm HO0.out hGd.1
          have HO1 := Lib.hid hO1
          clear hO1 xc0 xc1 xc2 zt0 zt1 hp0 hq0
          have hfd : GrewR w5 (wr.drewN nq) (some (w.heap.size + 2)) := grewR_trans hfq (grewR_weak hGd)
          generalize wr.drewN nq = w6 at *
          go_wp2_with fail
          go_loopw [67] (fun i wr => ∃ k : Nat, k ≤ alts.length ∧ i = .int .i64 k ∧ GrewR w5 wr (some (w.heap.size + 2)) ∧ Hid (BoolsAt wr (w.heap.size + 2) (TB.set q ((alts.take k).any (altAcc a D ks))))) (fun i _ => alts.length - (intOf i).toNat)
          case atStart => exact ⟨0, Nat.zero_le _, rfl, hfd, HO1.out⟩
          case round =>
            obtain ⟨k, hk, rfl, hfk, HOK⟩ := hrel
            have hGk : Grew w wr := grew_new HGr.out (by omega) hfk
            by_cases hltk : k < alts.length
            · obtain ⟨b4, o4, p4, rfl, hb4, hp4', hpt4⟩ := HAl.out.at1 k hltk
              have hp4 := frm_cell hGk.1 hp4'
              have HAN : Hid (∀ u v : Bool, u = (alts.take k).any (altAcc a D ks) → v = altAcc a D ks alts[k] → (u || v) = (alts.take (k + 1)).any (altAcc a D ks)) := fun u v h1 h2 => by
                rw [any_take _ _ hltk, h1, h2]
              obtain ⟨hl24, hxl⟩ := HALL.out _ (List.getElem_mem hltk)
              have hlm8 := List.getElem_mem hltk
              generalize alts[k] = l at *
              have hL := row_val hpt4
              obtain ⟨A4, c4, rfl, hc4, hm4⟩ := hL.val
              have HL := Lib.hid hL
              have HXL := Lib.hid hxl
              have HSL8 := Lib.hid (HST8.out _ hlm8)
              clear hpt4 hL hp4' hxl hlm8
              go_wp2_with fail
              obtain ⟨w7, hw7⟩ : ∃ w7 : World, w7 = wr := ⟨_, rfl⟩
              subst hw7
              go_loopw [15, 73] (fun z i wr => ∃ (p : Nat) (u : Bool), z = .bool u ∧ p ≤ l.length ∧ i = .int .i64 p ∧ Hid (u = (l.take p).all fun x => accTo a D (ks.getD x.1.toNat (.node 0 [])) x.2.toNat) ∧ Grew w7 wr) (fun _ i _ => l.length - (intOf i).toNat)
              case atStart => exact ⟨0, true, rfl, Nat.zero_le _, rfl, rfl, grew_refl _⟩
              case round =>
                obtain ⟨p, u, rfl, hp, rfl, HU, hfp⟩ := hrel
                have hfkp : GrewR w5 wr (some (w.heap.size + 2)) := grewR_trans hfk (grewR_weak hfp)
                by_cases hltp : p < l.length
                · obtain ⟨b5, o5, y0, y1, rfl, hb5, hy0', hy1', hyt⟩ := HL.out.at2 p hltp
                  obtain ⟨hyv, _⟩ := hyt
                  simp only [List.cons.injEq, and_true] at hyv
                  obtain ⟨rfl, rfl⟩ := hyv
                  have hGp := grew_trans hGk hfp
                  have hy0 := frm_cell hGp.1 hy0'
                  have hy1 := frm_cell hGp.1 hy1'
                  have HAT : Hid (∀ z : Bool, z = accTo a D (ks.getD l[p].1.toNat (.node 0 [])) l[p].2.toNat → (u && z) = (l.take (p + 1)).all fun x => accTo a D (ks.getD x.1.toNat (.node 0 [])) x.2.toNat) := fun z h => by
                    rw [all_take _ _ hltp, HU.out, h]
                  have hx := HXL.out _ (List.getElem_mem hltp)
                  have hxs := HSL8.out _ (List.getElem_mem hltp)
                  clear hy0' hy1'
                  generalize l[p] = x at *
                  obtain ⟨x1, x2⟩ := x
                  obtain ⟨⟨hx1, hx2⟩, hx3, hx4⟩ := hx
                  simp only at hx1 hx2 hx3 hx4 hy0 hy1 HAT hxs
                  obtain ⟨kd, rfl⟩ : ∃ kd : Nat, x1 = kd := ⟨x1.toNat, by omega⟩
                  obtain ⟨st, rfl⟩ : ∃ st : Nat, x2 = st := ⟨x2.toNat, by omega⟩
                  have hstn : st < a.moves.length := by
                    rw [Int.toNat_natCast] at hxs
                    exact hxs
                  have hkn : kd < acc.length := by rw [HAL.out, HKR.out]; omega
                  have hmv : ∀ b, (b < w5.heap.size ∧ b ≠ w.heap.size + 2) → wr.heap[b]? = w5.heap[b]? := fun b hb => hfkp.1.block b hb.1 (by intro e; injection e with e; exact hb.2 e)
                  have hKr := HKD.out.move (S' := fun b => b < w5.heap.size ∧ b ≠ w.heap.size + 2) (w' := wr) (r' := BRow (fun b => b < w5.heap.size ∧ b ≠ w.heap.size + 2) wr) (fun b hb => hb) hmv (fun x _ cs h => moves_brow _ _ _ _ _ _ (fun b hb => hb) hmv h)
                  obtain ⟨b6, o6, p6, rfl, hb6, hp6, hpt6⟩ := hKr.at1 kd hkn
                  have hkk : kd < ks.length := by rw [← HAL.out]; exact hkn
                  have hace : acc[kd] = accL a D ks[kd] := by
                    have h := HAC.out
                    subst h
                    simp
                  rw [hace] at hpt6
                  obtain ⟨v6, hve6, hR6⟩ := hpt6
                  obtain rfl : p6 = v6 := by simpa using hve6
                  obtain ⟨A6, c6, rfl, _, _⟩ := hR6.val
                  rw [accL_len] at hp6
                  obtain ⟨b8, o8, p8, rfl, hb8, hp8, hpt8⟩ := Sl.at1 hR6 st (by rw [accL_len]; exact hstn)
                  have hb8v : [p8] = [Value.bool ((accL a D ks[kd])[st]'(by rw [accL_len]; exact hstn))] := hpt8
                  rw [accL_at] at hb8v
                  simp only [List.cons.injEq, and_true] at hb8v
                  subst hb8v
                  have HZ : Hid (accTo a D ks[kd] st = accTo a D (ks.getD ((kd : Int)).toNat (.node 0 [])) ((st : Int)).toNat) := by
                    unfold Hid
                    rw [Int.toNat_natCast, Int.toNat_natCast]
                    simp [hkk]
                  generalize accTo a D ks[kd] st = zb at *
                  obtain ⟨x0, x1, _, _⟩ := (TwoAt.new wr (.int .i64 kd) (.int .i64 st) 80).cells
                  have hga : Grew wr (wr.alloc (.cells #[.int .i64 kd, .int .i64 st] 80)) := grew_alloc _ _
                  have hp6' := frm_cell hga.1 hp6
                  have hp8' := frm_cell hga.1 hp8
                  have hkd2 : (kd : Int) < ks.length := by omega
                  have hst2 : (st : Int) < a.moves.length := by omega
                  clear hKr hR6 hve6 hpt8 hace hp6 hp8 hx1 hx2 hx3 hx4
                  go_wp2_with fail
                  cases u with
                  | true =>
                    go_quiet (fail)
                    go_wp2_with fail
                    exact ⟨⟨p + 1, _, rfl, by omega, by go_num, HAT.out _ HZ.out, grew_trans (grew_then_alloc hfp _) ⟨frm_drewN _ nq, Nat.le_add_right _ _⟩⟩, by simp [intOf]; omega⟩
                  | false =>
                    go_quiet (fail)
                    go_wp2_with fail
                    exact ⟨⟨p + 1, _, rfl, by omega, by go_num, HAT.out _ HZ.out, grew_trans (grew_then_alloc hfp _) ⟨frm_drewN _ nq, Nat.le_add_right _ _⟩⟩, by simp [intOf]; omega⟩
                · obtain rfl : p = l.length := by omega
                  have HUE : Hid (u = altAcc a D ks l) := by
                    have h := HU.out
                    rw [List.take_length] at h
                    exact h
                  have hOw : BoolsAt wr (w.heap.size + 2) (TB.set q ((alts.take k).any (altAcc a D ks))) := ValsAt.frm HOK.out hfp.1
                  have hqT : q < (TB.set q ((alts.take k).any (altAcc a D ks))).length := by rw [List.length_set, hTL]; exact hlt
                  have hcq := hOw.at hqT
                  rw [List.getElem_set_self] at hcq
                  have hfz := ValsAt.free hOw q
                  have hOs := fun z : Bool => hOw.put q z
                  simp only [List.set_set] at hOs
                  have HOs := Lib.hid hOs
                  obtain ⟨ua, hua⟩ : ∃ ua, ua = (alts.take k).any (altAcc a D ks) := ⟨_, rfl⟩
                  rw [← hua] at hcq
                  have HUA := Lib.hid hua
                  clear hOs hOw hua hqT
                  cases ua with
                  | true =>
                    have HB := Lib.hid (HAN.out true u HUA.out HUE.out)
                    have HOE : Hid (BoolsAt (wr.setCell ⟨w.heap.size + 2, q, none⟩ (.bool true)) (w.heap.size + 2) (TB.set q ((alts.take (k + 1)).any (altAcc a D ks)))) := by
                      have h := HOs.out (true || u)
                      rw [HB.out] at h
                      have e2 : (alts.take (k + 1)).any (altAcc a D ks) = true := by rw [← HB.out]; rfl
                      rw [e2] at h ⊢
                      exact h
                    go_wp2_with fail
                    exact ⟨⟨k + 1, by omega, by go_num, grewR_set (grewR_trans hfk (grewR_weak hfp)) _ _, HOE.out⟩, by simp [intOf]; omega⟩
                  | false =>
                    have HB := Lib.hid (HAN.out false u HUA.out HUE.out)
                    have HOE : Hid (BoolsAt (wr.setCell ⟨w.heap.size + 2, q, none⟩ (.bool u)) (w.heap.size + 2) (TB.set q ((alts.take (k + 1)).any (altAcc a D ks)))) := by
                      have h := HOs.out u
                      have e2 : (alts.take (k + 1)).any (altAcc a D ks) = u := by rw [← HB.out]; rfl
                      rw [e2]
                      exact h
                    go_wp2_with fail
                    exact ⟨⟨k + 1, by omega, by go_num, grewR_set (grewR_trans hfk (grewR_weak hfp)) _ _, HOE.out⟩, by simp [intOf]; omega⟩
            · obtain rfl : k = alts.length := by omega
              have HE : Hid (BoolsAt wr (w.heap.size + 2) (tabU a.moves.length (q + 1) (fun q => (a.altsAt sy q).any (altAcc a D ks)) fun _ => false)) := by
                have h := HOK.out
                rw [List.take_length] at h
                unfold Hid
                rw [← HFQ.out _ rfl]
                exact h
              go_wp2_with fail
              exact ⟨⟨q + 1, by omega, by go_num, hfk, HE.out⟩, by simp [intOf]; omega⟩
        · obtain rfl : q = a.moves.length := by omega
          have hE := HOQ.out
          rw [tabU_end] at hE
          have HE := Lib.hid hE
          clear hE
          go_wp2_with fail
          refine bodyPost_ret (results_tmp rfl _ _ _) rfl ⟨_, _, rfl, hGw, RowV.made HE.out (by omega) _ (by simp)⟩
end Go.Proofs.YtjpdmncafacmaaaGreatDoor
end
/- The reference's ways. -/
section
set_option linter.unusedVariables false
set_option linter.unusedSimpArgs false
namespace Go.Proofs.YtjpdmncafacmaaaGreatDoor
open Go.RowKit

/-- The states of a set, from one on. -/
def fromL (n set q : Nat) : List Nat := (List.range' q (n - q)).filter fun i => set.testBit i
theorem fromL_step {n set q : Nat} (h : q < n) : fromL n set q = if set.testBit q then q :: fromL n set (q + 1) else fromL n set (q + 1) := by
  unfold fromL
  obtain ⟨d, hd⟩ : ∃ d, n - q = d + 1 := ⟨n - q - 1, by omega⟩
  rw [hd, List.range'_succ, List.filter_cons, show n - (q + 1) = d by omega]
theorem fromL_end (n set : Nat) : fromL n set n = [] := by unfold fromL; simp
theorem fromL_zero {n set : Nat} (hn : n ≤ 6) (hs : set < 2 ^ n) : fromL n set 0 = listP set := by
  have h64 : set < 64 := Nat.lt_of_lt_of_le hs (Nat.pow_le_pow_right (n := 2) (by omega) hn)
  rw [bits_eq set h64]
  unfold fromL
  rw [Nat.sub_zero, ← List.range_eq_range']
  have h : ∀ d, (List.range (n + d)).filter (fun i => set.testBit i) = (List.range n).filter fun i => set.testBit i := by
    intro d
    induction d with
    | zero => rfl
    | succ d ih =>
      rw [show n + (d + 1) = (n + d) + 1 by omega, List.range_succ, List.filter_append, ih]
      have : set.testBit (n + d) = false := Nat.testBit_lt_two_pow (Nat.lt_of_lt_of_le hs (Nat.pow_le_pow_right (n := 2) (by omega) (by omega)))
      simp [this]
  have := h (6 - n)
  rw [show n + (6 - n) = 6 by omega] at this
  exact this.symm
/-- The first sets of four, as numbers. -/
def kidL (k : K4) (r : Nat) : List Int := (List.range r).map fun i => (k.get i : Int)
theorem kidL_len (k : K4) (r : Nat) : (kidL k r).length = r := by unfold kidL; simp
theorem kidL_at {k : K4} {r i : Nat} (h : i < (kidL k r).length) : (kidL k r)[i] = k.get i := map_range_at (fun i => (k.get i : Int)) r i h
theorem k4_get_or (k : K4) {i : Nat} (hi : i < 4) (s : Nat) {j : Nat} (hj : j < 4) : (k.or i s).get j = if i = j then k.get i ||| 2 ^ s else k.get j := by
  unfold K4.or
  match i, hi, j, hj with
  | 0, _, 0, _ => rfl
  | 0, _, 1, _ => rfl
  | 0, _, 2, _ => rfl
  | 0, _, 3, _ => rfl
  | 1, _, 0, _ => rfl
  | 1, _, 1, _ => rfl
  | 1, _, 2, _ => rfl
  | 1, _, 3, _ => rfl
  | 2, _, 0, _ => rfl
  | 2, _, 1, _ => rfl
  | 2, _, 2, _ => rfl
  | 2, _, 3, _ => rfl
  | 3, _, 0, _ => rfl
  | 3, _, 1, _ => rfl
  | 3, _, 2, _ => rfl
  | 3, _, 3, _ => rfl
theorem kidL_or (k : K4) {r i : Nat} (hr : r ≤ 4) (hi : i < r) (s : Nat) : (kidL k r).set i ((k.get i ||| 2 ^ s : Nat) : Int) = kidL (k.or i s) r := by
  apply List.ext_getElem
  · simp [kidL_len]
  · intro j h1 h2
    rw [kidL_len] at h2
    rw [List.getElem_set, kidL_at, kidL_at, k4_get_or k (by omega) s (by omega)]
    by_cases e : i = j
    · rw [if_pos e, if_pos e]
    · rw [if_neg e, if_neg e]
def okn (N : Nat) (k : K4) : Prop := ∀ i, k.get i < N
theorem okn_or {n : Nat} {k : K4} (h : okn (2 ^ n) k) (i : Nat) {s : Nat} (hs : s < n) : okn (2 ^ n) (k.or i s) := by
  intro j
  have h2 : (k.or i s).get j = k.get j ∨ ∃ i', (k.or i s).get j = k.get i' ||| 2 ^ s := by
    unfold K4.or
    match i, j with
    | 0, 0 => exact .inr ⟨0, rfl⟩
    | 0, 1 => exact .inl rfl
    | 0, 2 => exact .inl rfl
    | 0, j + 3 => exact .inl rfl
    | 1, 0 => exact .inl rfl
    | 1, 1 => exact .inr ⟨1, rfl⟩
    | 1, 2 => exact .inl rfl
    | 1, j + 3 => exact .inl rfl
    | 2, 0 => exact .inl rfl
    | 2, 1 => exact .inl rfl
    | 2, 2 => exact .inr ⟨2, rfl⟩
    | 2, j + 3 => exact .inl rfl
    | i + 3, 0 => exact .inl rfl
    | i + 3, 1 => exact .inl rfl
    | i + 3, 2 => exact .inl rfl
    | i + 3, j + 3 => exact .inr ⟨3, rfl⟩
  rcases h2 with h2 | ⟨i', h2⟩
  · rw [h2]; exact h j
  · rw [h2]; exact Nat.or_lt_two_pow (h i') (Nat.pow_lt_pow_right (by omega) hs)
theorem okn_add {n : Nat} : ∀ (l : List Nd) {k : K4}, okn (2 ^ n) k → (∀ x ∈ l, x.2.toNat < n) → okn (2 ^ n) (k4Add k l)
  | [], _, h, _ => h
  | x :: l, _, h, hl => okn_add l (okn_or h _ (hl x (by simp))) fun y hy => hl y (by simp [hy])
theorem okn_zero {n : Nat} : okn (2 ^ n) (0, 0, 0, 0) := fun i => by
  have h : K4.get (0, 0, 0, 0) i = 0 := by
    unfold K4.get
    split <;> rfl
  rw [h]
  exact Nat.two_pow_pos n
/-- The sets that are there. -/
def dnL (dn : Nat → Option Made) (N : Nat) : List Bool := (List.range N).map fun s => (dn s).isSome
theorem dnL_len (dn : Nat → Option Made) (N : Nat) : (dnL dn N).length = N := by unfold dnL; simp
theorem dnL_at {dn : Nat → Option Made} {N s : Nat} (h : s < (dnL dn N).length) : (dnL dn N)[s] = (dn s).isSome := map_range_at (fun s => (dn s).isSome) N s h
theorem there_false {dn : Nat → Option Made} {r i : Nat} {k : K4} (hi : i < r) (h : (dn (k.get i)).isSome = false) : there dn r k = false := by
  unfold there
  rw [List.all_eq_false]
  exact ⟨i, List.mem_range.2 hi, by rw [h]; simp⟩
theorem or_i64p (a s : Nat) (ha : a < 64) (hs : s < 6) : bits .or .i64 (a : Int) ((2 : Int) ^ s) = ((a ||| 2 ^ s : Nat) : Int) := by
  have h := or_i64 a (2 ^ s) ha (shl_i64 s hs).2
  rw [show ((2 ^ s : Nat) : Int) = (2 : Int) ^ s by rw [Int.natCast_pow]; rfl] at h
  exact h
set_option maxRecDepth 100000 in
set_option maxHeartbeats 4000000 in
theorem ways_calls (a : Au) (hok : a.ok = true) (dn : Nat → Option Made) (sym : Nat) (hsym : sym < a.ranks.length) (set : Nat) (hset : set < 2 ^ a.moves.length) (r m : Value) :
    ∀ (D q : Nat), a.moves.length - q ≤ D → q ≤ a.moves.length → ∀ (k : K4) (hkn : okn (2 ^ a.moves.length) k) (w : World) (kv tv : Value) (ha : rdO AuR w a [r, .int .i64 a.start, m])
      (hkv : SlO w 1 (rdO IntR) (kidL k (a.rankAt sym)) kv) (htv : SlO w 1 (rdO BolR) (dnL dn (2 ^ a.moves.length)) tv),
    Calls Tryz.prog 38 #[.agg #[r, .int .i64 a.start, m], .int .i64 sym, .int .i64 set, .int .i64 q, kv, tv] w (RetD w (.bool (waysP (a.altsAt sym) dn (a.rankAt sym) (fromL a.moves.length set q) k))) := by
  intro D
  induction D using Nat.strongRecOn with
  | ind D ih =>
  intro q hqD hqn k hkn w kv tv ha hkv htv
  obtain ⟨hR, hMv, hs1, hs2⟩ := AuR.parts ha
  obtain ⟨A, c, rfl, hc, hlm⟩ := hR.val
  obtain ⟨B, d, rfl, hd, hlm2⟩ := hMv.val
  obtain ⟨C, ce, hkve, hce, _⟩ := hkv.val
  rw [kidL_len] at hkve hce
  subst hkve
  obtain ⟨E, g, htve, hg, _⟩ := htv.val
  rw [dnL_len] at htve hg
  subst htve
  obtain ⟨_, hm1, hm6, _⟩ := ok_parts hok
  obtain ⟨hr4, hre, hrows⟩ := au_sym hok hsym
  have hn64 : 2 ^ a.moves.length ≤ 64 := Nat.pow_le_pow_right (n := 2) (by omega) hm6
  have hset64 : set < 64 := by omega
  have HOK := Lib.hid hok
  have HIH := Lib.hid ih
  have HKN := Lib.hid hkn
  have HA := Lib.hid ha
  have HKV := Lib.hid hkv
  have HTV := Lib.hid htv
  have HM := Lib.hid hMv
  have HRW := Lib.hid hrows
  have HS := Lib.hid hset
  have HR4 := Lib.hid hr4
  have HQD := Lib.hid hqD
  obtain ⟨w1, hw1⟩ : ∃ w1, w1 = w.alloc (.cells #[.slice A a.ranks.length c, .int .i64 a.start, .slice B a.moves.length d] 25) := ⟨_, rfl⟩
  have hG1 : Grew w w1 := by rw [hw1]; exact grew_alloc _ _
  have xa : ThreeAt w1 w.heap.size (.slice A a.ranks.length c) (.int .i64 a.start) (.slice B a.moves.length d) 25 := by
    rw [hw1]; exact ThreeAt.new w _ _ _ _
  have HW1 := Lib.hid hw1
  obtain ⟨n, hn⟩ : ∃ n, n = a.moves.length := ⟨_, rfl⟩
  obtain ⟨N, hN⟩ : ∃ N, N = 2 ^ a.moves.length := ⟨_, rfl⟩
  obtain ⟨rk, hrk⟩ : ∃ rk, rk = a.rankAt sym := ⟨_, rfl⟩
  have HNN := Lib.hid hN
  rw [← hN] at HTV HS HKN hn64 hg ⊢
  rw [← hrk] at HKV hce hr4 HR4 ⊢
  have HRK := Lib.hid hrk
  clear hw1 hok ih hkn ha hkv htv hR hMv hrows hset hqD hre hn hN hrk hs1 hs2
  go_enter Tryz.func38, Tryz.ntmps38
  go_wp2_with fail
  rw [← HW1.out]
  go_loopw [3] (fun i wr => ∃ q' : Nat, q ≤ q' ∧ q' ≤ a.moves.length ∧ i = .int .i64 q' ∧ Grew w1 wr ∧ Hid (fromL a.moves.length set q = fromL a.moves.length set q')) (fun i _ => a.moves.length - (intOf i).toNat)
  case atStart => exact ⟨q, Nat.le_refl _, hqn, rfl, grew_refl _, rfl⟩
  case round =>
    obtain ⟨q', hqq, hq', rfl, hfr, HFL⟩ := hrel
    obtain ⟨xa0, xa1, xa2⟩ := (xa.frm hfr.1).cells
    have hGr := grew_trans hG1 hfr
    by_cases hlt : q' < a.moves.length
    · have HH := Lib.hid (has_calls set q' hset64 (by omega) wr)
      have hFS := fromL_step (set := set) hlt
      cases hb : set.testBit q' with
      | false =>
        rw [hb] at HH hFS
        have HFS := Lib.hid hFS
        clear hFS hb
        go_wp2_with fail
        refine HH.out.mono ?_
        rintro e w2 ⟨rfl, hf2⟩
        dsimp only
        go_wp2_with fail
        exact ⟨⟨q' + 1, by omega, by omega, by go_num, grew_trans hfr hf2, by unfold Hid; rw [HFL.out, HFS.out]; rfl⟩, by simp [intOf]; omega⟩
      | true =>
        rw [hb] at HH hFS
        have HFS := Lib.hid hFS
        obtain ⟨b, o, p0, rfl, hb0, hp0', hpt⟩ := HM.out.at1 q' hlt
        obtain ⟨hml, hma, hal12, hall⟩ := HRW.out q' hlt
        have HST8 : Hid (∀ l ∈ a.altsAt sym q', ∀ x ∈ l, x.2.toNat < a.moves.length) := fun l hl x hx => alts_state HOK.out hl hx
        generalize a.moves[q'] = row at *
        have hRow := row_val hpt
        obtain ⟨A2, c2, rfl, hc2, hm2⟩ := hRow.val
        obtain ⟨b3, o3, q0, rfl, hb3, hq0', hqt⟩ := hRow.at1 sym hml
        rw [hma] at hqt
        have HWP : Hid (∀ B : Bool, (a.altsAt sym q').any (fun l => waysP (a.altsAt sym) dn rk (fromL a.moves.length set (q' + 1)) (k4Add k l)) = B → waysP (a.altsAt sym) dn rk (fromL a.moves.length set q) k = B) := fun B h => by
          rw [HFL.out, HFS.out, if_pos rfl]
          exact h
        generalize hALT : a.altsAt sym q' = alts at *
        have hAl := row_val hqt
        obtain ⟨A3, c3, rfl, hc3, hm3⟩ := hAl.val
        have HAl := Lib.hid hAl
        have HALL := Lib.hid hall
        have hsyl : (sym : Int) < row.length := by omega
        have hq'2 : (q' : Int) < a.moves.length := by omega
        have hqe : ((q' : Int) == (a.moves.length : Int)) = false := by simp; omega
        clear hqt hpt hAl hRow hall hma hFS hb hALT
        go_wp2_with fail
        refine HH.out.mono ?_
        rintro e w2 ⟨rfl, hf2⟩
        have hfr2 := grew_trans hfr hf2
        have hGr2 := grew_trans hGr hf2
        have hp0 := frm_cell hGr2.1 hp0'
        have hq0 := frm_cell hGr2.1 hq0'
        clear xa0 xa1 xa2
        obtain ⟨xa0, xa1, xa2⟩ := (xa.frm hfr2.1).cells
        dsimp only
        clear hp0' hq0'
        go_wp2_with fail
        go_loopw [59] (fun i wr => ∃ e : Nat, e ≤ alts.length ∧ i = .int .i64 e ∧ Grew w2 wr ∧ Hid ((alts.take e).any (fun l => waysP (a.altsAt sym) dn rk (fromL a.moves.length set (q' + 1)) (k4Add k l)) = false)) (fun i _ => alts.length - (intOf i).toNat)
        case atStart => exact ⟨0, Nat.zero_le _, rfl, grew_refl _, rfl⟩
        case round =>
          obtain ⟨e, he, rfl, hfe, HE⟩ := hrel
          have hGe := grew_trans hGr2 hfe
          by_cases hlte : e < alts.length
          · obtain ⟨b4, o4, p4, rfl, hb4, hp4', hpt4⟩ := HAl.out.at1 e hlte
            have hp4 := frm_cell hGe.1 hp4'
            have HAN : Hid (∀ v : Bool, waysP (a.altsAt sym) dn rk (fromL a.moves.length set (q' + 1)) (k4Add k alts[e]) = v → (alts.take (e + 1)).any (fun l => waysP (a.altsAt sym) dn rk (fromL a.moves.length set (q' + 1)) (k4Add k l)) = v) := fun v h => by
              rw [any_take _ _ hlte, HE.out, h]
              rfl
            have HAT : Hid (waysP (a.altsAt sym) dn rk (fromL a.moves.length set (q' + 1)) (k4Add k alts[e]) = true → alts.any (fun l => waysP (a.altsAt sym) dn rk (fromL a.moves.length set (q' + 1)) (k4Add k l)) = true) := fun h => List.any_eq_true.2 ⟨_, List.getElem_mem hlte, h⟩
            obtain ⟨hl24, hxl⟩ := HALL.out _ (List.getElem_mem hlte)
            have HSL8 := Lib.hid (HST8.out _ (List.getElem_mem hlte))
            generalize alts[e] = l at *
            have hL := row_val hpt4
            obtain ⟨A4, c4, rfl, hc4, hm4⟩ := hL.val
            have HL := Lib.hid hL
            have HXL := Lib.hid hxl
            clear hpt4 hL hp4' hxl xa0 xa1 xa2
            repeat ((fail_if_success at_builtin); first | go_values | go_skip | go_guarded | go_step | go_upon)
            have hO5 := Own.empty IntR wr 3 1 (fun _ => True) (Nat.le_refl wr.heap.size)
            have hGe5 := grew_then_alloc hGe (.cells #[] 3)
            have hS5 : Sl (fun b => b < w.heap.size) (wr.alloc (.cells #[] 3)) 1 (IntR (fun b => b < w.heap.size) (wr.alloc (.cells #[] 3))) (kidL k rk) (.slice C rk ce) :=
              Sl.move HKV.out (fun b hb => hb) (frm_lt hGe5.1) fun x _ cs h => moves_int _ _ _ _ _ _ (fun b hb => hb) (frm_lt hGe5.1) h
            have hszr := hGe.1.size
            obtain ⟨v6, w6, hrun, hO6, hg6, hp6⟩ := Own.app_sl moves_int elem_int hO5 22 hS5 (fun b hb => ⟨trivial, by simp; omega, fun e => by
              have e2 : some b = some wr.heap.size := e
              injection e2 with e2
              omega⟩) (fun x cs h u hu => by
              obtain ⟨rfl, _⟩ := h
              simp only [List.mem_cons, List.not_mem_nil, or_false] at hu
              subst hu; rfl) (by simp [kidL_len]; omega) (by omega) (by simp)
            refine append_list _ _ rfl rfl rfl rfl hrun ?_
            have hG6 : Grew wr w6 := grew_new (grew_alloc wr _) (Nat.le_refl _) hg6
            rw [List.nil_append] at hO6
            have hV6 := hO6.rowV int_one
            obtain ⟨A6, c6, hv6, hc6⟩ := hV6.val
            rw [List.length_map, kidL_len] at hv6 hc6
            subst hv6
            have HV6 := Lib.hid hV6
            clear hrun hO6 hO5 hS5 hV6 hp6 hg6 hGe5
            obtain ⟨wi, hwi⟩ : ∃ wi : World, wi = wr := ⟨_, rfl⟩
            subst hwi
            go_wp2_with fail
            go_loopw [68] (fun i wz => ∃ p : Nat, p ≤ l.length ∧ i = .int .i64 p ∧ Grew wi wz ∧ Hid (RowV wz wi.heap.size (.slice A6 rk c6) ((kidL (k4Add k (l.take p)) rk).map intV)) ∧ Hid (okn N (k4Add k (l.take p)))) (fun i _ => l.length - (intOf i).toNat)
            case atStart => exact ⟨0, Nat.zero_le _, rfl, hG6, HV6.out, HKN.out⟩
            case round =>
              obtain ⟨p, hp, rfl, hfp, HRV, HKP⟩ := hrel
              have hGp := grew_trans hGe hfp
              by_cases hltp : p < l.length
              · obtain ⟨b5, o5, y0, y1, rfl, hb5, hy0', hy1', hyt⟩ := HL.out.at2 p hltp
                obtain ⟨hyv, _⟩ := hyt
                simp only [List.cons.injEq, and_true] at hyv
                obtain ⟨rfl, rfl⟩ := hyv
                have hy0 := frm_cell hGp.1 hy0'
                have hy1 := frm_cell hGp.1 hy1'
                have HKA : Hid (k4Add k (l.take (p + 1)) = (k4Add k (l.take p)).or l[p].1.toNat l[p].2.toNat) := k4Add_take hltp
                have hx := HXL.out _ (List.getElem_mem hltp)
                have hxs := HSL8.out _ (List.getElem_mem hltp)
                clear hy0' hy1'
                generalize l[p] = x at *
                obtain ⟨x1, x2⟩ := x
                obtain ⟨⟨hx1, hx2⟩, hx3, hx4⟩ := hx
                simp only at hx1 hx2 hx3 hx4 hy0 hy1 HKA hxs
                obtain ⟨kd, rfl⟩ : ∃ kd : Nat, x1 = kd := ⟨x1.toNat, by omega⟩
                obtain ⟨st, rfl⟩ : ∃ st : Nat, x2 = st := ⟨x2.toNat, by omega⟩
                rw [Int.toNat_natCast, Int.toNat_natCast] at HKA
                rw [Int.toNat_natCast] at hxs
                have hkd : kd < rk := by rw [HRK.out]; omega
                have hkd4 : kd < 4 := by omega
                have hst6 : st < 6 := by omega
                have hst64 : (st : Int) ≤ 64 := by omega
                have hkdr : (kd : Int) < rk := by omega
                have HKQ : Hid (okn N (k4Add k (l.take (p + 1)))) := by
                  unfold Hid
                  rw [HKA.out]
                  have h := HKP.out
                  rw [HNN.out] at h ⊢
                  exact okn_or h kd hxs
                obtain ⟨g6, rfl, hbg, hgl, hug, hxg⟩ := HRV.out.open (by rw [List.length_map, kidL_len]; omega)
                have hcg := hxg kd (by rw [List.length_map, kidL_len]; exact hkd)
                rw [List.getElem_map, kidL_at] at hcg
                have hga : Grew wr (wr.alloc (.cells #[.int .i64 kd, .int .i64 st] 80)) := grew_alloc _ _
                have hg64 : (k4Add k (l.take p)).get kd < 64 := Nat.lt_of_lt_of_le (HKP.out kd) hn64
                have hor := or_i64p _ st hg64 hst6
                have HPUT : Hid (RowV (((wr.alloc (.cells #[.int .i64 kd, .int .i64 st] 80)).setCell ⟨g6, kd, none⟩ (.int .i64 (((k4Add k (l.take p)).get kd ||| 2 ^ st : Nat) : Int))).drew) wi.heap.size (.slice (some ⟨g6, 0, none⟩) rk c6) ((kidL (k4Add k (l.take (p + 1))) rk).map intV)) := by
                  have h := ((HRV.out.grew hga).put (by rw [List.length_map, kidL_len]; omega) kd (intV (((k4Add k (l.take p)).get kd ||| 2 ^ st : Nat) : Int))).grew (grew_drew _)
                  rw [← List.map_set, kidL_or _ HR4.out hkd, ← HKA.out] at h
                  exact h
                have hcg2 := frm_cell hga.1 hcg
                have hfz2 : (wr.alloc (.cells #[.int .i64 kd, .int .i64 st] 80)).frozen? ⟨g6, kd, none⟩ = false := frm_frozen hga.1 hgl (hug kd)
                have hbe : wi.heap.size ≤ g6 := hbg
                obtain ⟨x0, x1, _, _⟩ := (TwoAt.new wr (.int .i64 kd) (.int .i64 st) 80).cells
                have hsh := (shl_i64 st hst6).1
                unfold intV at hcg2
                obtain ⟨gk, hgk⟩ : ∃ gk, gk = (k4Add k (l.take p)).get kd := ⟨_, rfl⟩
                rw [← hgk] at hcg2 hor HPUT
                obtain ⟨pw, hpw⟩ : ∃ pw, pw = gk ||| 2 ^ st := ⟨_, rfl⟩
                rw [← hpw] at hor HPUT
                have hf9 : Grew wi (((wr.alloc (.cells #[.int .i64 kd, .int .i64 st] 80)).setCell ⟨g6, kd, none⟩ (.int .i64 (pw : Int))).drew) := grew_trans (grew_set_new (grew_then_alloc hfp _) hbe _ _) (grew_drew _)
                have HF9 := Lib.hid hf9
                clear hf9 hgk hpw hcg hxg hug hg64 hx1 hx2 hx3 hx4
                go_wp2_with fail
                generalize wr.alloc (.cells #[.int .i64 kd, .int .i64 st] 80) = w8 at *
                go_still_tail 13, (by kernel_rfl)
                go_wp2_with fail
                exact ⟨⟨p + 1, by omega, by go_num, HF9.out, HPUT.out, HKQ.out⟩, by simp [intOf]; omega⟩
              · obtain rfl : p = l.length := by omega
                rw [List.take_length] at HRV HKP
                obtain ⟨xb0, xb1, xb2⟩ := (xa.frm (grew_trans hfr2 (grew_trans hfe hfp)).1).cells
                have hkb : ∀ x ∈ kidL (k4Add k l) rk, -9223372036854775808 ≤ x ∧ x ≤ 9223372036854775807 := fun x hx => by
                  obtain ⟨i, _, rfl⟩ := List.mem_map.1 (show x ∈ (List.range rk).map fun i => ((k4Add k l).get i : Int) from hx)
                  have := HKP.out i
                  omega
                have hsl : SlO wr 1 (rdO IntR) (kidL (k4Add k l) rk) (.slice A6 rk c6) := HRV.out.ints (by rw [kidL_len]; omega) hkb (fun g _ h => h)
                have hC := HIH.out (a.moves.length - (q' + 1)) (by have := HQD.out; omega) (q' + 1) (Nat.le_refl _) (by omega) (k4Add k l) (by have h := HKP.out; rw [HNN.out] at h; exact h) wr (.slice A6 rk c6) (.slice E N g) (rdO_frm moves_au hGp.1 HA.out) (by rw [← HRK.out]; exact hsl) (by rw [← HNN.out]; exact HTV.out.frm hGp.1 (stays_rd moves_bol))
                rw [show ((q' + 1 : Nat) : Int) = (q' : Int) + 1 by omega, ← HRK.out] at hC
                have HC := Lib.hid hC
                have HGP := Lib.hid hfp
                obtain ⟨wv, hwv⟩ : ∃ wv, wv = waysP (a.altsAt sym) dn rk (fromL a.moves.length set (q' + 1)) (k4Add k l) := ⟨_, rfl⟩
                rw [← hwv] at HC
                have HWV := Lib.hid hwv
                clear hkb hsl hC hwv
                go_wp2_with fail
                refine HC.out.mono ?_
                rintro e w9 ⟨rfl, hf9⟩
                have hG9 := grew_trans hfe (grew_trans HGP.out hf9)
                dsimp only
                cases wv with
                | true =>
                  have HD := Lib.hid (HWP.out true (HAT.out HWV.out.symm))
                  go_wp2_with fail
                  exact bodyPost_ret (results_tmp rfl _ _ _) rfl ⟨by rw [HD.out]; rfl, grew_trans hGr2 hG9⟩
                | false =>
                  have HD := Lib.hid (HAN.out false HWV.out.symm)
                  go_wp2_with fail
                  exact ⟨⟨e + 1, by omega, by go_num, hG9, HD.out⟩, by simp [intOf]; omega⟩
          · obtain rfl : e = alts.length := by omega
            have HD := Lib.hid (HWP.out false (by have h := HE.out; rw [List.take_length] at h; exact h))
            go_wp2_with fail
            exact bodyPost_ret (results_tmp rfl _ _ _) rfl ⟨by rw [HD.out]; rfl, grew_trans hGr2 hfe⟩
    · obtain rfl : q' = a.moves.length := by omega
      have HWP : Hid (∀ B : Bool, there dn rk k = B → waysP (a.altsAt sym) dn rk (fromL a.moves.length set q) k = B) := fun B h => by
        rw [HFL.out, fromL_end]
        exact h
      go_wp2_with fail
      obtain ⟨wo, hwo⟩ : ∃ wo : World, wo = wr := ⟨_, rfl⟩
      subst hwo
      go_loopw [40] (fun i wr => ∃ j : Nat, j ≤ rk ∧ i = .int .i64 j ∧ Grew wo wr ∧ Hid (∀ i, i < j → (dn (k.get i)).isSome = true)) (fun i _ => rk - (intOf i).toNat)
      case atStart => exact ⟨0, Nat.zero_le _, rfl, grew_refl _, fun i hi => absurd hi (Nat.not_lt_zero _)⟩
      case round =>
        obtain ⟨j, hj, rfl, hfj, HJ⟩ := hrel
        have hGj := grew_trans hGr hfj
        by_cases hltj : j < rk
        · obtain ⟨b, o, p0, rfl, hb0, hp0', hpt⟩ := HKV.out.at1 j (by rw [kidL_len]; exact hltj)
          obtain ⟨hpv, _⟩ := hpt
          rw [kidL_at] at hpv
          simp only [List.cons.injEq, and_true] at hpv
          subst hpv
          have hkj := HKN.out j
          obtain ⟨b2, o2, q0, rfl, hb2, hq0', hqt⟩ := HTV.out.at1 (k.get j) (by rw [dnL_len]; exact hkj)
          have hqv : [q0] = [Value.bool ((dnL dn N)[k.get j]'(by rw [dnL_len]; exact hkj))] := by
            have h : [q0] = [Value.bool _] := hqt
            rw [h]
          rw [dnL_at] at hqv
          simp only [List.cons.injEq, and_true] at hqv
          subst hqv
          have hp0 := frm_cell hGj.1 hp0'
          have hq0 := frm_cell hGj.1 hq0'
          have HJS : Hid ((dn (k.get j)).isSome = true → ∀ i, i < j + 1 → (dn (k.get i)).isSome = true) := fun h i hi => by
            by_cases e : i = j
            · subst e; exact h
            · exact HJ.out i (by omega)
          have HJF : Hid ((dn (k.get j)).isSome = false → there dn rk k = false) := fun h => there_false hltj h
          have hkj2 : ((k.get j : Nat) : Int) < N := by omega
          have hjr : (j : Int) < rk := by omega
          generalize k.get j = kj at *
          generalize hds : (dn kj).isSome = ds at *
          clear hp0' hq0' hqt hds hkj
          cases ds with
          | true =>
            have HD := Lib.hid (HJS.out rfl)
            go_wp2_with fail
            exact ⟨⟨j + 1, by omega, by go_num, hfj, HD.out⟩, by simp [intOf]; omega⟩
          | false =>
            have HD := Lib.hid (HWP.out false (HJF.out rfl))
            go_wp2_with fail
            exact bodyPost_ret (results_tmp rfl _ _ _) rfl ⟨by rw [HD.out]; rfl, hGj⟩
        · obtain rfl : j = rk := by omega
          have HD := Lib.hid (HWP.out true (by
            unfold there
            exact List.all_eq_true.2 fun i hi => HJ.out i (List.mem_range.1 hi)))
          go_wp2_with fail
          exact bodyPost_ret (results_tmp rfl _ _ _) rfl ⟨by rw [HD.out]; rfl, hGj⟩
end Go.Proofs.YtjpdmncafacmaaaGreatDoor
end
/- The reference's Least. -/
section
set_option linter.unusedVariables false
set_option linter.unusedSimpArgs false
namespace Go.Proofs.YtjpdmncafacmaaaGreatDoor
open Go.RowKit

section
variable {P : Program} {Q : Exit → Act → World → Prop} {md : Region.Mode} {S : World → Prop} {z : Nat}
/-- Operation `i` is not wanted, and is passed first. -/
theorem ordE_no {L : List Oper} (i : Nat) {oi : Oper} {n : Nat} {done : Array Bool} {a : Act} {w : World} (hi : L[i]? = some oi)
    (hs : Region.noSelect L.toArray = true) (hf : Region.free md L.toArray done i = true) (hr : (Region.ready md L.toArray done).contains i = true) (hz : Region.waitsFor md L.toArray z i = true)
    (hQ : ∀ c a w, Q (.panic c) (a.put oi.dst undef) w → Q (.panic c) a w) (hw : Region.wanted oi (yielded L.toArray a.tmps) = false) (hS : S w)
    (h : ordE P md L.toArray Q S z n (done.setIfInBounds i true) (a.put oi.dst undef) w) : ordE P md L.toArray Q S z (n + 1) done a w :=
  ordE_first (by simpa using hi) hs hz hQ n done a w (Region.free_spec (by simpa using hi) hf) (by simpa using hr) (.inr ⟨hw, rfl⟩) hS h
/-- Operation `i` alone may come up: a call. -/
theorem ordE_call {L : List Oper} (i : Nat) {oi : Oper} {n : Nat} {done : Array Bool} {a : Act} {w : World} (hi : L[i]? = some oi) (hr : Region.ready md L.toArray done = [i]) (hw : Region.wanted oi (yielded L.toArray a.tmps) = true)
    {f : FuncId} {args : Array Value} (hv : (execOp a.eval oi).run P w = .ok (.enter f args) w)
    (hc : Calls P f args w fun e w' => ∃ v, e = .returned v ∧ S w' ∧ ordE P md L.toArray Q S z n (done.setIfInBounds i true) (a.put oi.dst v) w') : ordE P md L.toArray Q S z (n + 1) done a w := by
  refine ⟨fun h0 => (by rw [hr] at h0; cases h0), fun j hj => ?_⟩
  rw [hr] at hj
  obtain rfl : j = i := by simpa using hj
  unfold wpOp
  simp only [List.getElem?_toArray, hi]
  rw [if_pos hw]
  unfold Oper.wp
  rw [hv]
  refine .inl ?_
  rw [Oper.upon_enter]
  refine hc.mono ?_
  rintro e w' ⟨v, rfl, hs, h⟩
  exact ⟨.inr hs, h⟩
end
theorem dnL_zero (a : Au) (N : Nat) : dnL (dnP a 0) N = List.replicate N false := by
  unfold dnL
  rw [show (fun s => (dnP a 0 s).isSome) = fun _ => false from rfl, List.map_const', List.length_range]
theorem kidL_zero (r : Nat) : kidL (0, 0, 0, 0) r = List.replicate r 0 := by
  unfold kidL
  have h : (fun i => ((K4.get (0, 0, 0, 0) i : Nat) : Int)) = fun _ => (0 : Int) := funext fun i => by
    have : K4.get (0, 0, 0, 0) i = 0 := by
      unfold K4.get
      split <;> rfl
    rw [this]
    rfl
  rw [h, List.map_const', List.length_range]
theorem any_range (p : Nat → Bool) (f : Nat) : (List.range (f + 1)).any p = ((List.range f).any p || p f) := by
  rw [List.range_succ, List.any_append]
  simp
def wayB (a : Au) (k s f : Nat) : Bool := waysP (a.altsAt f) (dnP a k) (a.rankAt f) (fromL a.moves.length s 0) (0, 0, 0, 0)
theorem dn_way {a : Au} (hok : a.ok = true) (k s : Nat) (hs : s < 2 ^ a.moves.length) : (dnP a (k + 1) s).isSome = ((dnP a k s).isSome || (List.range a.ranks.length).any (wayB a k s)) := by
  rw [dn_next hok k s hs]
  have h : (fun f => waysP (a.altsAt f) (dnP a k) (a.rankAt f) (listP s) (0, 0, 0, 0)) = wayB a k s := funext fun f => by
    unfold wayB
    rw [fromL_zero (ok_parts hok).2.2.1 hs]
  rw [h]
abbrev dnB (a : Au) (k s : Nat) : Bool := (dnP a k s).isSome
set_option maxRecDepth 100000 in
set_option maxHeartbeats 4000000 in
theorem least_calls (a : Au) (hok : a.ok = true) (w : World) (r m : Value) (ha : rdO AuR w a [r, .int .i64 a.start, m]) :
    Calls Tryz.prog 12 #[.agg #[r, .int .i64 a.start, m]] w (RetD w (.int .i64 (leastP a))) := by
  obtain ⟨hR, hMv, hs1, hs2⟩ := AuR.parts ha
  obtain ⟨A, c, rfl, hc, hlm⟩ := hR.val
  obtain ⟨B, d, rfl, hd, hlm2⟩ := hMv.val
  obtain ⟨hrk, hm1, hm6, hst0, hst1, _⟩ := ok_parts hok
  have hr24 : a.ranks.length ≤ 24 := (ranksOk_parts hrk).1
  have hn64 : 2 ^ a.moves.length ≤ 64 := Nat.pow_le_pow_right (n := 2) (by omega) hm6
  have hsn : IntKind.i64.wrap ((2 : Int) ^ a.moves.length) = ((2 ^ a.moves.length : Nat) : Int) := (show ∀ s, s ≤ 6 → IntKind.i64.wrap ((2 : Int) ^ s) = ((2 ^ s : Nat) : Int) by decide) _ hm6
  have hsh := (shl_i64 a.start.toNat (by omega)).1
  have hs0n : 2 ^ a.start.toNat < 2 ^ a.moves.length := Nat.pow_lt_pow_right (by omega) hst1
  have hst64 : a.start ≤ 64 := by omega
  have hml64 : (a.moves.length : Int) ≤ 64 := by omega
  have HOK := Lib.hid hok
  have HA := Lib.hid ha
  have HR := Lib.hid hR
  obtain ⟨N, hN⟩ : ∃ N, N = 2 ^ a.moves.length := ⟨_, rfl⟩
  obtain ⟨s0, hs0⟩ : ∃ s0, s0 = 2 ^ a.start.toNat := ⟨_, rfl⟩
  rw [← hN] at hn64 hsn hs0n
  rw [← hs0] at hsh hs0n
  obtain ⟨w1, hw1⟩ : ∃ w1, w1 = w.alloc (.cells #[.slice A a.ranks.length c, .int .i64 a.start, .slice B a.moves.length d] 25) := ⟨_, rfl⟩
  have hG1 : Grew w w1 := by rw [hw1]; exact grew_alloc _ _
  have hsz1 : w1.heap.size = w.heap.size + 1 := by rw [hw1]; simp
  have xa : ThreeAt w1 w.heap.size (.slice A a.ranks.length c) (.int .i64 a.start) (.slice B a.moves.length d) 25 := by
    rw [hw1]; exact ThreeAt.new w _ _ _ _
  obtain ⟨w2, hw2⟩ : ∃ w2, w2 = w1.alloc (.cells (Array.replicate N (.bool false)) 4) := ⟨_, rfl⟩
  have hmk := mk_bools N (by omega) w1
  rw [← hw2, hsz1] at hmk
  have hG12 : Grew w1 w2 := by rw [hw2]; exact grew_alloc _ _
  have hB2 : RowV w2 w1.heap.size (.slice (some ⟨w.heap.size + 1, 0, none⟩) N N) ((dnL (dnP a 0) N).map boolV) := by
    have h := bools_made w1 N
    rw [← hw2, ← dnL_zero a] at h
    rw [← hsz1]
    exact RowV.made h (Nat.le_refl _) N (by rw [List.length_map, dnL_len])
  have HB2 := Lib.hid hB2
  obtain ⟨xa0, xa1, xa2⟩ := xa.cells
  rw [hw1] at xa0 xa1 xa2 hmk
  have HS0 := Lib.hid hs0
  have HNN := Lib.hid hN
  have HSZ1 := Lib.hid hsz1
  have hG2 := grew_trans hG1 hG12
  clear hw1 hw2 hB2 ha hR hMv hok hs0 hN hrk hsz1
  go_enter Tryz.func12, Tryz.ntmps12
  go_wp2_with fail
  clear xa0 xa1 xa2 hmk
  go_loopw [3, 4] (fun z i wr => ∃ (k dp : Nat) (Av : Option Addr) (cv : Nat), dp = k + 1 ∧ k ≤ N + 1 ∧ z = .slice Av N cv ∧ i = .int .i64 dp ∧ Grew w2 wr ∧ Hid (RowV wr w1.heap.size (.slice Av N cv) ((dnL (dnP a k) N).map boolV)) ∧ Hid (∀ j, j ≤ k → dnP a j s0 = none)) (fun _ i _ => N + 3 - (intOf i).toNat)
  case atStart =>
    have H0 : Hid (∀ j, j ≤ 0 → dnP a j s0 = none) := fun j hj => by
      obtain rfl : j = 0 := by omega
      rfl
    exact ⟨0, 1, _, _, rfl, Nat.zero_le _, rfl, rfl, grew_refl _, HB2.out, H0⟩
  case round =>
    obtain ⟨k, dp, Av, cv, hdp, hkN, rfl, rfl, hfr, HRV, HNO⟩ := hrel
    have hdpl : k + 1 ≤ dp := by omega
    have hdpg : dp ≤ k + 1 := by omega
    have HDP := Lib.hid hdp
    clear hdp
    have hG12r := grew_trans hG12 hfr
    have hGr := grew_trans hG1 hG12r
    obtain ⟨xa0, xa1, xa2⟩ := (xa.frm hG12r.1).cells
    by_cases hlt : dp ≤ N + 1
    · have hdpN : (dp : Int) ≤ (N : Int) + 1 := by omega
      have hsl := HRV.out.bools (by rw [dnL_len]; omega) (S := fun b => b < wr.heap.size) (fun g _ h => h)
      have hS5 : Sl (fun b => b < wr.heap.size) (wr.alloc (.cells #[] 4)) 1 (BolR (fun b => b < wr.heap.size) (wr.alloc (.cells #[] 4))) (dnL (dnP a k) N) (.slice Av N cv) :=
        Sl.move hsl (fun b hb => hb) (fun b hb => Below.heap_alloc _ _ _ hb) fun x _ cs h => h
      have hO5 := Own.empty BolR wr 4 1 (fun _ => True) (Nat.le_refl wr.heap.size)
      repeat ((fail_if_success at_builtin); first | go_values | go_skip | go_guarded | go_step | go_upon)
      obtain ⟨v6, w6, hrun, hO6, hg6, hp6⟩ := Own.app_sl moves_bol elem_bool hO5 68 hS5 (fun b hb => ⟨trivial, by simp; omega, fun e => by
        have e2 : some b = some wr.heap.size := e
        injection e2 with e2
        omega⟩) (fun x cs h u hu => by
        have h2 : cs = [.bool x] := h
        subst h2
        simp only [List.mem_cons, List.not_mem_nil, or_false] at hu
        subst hu; rfl) (by simp [dnL_len]; omega) (by omega) (by simp)
      refine append_list _ _ rfl rfl rfl rfl hrun ?_
      have hG6 : Grew wr w6 := grew_new (grew_alloc wr _) (Nat.le_refl _) hg6
      rw [List.nil_append] at hO6
      have hV6 := hO6.rowV bol_one
      obtain ⟨A6, c6, hv6, hc6⟩ := hV6.val
      rw [List.length_map, dnL_len] at hv6 hc6
      subst hv6
      have hT0 : dnL (dnP a k) N = tabU N 0 (dnB a (k + 1)) (dnB a k) := by rw [tabU_zero]; rfl
      rw [hT0] at hV6
      have HV6 := Lib.hid hV6
      clear hrun hO6 hO5 hS5 hV6 hp6 hg6 hT0 hsl
      obtain ⟨wo, hwo⟩ : ∃ wo : World, wo = wr := ⟨_, rfl⟩
      subst hwo
      clear xa0 xa1 xa2
      go_wp2_with fail
      go_loopw [26] (fun i wz => ∃ s : Nat, s ≤ N ∧ i = .int .i64 s ∧ Grew wo wz ∧ Hid (RowV wz wo.heap.size (.slice A6 N c6) ((tabU N s (dnB a (k + 1)) (dnB a k)).map boolV))) (fun i _ => N - (intOf i).toNat)
      case atStart => exact ⟨0, Nat.zero_le _, rfl, hG6, HV6.out⟩
      case round =>
        obtain ⟨s, hs, rfl, hfs, HT⟩ := hrel
        have hG1s := grew_trans hG12r hfs
        obtain ⟨xa0, xa1, xa2⟩ := (xa.frm hG1s.1).cells
        by_cases hlts : s < N
        · have HDW := Lib.hid (dn_way HOK.out k s (by rw [← HNN.out]; exact hlts))
          have HTS : Hid ((tabU N s (dnB a (k + 1)) (dnB a k)).set s (dnB a (k + 1) s) = tabU N (s + 1) (dnB a (k + 1)) (dnB a k)) := tabU_succ hlts
          have hT0 : RowV wr wo.heap.size (.slice A6 N c6) (((tabU N s (dnB a (k + 1)) (dnB a k)).set s (dnB a k s || (List.range 0).any (wayB a k s))).map boolV) := by
            rw [show (dnB a k s || (List.range 0).any (wayB a k s)) = dnB a k s by simp, tabU_self]
            exact HT.out
          have hTL : (tabU N s (dnB a (k + 1)) (dnB a k)).length = N := tabU_len
          have HT0 := Lib.hid hT0
          generalize tabU N s (dnB a (k + 1)) (dnB a k) = TB at *
          clear hT0
          go_wp2_with fail
          obtain ⟨wi, hwi⟩ : ∃ wi : World, wi = wr := ⟨_, rfl⟩
          subst hwi
          clear xa0 xa1 xa2
          go_loopw [32] (fun i wz => ∃ f : Nat, f ≤ a.ranks.length ∧ i = .int .i64 f ∧ Grew wo wz ∧ Hid (RowV wz wo.heap.size (.slice A6 N c6) ((TB.set s (dnB a k s || (List.range f).any (wayB a k s))).map boolV))) (fun i _ => a.ranks.length - (intOf i).toNat)
          case atStart => exact ⟨0, Nat.zero_le _, rfl, hfs, HT0.out⟩
          case round =>
            obtain ⟨f, hf, rfl, hff, HF⟩ := hrel
            have hG1f := grew_trans hG12r hff
            have hGf := grew_trans hG1 hG1f
            by_cases hltf : f < a.ranks.length
            · obtain ⟨b, o, p0, rfl, hb, hp0', hpt⟩ := HR.out.at1 f hltf
              obtain ⟨hpv, _⟩ := hpt
              simp only [List.cons.injEq, and_true] at hpv
              obtain ⟨hr4, hre, _⟩ := au_sym HOK.out hltf
              rw [hre] at hpv
              subst hpv
              have hp0 := frm_cell hGf.1 hp0'
              obtain ⟨xa0, xa1, xa2⟩ := (xa.frm hG1f.1).cells
              have hL0 : 0 < ((TB.set s (dnB a k s || (List.range f).any (wayB a k s))).map boolV).length := by simp [hTL]; omega
              obtain ⟨gt, rfl, hbg, hgl, hug, hxg⟩ := HF.out.open hL0
              have hcg := hxg s (by simp [hTL]; exact hlts)
              simp only [List.getElem_map, List.getElem_set_self] at hcg
              have hfz := hug s
              have hfz9 : wr.drew.frozen? ⟨gt, s, none⟩ = false := hfz
              have HPUT : Hid (∀ (wx : World) (B : Bool), Grew wr wx → RowV (wx.setCell ⟨gt, s, none⟩ (.bool B)) wo.heap.size (.slice (some ⟨gt, 0, none⟩) N c6) ((TB.set s B).map boolV)) := fun wx B hx => by
                have h := (HF.out.grew hx).put (by simp [hTL]; omega) s (boolV B)
                rw [← List.map_set, List.set_set] at h
                exact h
              have HAR := Lib.hid (any_range (wayB a k s) f)
              obtain ⟨u, hu⟩ : ∃ u, u = (dnB a k s || (List.range f).any (wayB a k s)) := ⟨_, rfl⟩
              rw [← hu] at hcg
              unfold boolV at hcg
              have HU := Lib.hid hu
              have HRVr := Lib.hid (HRV.out.grew hff)
              have hrkN : Hid (a.rankAt f ≤ 4) := hr4
              clear hu hxg hug hL0 hp0' hr4 hre
              obtain ⟨rk, hrk⟩ : ∃ rk, rk = a.rankAt f := ⟨_, rfl⟩
              rw [← hrk] at hp0
              have HRK := Lib.hid hrk
              have hrk4 : rk ≤ 4 := by rw [hrk]; exact hrkN.out
              clear hrk
              have HLG := Lib.hid hgl
              go_wp2_with fail
              cases u with
              | true =>
                have HS0 : Hid (wr.drew.cell? ⟨gt, s, none⟩ = some (.bool true) ∧ wr.drew.cell? ⟨w.heap.size, 0, none⟩ = some (.slice (some ⟨b, o, none⟩) a.ranks.length c) ∧ wr.drew.cell? ⟨w.heap.size, 1, none⟩ = some (.int .i64 a.start) ∧ wr.drew.cell? ⟨w.heap.size, 2, none⟩ = some (.slice B a.moves.length d) ∧ wr.drew.frozen? ⟨gt, s, none⟩ = false) := ⟨hcg, xa0, xa1, xa2, hfz9⟩
                have HE : Hid ((dnB a k s || (List.range (f + 1)).any (wayB a k s)) = true) := by
                  unfold Hid
                  rw [HAR.out, ← Bool.or_assoc, ← HU.out]
                  rfl
                have HNX : Hid (RowV (wr.drew.setCell ⟨gt, s, none⟩ (.bool true)) wo.heap.size (.slice (some ⟨gt, 0, none⟩) N c6) ((TB.set s (dnB a k s || (List.range (f + 1)).any (wayB a k s))).map boolV)) := by
                  rw [HE.out]
                  exact HPUT.out _ _ (grew_drew _)
                have HG9 : Hid (Grew wo (wr.drew.setCell ⟨gt, s, none⟩ (.bool true))) := grew_set_new (grew_trans hff (grew_drew _)) hbg _ _
                have hgt2 : (s : Int) < N := by omega
                refine ordE_region (fun wx => (wx.cell? ⟨gt, s, none⟩ = some (.bool true) ∧ wx.cell? ⟨w.heap.size, 0, none⟩ = some (.slice (some ⟨b, o, none⟩) a.ranks.length c) ∧ wx.cell? ⟨w.heap.size, 1, none⟩ = some (.int .i64 a.start) ∧ wx.cell? ⟨w.heap.size, 2, none⟩ = some (.slice B a.moves.length d) ∧ wx.frozen? ⟨gt, s, none⟩ = false)) 16 (by kernel_rfl) ?_
                change ordE _ _ _ _ _ _ 17 _ _ _
                refine' ordE_yes 0 (v := _) rfl (by kernel_rfl) (by kernel_rfl) (by kernel_rfl) (by kernel_rfl) (fun _ _ _ h => h) (by rfl) ?hv1 HS0.out ?hr1
                case hv1 =>
                  rintro wx ⟨s1, s2, s3, s4, s5⟩
                  go_simp
                  try rfl
                simp only [Act.put, List.setIfInBounds_toArray, List.set_cons_zero, List.set_cons_succ]
                refine' ordE_yes 1 (v := _) rfl (by kernel_rfl) (by kernel_rfl) (by kernel_rfl) (by kernel_rfl) (fun _ _ _ h => h) (by rfl) ?hv2 HS0.out ?hr2
                case hv2 =>
                  rintro wx ⟨s1, s2, s3, s4, s5⟩
                  go_simp
                  try rfl
                simp only [Act.put, List.setIfInBounds_toArray, List.set_cons_zero, List.set_cons_succ]
                refine' ordE_yes 2 (v := _) rfl (by kernel_rfl) (by kernel_rfl) (by kernel_rfl) (by kernel_rfl) (fun _ _ _ h => h) (by rfl) ?hv3 HS0.out ?hr3
                case hv3 =>
                  rintro wx ⟨s1, s2, s3, s4, s5⟩
                  go_simp
                  try rfl
                simp only [Act.put, List.setIfInBounds_toArray, List.set_cons_zero, List.set_cons_succ]
                refine' ordE_yes 3 (v := _) rfl (by kernel_rfl) (by kernel_rfl) (by kernel_rfl) (by kernel_rfl) (fun _ _ _ h => h) (by rfl) ?hv4 HS0.out ?hr4
                case hv4 =>
                  rintro wx ⟨s1, s2, s3, s4, s5⟩
                  go_simp
                  try rfl
                simp only [Act.put, List.setIfInBounds_toArray, List.set_cons_zero, List.set_cons_succ]
                refine' ordE_yes 4 (v := _) rfl (by kernel_rfl) (by kernel_rfl) (by kernel_rfl) (by kernel_rfl) (fun _ _ _ h => h) (by rfl) ?hv5 HS0.out ?hr5
                case hv5 =>
                  rintro wx ⟨s1, s2, s3, s4, s5⟩
                  go_simp
                  try rfl
                simp only [Act.put, List.setIfInBounds_toArray, List.set_cons_zero, List.set_cons_succ]
                refine' ordE_yes 5 (v := _) rfl (by kernel_rfl) (by kernel_rfl) (by kernel_rfl) (by kernel_rfl) (fun _ _ _ h => h) (by rfl) ?hv6 HS0.out ?hr6
                case hv6 =>
                  rintro wx ⟨s1, s2, s3, s4, s5⟩
                  go_simp
                  try rfl
                simp only [Act.put, List.setIfInBounds_toArray, List.set_cons_zero, List.set_cons_succ]
                refine' ordE_yes 6 (v := _) rfl (by kernel_rfl) (by kernel_rfl) (by kernel_rfl) (by kernel_rfl) (fun _ _ _ h => h) (by rfl) ?hv7 HS0.out ?hr7
                case hv7 =>
                  rintro wx ⟨s1, s2, s3, s4, s5⟩
                  go_simp
                  try rfl
                simp only [Act.put, List.setIfInBounds_toArray, List.set_cons_zero, List.set_cons_succ]
                refine ordE_no 7 rfl (by kernel_rfl) (by kernel_rfl) (by kernel_rfl) (by kernel_rfl) (fun _ _ _ h => h) (by rfl) HS0.out ?_
                simp only [Act.put, List.setIfInBounds_toArray, List.set_cons_zero, List.set_cons_succ]
                refine ordE_no 8 rfl (by kernel_rfl) (by kernel_rfl) (by kernel_rfl) (by kernel_rfl) (fun _ _ _ h => h) (by rfl) HS0.out ?_
                simp only [Act.put, List.setIfInBounds_toArray, List.set_cons_zero, List.set_cons_succ]
                refine ordE_no 9 rfl (by kernel_rfl) (by kernel_rfl) (by kernel_rfl) (by kernel_rfl) (fun _ _ _ h => h) (by rfl) HS0.out ?_
                simp only [Act.put, List.setIfInBounds_toArray, List.set_cons_zero, List.set_cons_succ]
                refine ordE_no 10 rfl (by kernel_rfl) (by kernel_rfl) (by kernel_rfl) (by kernel_rfl) (fun _ _ _ h => h) (by rfl) HS0.out ?_
                simp only [Act.put, List.setIfInBounds_toArray, List.set_cons_zero, List.set_cons_succ]
                refine ordE_no 11 rfl (by kernel_rfl) (by kernel_rfl) (by kernel_rfl) (by kernel_rfl) (fun _ _ _ h => h) (by rfl) HS0.out ?_
                simp only [Act.put, List.setIfInBounds_toArray, List.set_cons_zero, List.set_cons_succ]
                refine ordE_no 12 rfl (by kernel_rfl) (by kernel_rfl) (by kernel_rfl) (by kernel_rfl) (fun _ _ _ h => h) (by rfl) HS0.out ?_
                simp only [Act.put, List.setIfInBounds_toArray, List.set_cons_zero, List.set_cons_succ]
                refine ordE_no 13 rfl (by kernel_rfl) (by kernel_rfl) (by kernel_rfl) (by kernel_rfl) (fun _ _ _ h => h) (by rfl) HS0.out ?_
                simp only [Act.put, List.setIfInBounds_toArray, List.set_cons_zero, List.set_cons_succ]
                refine' ordE_yes 14 (v := _) rfl (by kernel_rfl) (by kernel_rfl) (by kernel_rfl) (by kernel_rfl) (fun _ _ _ h => h) (by rfl) ?hv8 HS0.out ?hr8
                case hv8 =>
                  rintro wx ⟨s1, s2, s3, s4, s5⟩
                  go_simp
                  try rfl
                simp only [Act.put, List.setIfInBounds_toArray, List.set_cons_zero, List.set_cons_succ]
                refine' ordE_yes 15 (v := _) rfl (by kernel_rfl) (by kernel_rfl) (by kernel_rfl) (by kernel_rfl) (fun _ _ _ h => h) (by rfl) ?hv9 HS0.out ?hr9
                case hv9 =>
                  rintro wx ⟨s1, s2, s3, s4, s5⟩
                  go_simp
                  try rfl
                simp only [Act.put, List.setIfInBounds_toArray, List.set_cons_zero, List.set_cons_succ]
                refine ordE_store 16 (w' := wr.drew.setCell ⟨gt, s, none⟩ (.bool true)) rfl (by kernel_rfl) (by rfl) ?_ (.inl rfl) ?_
                · go_simp
                  try rfl
                simp only [Act.put, List.setIfInBounds_toArray, List.set_cons_zero, List.set_cons_succ]
                refine ordE_end (by kernel_rfl) ?_
                go_wp2_with fail
                exact ⟨⟨f + 1, by omega, by go_num, HG9.out, HNX.out⟩, by simp [intOf]; omega⟩
              | false =>
                have HS0 : Hid (wr.drew.cell? ⟨gt, s, none⟩ = some (.bool false) ∧ wr.drew.cell? ⟨w.heap.size, 0, none⟩ = some (.slice (some ⟨b, o, none⟩) a.ranks.length c) ∧ wr.drew.cell? ⟨w.heap.size, 1, none⟩ = some (.int .i64 a.start) ∧ wr.drew.cell? ⟨w.heap.size, 2, none⟩ = some (.slice B a.moves.length d) ∧ wr.drew.frozen? ⟨gt, s, none⟩ = false) := ⟨hcg, xa0, xa1, xa2, hfz9⟩
                have hga : Grew wr (wr.drew.alloc (.cells (Array.replicate rk (.int .i64 0)) 3)) := grew_trans (grew_drew _) (grew_alloc _ _)
                have HS1 : Hid ((wr.drew.alloc (.cells (Array.replicate rk (.int .i64 0)) 3)).cell? ⟨gt, s, none⟩ = some (.bool false) ∧ (wr.drew.alloc (.cells (Array.replicate rk (.int .i64 0)) 3)).cell? ⟨w.heap.size, 0, none⟩ = some (.slice (some ⟨b, o, none⟩) a.ranks.length c) ∧ (wr.drew.alloc (.cells (Array.replicate rk (.int .i64 0)) 3)).cell? ⟨w.heap.size, 1, none⟩ = some (.int .i64 a.start) ∧ (wr.drew.alloc (.cells (Array.replicate rk (.int .i64 0)) 3)).cell? ⟨w.heap.size, 2, none⟩ = some (.slice B a.moves.length d) ∧ (wr.drew.alloc (.cells (Array.replicate rk (.int .i64 0)) 3)).frozen? ⟨gt, s, none⟩ = false) := ⟨frm_cell hga.1 hcg, frm_cell hga.1 xa0, frm_cell hga.1 xa1, frm_cell hga.1 xa2, frm_frozen hga.1 hgl hfz⟩
                have hki : SlO (wr.drew.alloc (.cells (Array.replicate rk (.int .i64 0)) 3)) 1 (rdO IntR) (kidL (0, 0, 0, 0) (a.rankAt f)) (.slice (some ⟨wr.heap.size, 0, none⟩) rk rk) := by
                  rw [kidL_zero, ← HRK.out]
                  exact (ints_made wr.drew rk).sl (by simp) (by simp; omega) (fun x hx => by have := List.eq_of_mem_replicate hx; omega)
                have hti : SlO (wr.drew.alloc (.cells (Array.replicate rk (.int .i64 0)) 3)) 1 (rdO BolR) (dnL (dnP a k) (2 ^ a.moves.length)) (.slice Av N cv) := by
                  rw [← HNN.out]
                  exact (HRVr.out.grew hga).bools (by rw [dnL_len]; omega) (fun g _ h => h)
                have hWY := ways_calls a HOK.out (dnP a k) f hltf s (by rw [← HNN.out]; exact hlts) _ _ a.moves.length 0 (by omega) (by omega) (0, 0, 0, 0) okn_zero _ _ _ (rdO_frm moves_au (grew_trans hGf hga).1 HA.out) hki hti
                obtain ⟨wy, hwy⟩ : ∃ wy, wy = waysP (a.altsAt f) (dnP a k) (a.rankAt f) (fromL a.moves.length s 0) (0, 0, 0, 0) := ⟨_, rfl⟩
                rw [← hwy] at hWY
                have HWY := Lib.hid hWY
                have HE : Hid ((dnB a k s || (List.range (f + 1)).any (wayB a k s)) = wy) := by
                  unfold Hid
                  rw [HAR.out, ← Bool.or_assoc, ← HU.out, hwy]
                  rfl
                have HG9 : Hid (∀ w9, Grew (wr.drew.alloc (.cells (Array.replicate rk (.int .i64 0)) 3)) w9 → Grew wo (w9.setCell ⟨gt, s, none⟩ (.bool wy))) := fun w9 h9 => grew_set_new (grew_trans hff (grew_trans hga h9)) hbg _ _
                have HNX : Hid (∀ w9, Grew (wr.drew.alloc (.cells (Array.replicate rk (.int .i64 0)) 3)) w9 → RowV (w9.setCell ⟨gt, s, none⟩ (.bool wy)) wo.heap.size (.slice (some ⟨gt, 0, none⟩) N c6) ((TB.set s (dnB a k s || (List.range (f + 1)).any (wayB a k s))).map boolV)) := fun w9 h9 => by
                  rw [HE.out]
                  exact HPUT.out _ _ (grew_trans hga h9)
                have HLG : Hid (gt < (wr.drew.alloc (.cells (Array.replicate rk (.int .i64 0)) 3)).heap.size) := by
                  have := hga.1.size
                  show gt < _
                  omega
                have hgt2 : (s : Int) < N := by omega
                clear hki hti hWY hwy hga
                refine ordE_region (fun wx => (wx.cell? ⟨gt, s, none⟩ = some (.bool false) ∧ wx.cell? ⟨w.heap.size, 0, none⟩ = some (.slice (some ⟨b, o, none⟩) a.ranks.length c) ∧ wx.cell? ⟨w.heap.size, 1, none⟩ = some (.int .i64 a.start) ∧ wx.cell? ⟨w.heap.size, 2, none⟩ = some (.slice B a.moves.length d) ∧ wx.frozen? ⟨gt, s, none⟩ = false)) 16 (by kernel_rfl) ?_
                change ordE _ _ _ _ _ _ 17 _ _ _
                refine' ordE_yes 0 (v := _) rfl (by kernel_rfl) (by kernel_rfl) (by kernel_rfl) (by kernel_rfl) (fun _ _ _ h => h) (by rfl) ?hv10 HS0.out ?hr10
                case hv10 =>
                  rintro wx ⟨s1, s2, s3, s4, s5⟩
                  go_simp
                  try rfl
                simp only [Act.put, List.setIfInBounds_toArray, List.set_cons_zero, List.set_cons_succ]
                refine' ordE_yes 1 (v := _) rfl (by kernel_rfl) (by kernel_rfl) (by kernel_rfl) (by kernel_rfl) (fun _ _ _ h => h) (by rfl) ?hv11 HS0.out ?hr11
                case hv11 =>
                  rintro wx ⟨s1, s2, s3, s4, s5⟩
                  go_simp
                  try rfl
                simp only [Act.put, List.setIfInBounds_toArray, List.set_cons_zero, List.set_cons_succ]
                refine' ordE_yes 2 (v := _) rfl (by kernel_rfl) (by kernel_rfl) (by kernel_rfl) (by kernel_rfl) (fun _ _ _ h => h) (by rfl) ?hv12 HS0.out ?hr12
                case hv12 =>
                  rintro wx ⟨s1, s2, s3, s4, s5⟩
                  go_simp
                  try rfl
                simp only [Act.put, List.setIfInBounds_toArray, List.set_cons_zero, List.set_cons_succ]
                refine' ordE_yes 3 (v := _) rfl (by kernel_rfl) (by kernel_rfl) (by kernel_rfl) (by kernel_rfl) (fun _ _ _ h => h) (by rfl) ?hv13 HS0.out ?hr13
                case hv13 =>
                  rintro wx ⟨s1, s2, s3, s4, s5⟩
                  go_simp
                  try rfl
                simp only [Act.put, List.setIfInBounds_toArray, List.set_cons_zero, List.set_cons_succ]
                refine' ordE_yes 4 (v := _) rfl (by kernel_rfl) (by kernel_rfl) (by kernel_rfl) (by kernel_rfl) (fun _ _ _ h => h) (by rfl) ?hv14 HS0.out ?hr14
                case hv14 =>
                  rintro wx ⟨s1, s2, s3, s4, s5⟩
                  go_simp
                  try rfl
                simp only [Act.put, List.setIfInBounds_toArray, List.set_cons_zero, List.set_cons_succ]
                refine' ordE_yes 5 (v := _) rfl (by kernel_rfl) (by kernel_rfl) (by kernel_rfl) (by kernel_rfl) (fun _ _ _ h => h) (by rfl) ?hv15 HS0.out ?hr15
                case hv15 =>
                  rintro wx ⟨s1, s2, s3, s4, s5⟩
                  go_simp
                  try rfl
                simp only [Act.put, List.setIfInBounds_toArray, List.set_cons_zero, List.set_cons_succ]
                refine' ordE_yes 6 (v := _) rfl (by kernel_rfl) (by kernel_rfl) (by kernel_rfl) (by kernel_rfl) (fun _ _ _ h => h) (by rfl) ?hv16 HS0.out ?hr16
                case hv16 =>
                  rintro wx ⟨s1, s2, s3, s4, s5⟩
                  go_simp
                  try rfl
                simp only [Act.put, List.setIfInBounds_toArray, List.set_cons_zero, List.set_cons_succ]
                refine' ordE_yes 7 (v := _) rfl (by kernel_rfl) (by kernel_rfl) (by kernel_rfl) (by kernel_rfl) (fun _ _ _ h => h) (by rfl) ?hv17 HS0.out ?hr17
                case hv17 =>
                  rintro wx ⟨s1, s2, s3, s4, s5⟩
                  go_simp
                  try rfl
                simp only [Act.put, List.setIfInBounds_toArray, List.set_cons_zero, List.set_cons_succ]
                refine' ordE_yes 8 (v := _) rfl (by kernel_rfl) (by kernel_rfl) (by kernel_rfl) (by kernel_rfl) (fun _ _ _ h => h) (by rfl) ?hv18 HS0.out ?hr18
                case hv18 =>
                  rintro wx ⟨s1, s2, s3, s4, s5⟩
                  go_simp
                  try rfl
                simp only [Act.put, List.setIfInBounds_toArray, List.set_cons_zero, List.set_cons_succ]
                refine' ordE_yes 9 (v := _) rfl (by kernel_rfl) (by kernel_rfl) (by kernel_rfl) (by kernel_rfl) (fun _ _ _ h => h) (by rfl) ?hv19 HS0.out ?hr19
                case hv19 =>
                  rintro wx ⟨s1, s2, s3, s4, s5⟩
                  go_simp
                  try rfl
                simp only [Act.put, List.setIfInBounds_toArray, List.set_cons_zero, List.set_cons_succ]
                refine' ordE_yes 10 (v := _) rfl (by kernel_rfl) (by kernel_rfl) (by kernel_rfl) (by kernel_rfl) (fun _ _ _ h => h) (by rfl) ?hv20 HS0.out ?hr20
                case hv20 =>
                  rintro wx ⟨s1, s2, s3, s4, s5⟩
                  go_simp
                  try rfl
                simp only [Act.put, List.setIfInBounds_toArray, List.set_cons_zero, List.set_cons_succ]
                refine' ordE_yes 12 (v := _) rfl (by kernel_rfl) (by kernel_rfl) (by kernel_rfl) (by kernel_rfl) (fun _ _ _ h => h) (by rfl) ?hv21 HS0.out ?hr21
                case hv21 =>
                  rintro wx ⟨s1, s2, s3, s4, s5⟩
                  go_simp
                  try rfl
                simp only [Act.put, List.setIfInBounds_toArray, List.set_cons_zero, List.set_cons_succ]
                refine ordE_one 11 (v := .slice (some ⟨wr.heap.size, 0, none⟩) rk rk) (w' := wr.drew.alloc (.cells (Array.replicate rk (.int .i64 0)) 3)) rfl (by kernel_rfl) (by rfl) ?_ (.inr HS1.out) ?_
                · have hmk2 := mk_ints rk (by omega) wr.drew
                  go_simp
                  try rfl
                simp only [Act.put, List.setIfInBounds_toArray, List.set_cons_zero, List.set_cons_succ]
                refine ordE_call 13 rfl (by kernel_rfl) (by rfl) (f := 38) (args := #[.agg #[.slice (some ⟨b, o, none⟩) a.ranks.length c, .int .i64 a.start, .slice B a.moves.length d], .int .i64 f, .int .i64 s, .int .i64 0, .slice (some ⟨wr.heap.size, 0, none⟩) rk rk, .slice Av N cv]) ?henter ?hcall
                case henter =>
                  go_simp
                  try rfl
                refine HWY.out.mono ?_
                rintro e w9 ⟨rfl, hf9⟩
                have HS9 : Hid (w9.cell? ⟨gt, s, none⟩ = some (.bool false) ∧ w9.cell? ⟨w.heap.size, 0, none⟩ = some (.slice (some ⟨b, o, none⟩) a.ranks.length c) ∧ w9.cell? ⟨w.heap.size, 1, none⟩ = some (.int .i64 a.start) ∧ w9.cell? ⟨w.heap.size, 2, none⟩ = some (.slice B a.moves.length d) ∧ w9.frozen? ⟨gt, s, none⟩ = false) := ⟨frm_cell hf9.1 HS1.out.1, frm_cell hf9.1 HS1.out.2.1, frm_cell hf9.1 HS1.out.2.2.1, frm_cell hf9.1 HS1.out.2.2.2.1, frm_frozen hf9.1 HLG.out HS1.out.2.2.2.2⟩
                have hc9 := HS9.out.1
                have hf9z := HS9.out.2.2.2.2
                refine ⟨_, rfl, HS9.out, ?_⟩
                simp only [Act.put, List.setIfInBounds_toArray, List.set_cons_zero, List.set_cons_succ]
                refine' ordE_yes 14 (v := _) rfl (by kernel_rfl) (by kernel_rfl) (by kernel_rfl) (by kernel_rfl) (fun _ _ _ h => h) (by rfl) ?hv22 HS9.out ?hr22
                case hv22 =>
                  rintro wx ⟨s1, s2, s3, s4, s5⟩
                  go_simp
                  try rfl
                simp only [Act.put, List.setIfInBounds_toArray, List.set_cons_zero, List.set_cons_succ]
                refine' ordE_yes 15 (v := _) rfl (by kernel_rfl) (by kernel_rfl) (by kernel_rfl) (by kernel_rfl) (fun _ _ _ h => h) (by rfl) ?hv23 HS9.out ?hr23
                case hv23 =>
                  rintro wx ⟨s1, s2, s3, s4, s5⟩
                  go_simp
                  try rfl
                simp only [Act.put, List.setIfInBounds_toArray, List.set_cons_zero, List.set_cons_succ]
                refine ordE_store 16 (w' := w9.setCell ⟨gt, s, none⟩ (.bool wy)) rfl (by kernel_rfl) (by rfl) ?_ (.inl rfl) ?_
                · go_simp
                  try rfl
                simp only [Act.put, List.setIfInBounds_toArray, List.set_cons_zero, List.set_cons_succ]
                refine ordE_end (by kernel_rfl) ?_
                have HG10 := HG9.out _ hf9
                have HNX2 := Lib.hid (HNX.out _ hf9)
                go_wp2_with fail
                exact ⟨⟨f + 1, by omega, by go_num, HG10, HNX2.out⟩, by simp [intOf]; omega⟩
            · obtain rfl : f = a.ranks.length := by omega
              have HE : Hid (RowV wr wo.heap.size (.slice A6 N c6) ((tabU N (s + 1) (dnB a (k + 1)) (dnB a k)).map boolV)) := by
                have h := HF.out
                rw [← HDW.out, HTS.out] at h
                exact h
              go_wp2_with fail
              exact ⟨⟨s + 1, by omega, by go_num, hff, HE.out⟩, by simp [intOf]; omega⟩
        · obtain rfl : s = N := by omega
          have hE := HT.out
          rw [tabU_end] at hE
          have hE2 : RowV wr wo.heap.size (.slice A6 s c6) ((dnL (dnP a (k + 1)) s).map boolV) := hE
          have HE := Lib.hid hE2
          obtain ⟨gt, rfl, hbg, hgl, hug, hxg⟩ := hE2.open (by rw [List.length_map, dnL_len]; omega)
          have hcg := hxg s0 (by rw [List.length_map, dnL_len]; exact hs0n)
          rw [List.getElem_map, dnL_at] at hcg
          unfold boolV at hcg
          have hs0N : (s0 : Int) < s := by omega
          have hs064 : (s0 : Int) ≤ 64 := by omega
          cases hds : (dnP a (k + 1) s0).isSome with
          | true =>
            rw [hds] at hcg
            have HL : Hid (leastP a = dp) := by
              unfold Hid
              rw [HDP.out]
              refine least_some ⟨by rw [← HS0.out]; exact hds, fun j hj => ?_⟩ (by rw [← HNN.out]; omega)
              rw [← HS0.out]
              exact HNO.out j (by omega)
            clear hE hE2 hug hxg hds
            go_wp2_with fail
            exact bodyPost_ret (results_tmp rfl _ _ _) rfl ⟨by rw [HL.out]; rfl, grew_trans hGr hfs⟩
          | false =>
            rw [hds] at hcg
            have HNO2 : Hid (∀ j, j ≤ k + 1 → dnP a j s0 = none) := fun j hj => by
              by_cases e : j = k + 1
              · subst e; simpa using hds
              · exact HNO.out j (by omega)
            have HE3 := Lib.hid (HE.out.lower (show w1.heap.size ≤ wo.heap.size from (grew_trans hG12 hfr).1.size))
            clear hE hE2 hug hxg hds
            go_wp2_with fail
            exact ⟨⟨k + 1, dp + 1, _, _, by omega, by omega, rfl, by go_num, grew_trans hfr hfs, HE3.out, HNO2.out⟩, by simp [intOf]; omega⟩
    · have HL : Hid (leastP a = 0) := by
        refine least_none fun j hj => ?_
        rw [← HS0.out]
        exact HNO.out j (by rw [← HNN.out] at hj; omega)
      have hdpN : ¬ (dp : Int) ≤ (N : Int) + 1 := by omega
      go_wp2_with fail
      exact bodyPost_ret (results_tmp rfl _ _ _) rfl ⟨by rw [HL.out]; rfl, hGr⟩
end Go.Proofs.YtjpdmncafacmaaaGreatDoor
end
/- The reference's Accepted and Found of a tree that Some returns. -/
section
set_option linter.unusedVariables false
set_option linter.unusedSimpArgs false
namespace Go.Proofs.YtjpdmncafacmaaaGreatDoor
open Go.RowKit

theorem ris_ok {a : Au} (hok : a.ok = true) (w : World) (r m : Value) (ha : rdO AuR w a [r, .int .i64 a.start, m]) : Calls Tryz.prog 8 #[.agg #[r, .int .i64 a.start, m]] w (RetD w (.bool true)) := by
  have h := ris_calls a w r m ha
  rw [← ok_eq, hok] at h
  exact h
/-- What is known of the tree. -/
structure FitT (a : Au) (D : Nat) (t : Tr) : Prop where
  fits : fitsTo a.ranks D t
  size : sizeTo D t ≤ 20000
  depth : depthTo D t ≤ 200
  small : D ≤ 1000000000
theorem tree_slice {D : Nat} {w : World} {t : Tr} {v : Value} (ht : rdO (TrD D) w t [.int .i64 t.label, v]) : ∃ A n c, v = .slice A n c := by
  cases D with
  | zero => exact ht.elim
  | succ d =>
    obtain ⟨u', h, _, hsl⟩ := ht
    simp only [List.cons.injEq, and_true, true_and] at h
    subst h
    obtain ⟨A1, c1, h2, _⟩ := hsl.val
    exact ⟨_, _, _, h2⟩
set_option maxRecDepth 20000 in
set_option maxHeartbeats 1000000 in
theorem checked_calls (a : Au) (hok : a.ok = true) (D : Nat) (t : Tr) (hF : FitT a D t) (w : World) (r m v : Value) (ha : rdO AuR w a [r, .int .i64 a.start, m]) (ht : rdO (TrD D) w t [.int .i64 t.label, v]) :
    Calls Tryz.prog 83 #[.agg #[r, .int .i64 a.start, m], .int .i64 1, .agg #[.int .i64 t.label, v]] w (RetD w (.int .i64 0)) := by
  obtain ⟨hR, hMv, hs1, hs2⟩ := AuR.parts ha
  obtain ⟨A, c, rfl, hc, hlm⟩ := hR.val
  obtain ⟨B, d, rfl, hd, hlm2⟩ := hMv.val
  obtain ⟨C, n, e, rfl⟩ := tree_slice ht
  obtain ⟨w2, hw2⟩ : ∃ w2, w2 = (w.alloc (.cells #[.slice A a.ranks.length c, .int .i64 a.start, .slice B a.moves.length d] 25)).alloc (.cells #[.int .i64 t.label, .slice C n e] 29) := ⟨_, rfl⟩
  have hG2 : Grew w w2 := by rw [hw2]; exact grew_then_alloc (grew_alloc _ _) _
  have xa : ThreeAt w2 w.heap.size (.slice A a.ranks.length c) (.int .i64 a.start) (.slice B a.moves.length d) 25 := by
    rw [hw2]; exact (ThreeAt.new w _ _ _ _).frm (frm_alloc _ _)
  have xt : TwoAt w2 (w.heap.size + 1) (.int .i64 t.label) (.slice C n e) 29 := by
    rw [hw2]; exact TwoAt.new2 w _ _ _ _
  have hIS := ris_ok hok w2 _ _ (rdO_frm moves_au hG2.1 ha)
  have xa' := xa
  rw [hw2] at xa' hIS
  obtain ⟨xa0, xa1, xa2⟩ := xa'.cells
  have HIS := Lib.hid hIS
  have HTI : Hid (∀ wx, Grew w wx → Calls Tryz.prog 27 #[.slice A a.ranks.length c, .agg #[.int .i64 t.label, .slice C n e]] wx (RetD wx (.bool true))) := fun wx hx =>
    treeIs_calls a.ranks D hF.small t wx _ _ (rdO_frm (moves_tr D) hx.1 ht) (hR.frm hx.1 (stays_rd moves_int)) hF.fits hF.size hF.depth
  have HW2 := Lib.hid hw2
  clear hIS hw2 ha ht hR hMv hF
  generalize t.label = lb at *
  go_enter Tryz.func83, Tryz.ntmps83
  go_wp2_with fail
  refine HIS.out.mono ?_
  rw [← HW2.out]
  rintro e w3 ⟨rfl, hf3⟩
  clear xa0 xa1 xa2
  obtain ⟨xa0, xa1, xa2⟩ := (xa.frm hf3.1).cells
  obtain ⟨xt0, xt1, _, _⟩ := (xt.frm hf3.1).cells
  have hG3 := grew_trans hG2 hf3
  dsimp only
  go_wp2_with fail
  refine (HTI.out _ hG3).mono ?_
  rintro e w4 ⟨rfl, hf4⟩
  dsimp only
  go_wp2_with fail
  exact bodyPost_ret (results_tmp rfl _ _ _) rfl ⟨rfl, grew_trans hG3 hf4⟩
set_option maxRecDepth 20000 in
set_option maxHeartbeats 1000000 in
theorem accepted_calls (a : Au) (hok : a.ok = true) (D : Nat) (t : Tr) (hF : FitT a D t) (w : World) (r m v : Value) (ha : rdO AuR w a [r, .int .i64 a.start, m]) (ht : rdO (TrD D) w t [.int .i64 t.label, v]) :
    Calls Tryz.prog 40 #[.agg #[r, .int .i64 a.start, m], .int .i64 1, .agg #[.int .i64 t.label, v]] w (RetD w (.tuple #[.bool (accTo a D t a.start.toNat), .int .i64 0])) := by
  obtain ⟨hR, hMv, hs1, hs2⟩ := AuR.parts ha
  obtain ⟨A, c, rfl, hc, hlm⟩ := hR.val
  obtain ⟨B, d, rfl, hd, hlm2⟩ := hMv.val
  obtain ⟨C, n, e, rfl⟩ := tree_slice ht
  obtain ⟨_, hm1, hm6, hst0, hst1, _⟩ := ok_parts hok
  obtain ⟨w2, hw2⟩ : ∃ w2, w2 = (w.alloc (.cells #[.slice A a.ranks.length c, .int .i64 a.start, .slice B a.moves.length d] 25)).alloc (.cells #[.int .i64 t.label, .slice C n e] 29) := ⟨_, rfl⟩
  have hG2 : Grew w w2 := by rw [hw2]; exact grew_then_alloc (grew_alloc _ _) _
  have xa : ThreeAt w2 w.heap.size (.slice A a.ranks.length c) (.int .i64 a.start) (.slice B a.moves.length d) 25 := by
    rw [hw2]; exact (ThreeAt.new w _ _ _ _).frm (frm_alloc _ _)
  have xt : TwoAt w2 (w.heap.size + 1) (.int .i64 t.label) (.slice C n e) 29 := by
    rw [hw2]; exact TwoAt.new2 w _ _ _ _
  have hCH := checked_calls a hok D t hF w2 _ _ _ (rdO_frm moves_au hG2.1 ha) (rdO_frm (moves_tr D) hG2.1 ht)
  have xa' := xa
  have xt' := xt
  rw [hw2] at xa' hCH xt'
  obtain ⟨xa0, xa1, xa2⟩ := xa'.cells
  obtain ⟨xt0, xt1, _, _⟩ := xt'.cells
  have HCH := Lib.hid hCH
  have HAC : Hid (∀ wx, Grew w wx → Calls Tryz.prog 84 #[.agg #[.slice A a.ranks.length c, .int .i64 a.start, .slice B a.moves.length d], .int .i64 1, .agg #[.int .i64 t.label, .slice C n e]] wx fun e w' => ∃ g c' , e = .returned (.slice (some ⟨g, 0, none⟩) a.moves.length c') ∧ Grew wx w' ∧ w'.cell? ⟨g, a.start.toNat, none⟩ = some (.bool (accTo a D t a.start.toNat))) := fun wx hx => by
    refine (accepts_calls a hok _ _ D t wx _ (rdO_frm moves_au hx.1 ha) (rdO_frm (moves_tr D) hx.1 ht) hF.fits).mono ?_
    rintro e w' ⟨A1, c1, rfl, hg, hrow⟩
    obtain ⟨g, rfl, _, _, _, hx⟩ := hrow.open (by rw [List.length_map, accL_len]; omega)
    have h := hx a.start.toNat (by rw [List.length_map, accL_len]; exact hst1)
    rw [List.getElem_map, accL_at] at h
    exact ⟨g, c1, rfl, hg, h⟩
  have HW2 := Lib.hid hw2
  have is0 : (0 : Int) ≤ a.start := hst0
  have is1 : a.start < a.moves.length := by omega
  clear hCH hw2 ha ht hR hMv hF
  generalize hacc : accTo a D t a.start.toNat = av at *
  clear hacc
  generalize t.label = lb at *
  go_enter Tryz.func40, Tryz.ntmps40
  go_wp2_with fail
  refine HCH.out.mono ?_
  rw [← HW2.out]
  rintro e w3 ⟨rfl, hf3⟩
  clear xa0 xa1 xa2 xt0 xt1
  obtain ⟨xa0, xa1, xa2⟩ := (xa.frm hf3.1).cells
  obtain ⟨xt0, xt1, _, _⟩ := (xt.frm hf3.1).cells
  have hG3 := grew_trans hG2 hf3
  have hdr : Grew w3 w3.drew := grew_drew _
  have HX1 : Hid (w3.drew.cell? ⟨w.heap.size, 1, none⟩ = some (.int .i64 a.start)) := xa1
  dsimp only
  go_wp2_with fail
  go_region_law ((go_simp; go_at_call 84; (with_reducible refine (HAC.out _ (grew_trans hG3 (by assumption))).mono ?_); rintro e w5 ⟨g5, c5, rfl, hf5, hc5⟩; have hx5 := frm_cell hf5.1 HX1.out; dsimp only))
  all_goals
    go_wp2_with fail
    exact bodyPost_ret (by simp [results, Tryz.results40, go_sem]) rfl ⟨rfl, grew_trans hG3 (grew_trans hdr hf5)⟩
/-- All that Found asks. -/
structure GoodT (a : Au) (D : Nat) (t : Tr) : Prop where
  fit : FitT a D t
  whole : wholeTo D t = true
  least : depthTo D t = leastP a
  acc : accTo a D t a.start.toNat = true
set_option maxRecDepth 100000 in
set_option maxHeartbeats 2000000 in
theorem found_calls (a : Au) (hok : a.ok = true) (D : Nat) (t : Tr) (hT : GoodT a D t) (w : World) (r m v : Value) (ha : rdO AuR w a [r, .int .i64 a.start, m]) (ht : rdO (TrD D) w t [.int .i64 t.label, v]) :
    Calls Tryz.prog 13 #[.agg #[r, .int .i64 a.start, m], .agg #[.int .i64 t.label, v]] w (RetD w (.bool true)) := by
  obtain ⟨hR, hMv, hs1, hs2⟩ := AuR.parts ha
  obtain ⟨A, c, rfl, hc, hlm⟩ := hR.val
  obtain ⟨B, d, rfl, hd, hlm2⟩ := hMv.val
  obtain ⟨C, n, e, rfl⟩ := tree_slice ht
  obtain ⟨w2, hw2⟩ : ∃ w2, w2 = (w.alloc (.cells #[.slice A a.ranks.length c, .int .i64 a.start, .slice B a.moves.length d] 25)).alloc (.cells #[.int .i64 t.label, .slice C n e] 29) := ⟨_, rfl⟩
  have hG2 : Grew w w2 := by rw [hw2]; exact grew_then_alloc (grew_alloc _ _) _
  have xa : ThreeAt w2 w.heap.size (.slice A a.ranks.length c) (.int .i64 a.start) (.slice B a.moves.length d) 25 := by
    rw [hw2]; exact (ThreeAt.new w _ _ _ _).frm (frm_alloc _ _)
  have xt : TwoAt w2 (w.heap.size + 1) (.int .i64 t.label) (.slice C n e) 29 := by
    rw [hw2]; exact TwoAt.new2 w _ _ _ _
  obtain ⟨xa0, xa1, xa2⟩ := xa.cells
  obtain ⟨xt0, xt1, _, _⟩ := xt.cells
  have HIT : Hid (∀ wx, Grew w wx → Calls Tryz.prog 27 #[.slice A a.ranks.length c, .agg #[.int .i64 t.label, .slice C n e]] wx (RetD wx (.bool true))) := fun wx hx =>
    treeIs_calls a.ranks D hT.fit.small t wx _ _ (rdO_frm (moves_tr D) hx.1 ht) (hR.frm hx.1 (stays_rd moves_int)) hT.fit.fits hT.fit.size hT.fit.depth
  have HWH : Hid (∀ wx, Grew w wx → Calls Tryz.prog 39 #[.agg #[.int .i64 t.label, .slice C n e]] wx (RetD wx (.bool true))) := fun wx hx => by
    have h := whole_calls D t wx _ (rdO_frm (moves_tr D) hx.1 ht)
    rw [hT.whole] at h
    exact h
  have HDP : Hid (∀ wx, Grew w wx → Calls Tryz.prog 37 #[.agg #[.int .i64 t.label, .slice C n e]] wx (RetD wx (.int .i64 (leastP a)))) := fun wx hx => by
    have h := depth_calls D hT.fit.small t wx _ (rdO_frm (moves_tr D) hx.1 ht)
    rw [hT.least] at h
    exact h
  have HLE : Hid (∀ wx, Grew w wx → Calls Tryz.prog 12 #[.agg #[.slice A a.ranks.length c, .int .i64 a.start, .slice B a.moves.length d]] wx (RetD wx (.int .i64 (leastP a)))) := fun wx hx =>
    least_calls a hok wx _ _ (rdO_frm moves_au hx.1 ha)
  have HAC : Hid (∀ wx, Grew w wx → Calls Tryz.prog 40 #[.agg #[.slice A a.ranks.length c, .int .i64 a.start, .slice B a.moves.length d], .int .i64 1, .agg #[.int .i64 t.label, .slice C n e]] wx (RetD wx (.tuple #[.bool true, .int .i64 0]))) := fun wx hx => by
    have h := accepted_calls a hok D t hT.fit wx _ _ _ (rdO_frm moves_au hx.1 ha) (rdO_frm (moves_tr D) hx.1 ht)
    rw [hT.acc] at h
    exact h
  have HG2 := Lib.hid hG2
  have HW2 := Lib.hid hw2
  clear hw2 ha ht hR hMv hT hok
  generalize leastP a = lp at *
  generalize t.label = lb at *
  have HK0 : Hid (Grew w2 w2.drew ∧ w2.drew.cell? ⟨w.heap.size, 0, none⟩ = some (.slice A a.ranks.length c) ∧ w2.drew.cell? ⟨w.heap.size, 1, none⟩ = some (.int .i64 a.start) ∧ w2.drew.cell? ⟨w.heap.size, 2, none⟩ = some (.slice B a.moves.length d) ∧ w2.drew.cell? ⟨w.heap.size + 1, 0, none⟩ = some (.int .i64 lb) ∧ w2.drew.cell? ⟨w.heap.size + 1, 1, none⟩ = some (.slice C n e)) := ⟨grew_drew _, xa0, xa1, xa2, xt0, xt1⟩
  have HKG : Hid (∀ wy, Grew w2 wy → Grew w2 wy ∧ wy.cell? ⟨w.heap.size, 0, none⟩ = some (.slice A a.ranks.length c) ∧ wy.cell? ⟨w.heap.size, 1, none⟩ = some (.int .i64 a.start) ∧ wy.cell? ⟨w.heap.size, 2, none⟩ = some (.slice B a.moves.length d) ∧ wy.cell? ⟨w.heap.size + 1, 0, none⟩ = some (.int .i64 lb) ∧ wy.cell? ⟨w.heap.size + 1, 1, none⟩ = some (.slice C n e)) :=
    fun wy hf => ⟨hf, frm_cell hf.1 xa0, frm_cell hf.1 xa1, frm_cell hf.1 xa2, frm_cell hf.1 xt0, frm_cell hf.1 xt1⟩
  have ya := xa
  have yt := xt
  rw [HW2.out] at ya yt
  obtain ⟨ya0, ya1, ya2⟩ := ya.cells
  obtain ⟨yt0, yt1, _, _⟩ := yt.cells
  clear xa0 xa1 xa2 xt0 xt1
  go_enter Tryz.func13, Tryz.ntmps13
  go_wp2_with fail
  rw [← HW2.out]
  clear ya0 ya1 ya2 yt0 yt1 ya yt
  go_region_held3 (fun wx => Grew w2 wx ∧ wx.cell? ⟨w.heap.size, 0, none⟩ = some (.slice A a.ranks.length c) ∧ wx.cell? ⟨w.heap.size, 1, none⟩ = some (.int .i64 a.start) ∧ wx.cell? ⟨w.heap.size, 2, none⟩ = some (.slice B a.moves.length d) ∧ wx.cell? ⟨w.heap.size + 1, 0, none⟩ = some (.int .i64 lb) ∧ wx.cell? ⟨w.heap.size + 1, 1, none⟩ = some (.slice C n e)) (first | exact HK0.out | assumption | exact HKG.out _ (by assumption)) (first | (go_at_call 27; (with_reducible refine (HIT.out _ (grew_trans HG2.out (And.left (by assumption)))).mono ?_); rintro e v5 ⟨rfl, hg5⟩; have hG5 := grew_trans HK0.out.1 hg5; have hS5 := HKG.out _ hG5) | (go_at_call 39; (with_reducible refine (HWH.out _ (grew_trans HG2.out (And.left (by assumption)))).mono ?_); rintro e v6 ⟨rfl, hg6⟩; have hG6 := grew_trans hG5 hg6; have hS6 := HKG.out _ hG6) | (go_at_call 37; (with_reducible refine (HDP.out _ (grew_trans HG2.out (And.left (by assumption)))).mono ?_); rintro e v7 ⟨rfl, hg7⟩; have hG7 := grew_trans hG6 hg7; have hS7 := HKG.out _ hG7) | (go_at_call 12; (with_reducible refine (HLE.out _ (grew_trans HG2.out (And.left (by assumption)))).mono ?_); rintro e v8 ⟨rfl, hg8⟩; have hG8 := grew_trans hG7 hg8; have hS8 := HKG.out _ hG8))
  all_goals
    obtain ⟨_, z0, z1, z2, z3, z4⟩ := hS8
    go_wp2_with fail
    refine (HAC.out _ (grew_trans HG2.out hG8)).mono ?_
    rintro e v9 ⟨rfl, hf9⟩
    dsimp only
    go_wp2_with fail
    exact bodyPost_ret (results_tmp rfl _ _ _) rfl ⟨rfl, grew_trans (grew_trans HG2.out hG8) hf9⟩
end Go.Proofs.YtjpdmncafacmaaaGreatDoor
end
/- The reference's Many ends. -/
section
set_option linter.unusedVariables false
set_option linter.unusedSimpArgs false
namespace Go.Proofs.YtjpdmncafacmaaaGreatDoor
open Go.RowKit

/-- An automaton's lists are not too long. -/
def shortA (a : Au) : Prop := a.moves.length ≤ 1000 ∧ ∀ row ∈ a.moves, row.length ≤ 1000 ∧ ∀ alts ∈ row, alts.length ≤ 1000
theorem ok_short {a : Au} (h : a.ok = true) : shortA a := by
  have h1 := ok_rows h
  refine ⟨by omega, fun row hr => ⟨by have := (h1.2 row hr).1; omega, fun alts ha => by have := ((h1.2 row hr).2 alts ha).1; omega⟩⟩
set_option maxRecDepth 100000 in
set_option maxHeartbeats 1000000 in
theorem many_calls (a : Au) (hsh : shortA a) (w : World) (r m : Value) (ha : rdO AuR w a [r, .int .i64 a.start, m]) :
    Calls Tryz.prog 11 #[.agg #[r, .int .i64 a.start, m]] w fun e w' => ∃ b, e = .returned (.bool b) ∧ Grew w w' := by
  obtain ⟨hR, hM, hs1, hs2⟩ := AuR.parts ha
  obtain ⟨A, c, rfl, hc, hlm⟩ := hR.val
  obtain ⟨B, d, rfl, hd, hlm2⟩ := hM.val
  have HM := Lib.hid hM
  have HSH := Lib.hid hsh
  have hml := hsh.1
  have hf1 : Grew w (w.alloc (.cells #[.slice A a.ranks.length c, .int .i64 a.start, .slice B a.moves.length d] 25)) := grew_alloc _ _
  obtain ⟨xa0, xa1, xa2⟩ := (ThreeAt.new w (.slice A a.ranks.length c) (.int .i64 a.start) (.slice B a.moves.length d) 25).cells
  obtain ⟨w1, hw1⟩ : ∃ w1, w1 = w.alloc (.cells #[.slice A a.ranks.length c, .int .i64 a.start, .slice B a.moves.length d] 25) := ⟨_, rfl⟩
  rw [← hw1] at hf1
  have HW1 := Lib.hid hw1
  clear ha hM hsh hw1
  go_enter Tryz.func11, Tryz.ntmps11
  go_wp2_with fail
  rw [← HW1.out]
  clear xa0 xa1 xa2
  go_loopw [11] (fun i wr => ∃ k : Nat, k ≤ a.moves.length ∧ i = .int .i64 k ∧ wr = w1) (fun i _ => a.moves.length - (intOf i).toNat)
  case atStart => exact ⟨0, Nat.zero_le _, rfl, rfl⟩
  case round =>
    obtain ⟨k, hk, rfl, rfl⟩ := hrel
    by_cases hlt : k < a.moves.length
    · obtain ⟨b, o, p0, rfl, hb, hp0', hpt⟩ := HM.out.at1 k hlt
      have hp0 := frm_cell hf1.1 hp0'
      have HRS := Lib.hid (HSH.out.2 _ (List.getElem_mem hlt))
      generalize a.moves[k] = row at *
      have hRow := row_val hpt
      obtain ⟨A2, c2, rfl, hc2, hm2⟩ := hRow.val
      have HRow := Lib.hid hRow
      have hrl := HRS.out.1
      clear hp0' hpt hRow
      go_wp2_with fail
      go_loopw [5, 17] (fun z i wr' => ∃ (j n : Nat), j ≤ row.length ∧ z = .int .i64 n ∧ i = .int .i64 j ∧ n ≤ 1000 * j ∧ wr' = wr) (fun _ i _ => row.length - (intOf i).toNat)
      case atStart => exact ⟨0, 0, Nat.zero_le _, rfl, rfl, by omega, rfl⟩
      case round =>
        obtain ⟨j, n, hj, rfl, rfl, hn, rfl⟩ := hrel
        by_cases hltj : j < row.length
        · obtain ⟨b3, o3, q0, rfl, hb3, hq0', hqt⟩ := HRow.out.at1 j hltj
          have hq0 := frm_cell hf1.1 hq0'
          have hal := HRS.out.2 _ (List.getElem_mem hltj)
          generalize row[j] = alts at *
          obtain ⟨A3, c3, rfl, hc3, hm3⟩ := (row_val hqt).val
          clear hq0' hqt
          go_wp2_with fail
          exact ⟨⟨j + 1, n + alts.length, by omega, by go_num, by go_num, by omega, trivial⟩, by simp [intOf]; omega⟩
        · obtain rfl : j = row.length := by omega
          by_cases hg : n > 24
          · have hgt : (n : Int) > 24 := by omega
            go_wp2_with fail
            exact bodyPost_ret (results_tmp rfl _ _ _) rfl ⟨true, rfl, hf1⟩
          · have hgt : ¬ (n : Int) > 24 := by omega
            go_wp2_with fail
            exact ⟨⟨k + 1, by omega, by go_num, trivial⟩, by simp [intOf]; omega⟩
    · go_wp2_with fail
      exact bodyPost_ret (results_tmp rfl _ _ _) rfl ⟨false, rfl, hf1⟩
end Go.Proofs.YtjpdmncafacmaaaGreatDoor
end
/- The law MixSome, beside the chapter's example. -/
section
set_option linter.unusedVariables false
set_option linter.unusedSimpArgs false
namespace Go.Proofs.YtjpdmncafacmaaaGreatDoor
open Go.RowKit

/-- Some's tree is as Found asks. -/
theorem some_good {a : Au} (hok : a.ok = true) {K : Nat} (hK : SomeK a K) (hs : (dnP a K (2 ^ a.start.toNat)).isSome = true) (hsz : sizeTo K (treeP a (dnP a K) K (2 ^ a.start.toNat)) ≤ 20000) :
    GoodT a K (treeP a (dnP a K) K (2 ^ a.start.toNat)) := by
  obtain ⟨_, _, hn6, hst0, hst1, _⟩ := ok_parts hok
  obtain ⟨hl, hr⟩ := (someK_least hK hst1).2 hs
  have hd := tree_depth hok K K _ hr (Nat.le_refl _) K (Nat.le_refl _)
  obtain ⟨m, hm⟩ := Option.isSome_iff_exists.1 hs
  have hdp := dn_dpt hok K _ m hm
  obtain ⟨hf, hw⟩ := tree_fits hok K K _ hdp
  have hK64 := hK.1
  refine ⟨⟨hf, hsz, by rw [hd]; omega, by omega⟩, hw, by rw [hd, hl], tree_acc hok K K _ (shl_i64 a.start.toNat (by omega)).2 hdp _ ?_⟩
  rw [Nat.testBit_two_pow]
  simp
theorem some_large {a : Au} (hok : a.ok = true) {K : Nat} (hK : SomeK a K) (hs : (dnP a K (2 ^ a.start.toNat)).isSome = true) (hsz : 20000 < sizeTo K (treeP a (dnP a K) K (2 ^ a.start.toNat))) : 8 ≤ K := by
  obtain ⟨_, _, hn6, hst0, hst1, _⟩ := ok_parts hok
  obtain ⟨hl, hr⟩ := (someK_least hK hst1).2 hs
  have hd := tree_depth hok K K _ hr (Nat.le_refl _) K (Nat.le_refl _)
  obtain ⟨m, hm⟩ := Option.isSome_iff_exists.1 hs
  have hb := size_bd hok K K _ (dn_dpt hok K _ m hm)
  rw [hd] at hb
  rcases Nat.lt_or_ge K 8 with h | h
  · have := Nat.pow_le_pow_right (n := 4) (by omega) (show K ≤ 7 by omega)
    omega
  · exact h
set_option maxRecDepth 100000 in
set_option maxHeartbeats 2000000 in
theorem lsome_calls (a : Au) (w : World) (hT : Tab w) (r m : Value) (ha : rdO AuR w a [r, .int .i64 a.start, m]) :
    Calls Tryz.prog 3 #[.agg #[r, .int .i64 a.start, m]] w (RetD w (.bool true)) := by
  have HA := Lib.hid ha
  have HTB := Lib.hid hT
  clear hT
  obtain ⟨w2, hw2⟩ : ∃ w2, w2 = w.alloc (.cells #[r, .int .i64 a.start, m] 25) := ⟨_, rfl⟩
  have hG2 : Grew w w2 := by rw [hw2]; exact grew_alloc _ _
  have xa : ThreeAt w2 w.heap.size r (.int .i64 a.start) m 25 := by rw [hw2]; exact ThreeAt.new w _ _ _ _
  have hIS : Calls Tryz.prog 8 #[.agg #[r, .int .i64 a.start, m]] w2 (RetD w2 (.bool a.ok)) := by
    have h := ris_calls a w2 _ _ (rdO_frm moves_au hG2.1 ha)
    rw [← ok_eq] at h
    exact h
  have xa' := xa
  rw [hw2] at hIS xa'
  obtain ⟨ya0, ya1, ya2⟩ := xa'.cells
  have HIS := Lib.hid hIS
  have HW2 := Lib.hid hw2
  clear hw2 hIS xa' ha
  go_enter Tryz.func3, Tryz.ntmps3
  go_wp2_with fail
  refine HIS.out.mono ?_
  rw [← HW2.out]
  rintro e w3 ⟨rfl, hf3⟩
  have hG3 := grew_trans hG2 hf3
  clear ya0 ya1 ya2
  obtain ⟨xa0, xa1, xa2⟩ := (xa.frm hf3.1).cells
  dsimp only
  cases hok : a.ok with
  | false =>
    have HSB := Lib.hid (some_bad a hok w3 r m (rdO_frm moves_au hG3.1 HA.out))
    clear hok
    go_wp2_with fail
    refine HSB.out.mono ?_
    rintro e w4 ⟨rfl, hf4⟩
    have hG4 := grew_trans hG3 hf4
    obtain ⟨x0, x1, _, _⟩ := (TwoAt.new w4 (.int .i64 0) (.slice none 0 0) 29).cells
    dsimp only
    go_wp2_with fail
    refine (alive_calls _ (HTB.out.grew (grew_then_alloc hG4 _))).mono ?_
    rintro e w5 ⟨rfl, hf5⟩
    dsimp only
    go_wp2_with fail
    exact bodyPost_ret (results_tmp rfl _ _ _) rfl ⟨rfl, grew_trans (grew_then_alloc hG4 _) hf5⟩
  | true =>
    have HOK := Lib.hid hok
    have HMN := Lib.hid (many_calls a (ok_short hok) w3 r m (rdO_frm moves_au hG3.1 HA.out))
    have HSC : Hid (∀ wx, Grew w wx → Calls Tryz.prog 9 #[.agg #[r, .int .i64 a.start, m]] wx (SomePost a wx)) := fun wx hx => some_calls a HOK.out wx r m (HTB.out.grew hx) (rdO_frm moves_au hx.1 HA.out)
    have HLE : Hid (∀ wx, Grew w wx → Calls Tryz.prog 12 #[.agg #[r, .int .i64 a.start, m]] wx (RetD wx (.int .i64 (leastP a)))) := fun wx hx => least_calls a HOK.out wx _ _ (rdO_frm moves_au hx.1 HA.out)
    clear hok
    go_wp2_with fail
    refine HMN.out.mono ?_
    rintro e w4 ⟨b, rfl, hf4⟩
    have hG4 := grew_trans hG3 hf4
    clear xa0 xa1 xa2
    obtain ⟨xa0, xa1, xa2⟩ := ((xa.frm hf3.1).frm hf4.1).cells
    dsimp only
    cases b with
    | true =>
      go_wp2_with fail
      refine (alive_calls _ (HTB.out.grew hG4)).mono ?_
      rintro e w5 ⟨rfl, hf5⟩
      dsimp only
      go_wp2_with fail
      exact bodyPost_ret (results_tmp rfl _ _ _) rfl ⟨rfl, grew_trans hG4 hf5⟩
    | false =>
      go_wp2_with fail
      refine (HSC.out _ hG4).mono ?_
      rintro e w5 ⟨K, hK, hf5, hcase⟩
      have hG5 := grew_trans hG4 hf5
      have xa5 := (((xa.frm hf3.1).frm hf4.1).frm hf5.1)
      have HSK := Lib.hid (someK_least hK (ok_parts HOK.out).2.2.2.2.1)
      clear xa0 xa1 xa2
      rcases hcase with ⟨h0, rfl⟩ | ⟨h0, h1, rfl⟩ | ⟨h0, h1, v, rfl, hrd⟩
      · have hG6 := grew_then_alloc hG5 (.cells #[.int .i64 (-1), .slice none 0 0] 29)
        have hL := HLE.out _ hG6
        rw [HSK.out.1 h0] at hL
        have HL := Lib.hid hL
        obtain ⟨xa0, xa1, xa2⟩ := (xa5.frm (frm_alloc w5 (.cells #[.int .i64 (-1), .slice none 0 0] 29))).cells
        have xz := TwoAt.new w5 (.int .i64 (-1)) (.slice none 0 0) 29
        clear hL h0 hK
        dsimp only
        go_wp2_with fail
        refine HL.out.mono ?_
        rintro e w7 ⟨rfl, hf7⟩
        obtain ⟨x0, x1, _, _⟩ := (xz.frm hf7.1).cells
        dsimp only
        go_wp2_with fail
        refine (alive_calls _ (HTB.out.grew (grew_trans hG6 hf7))).mono ?_
        rintro e w8 ⟨rfl, hf8⟩
        dsimp only
        go_wp2_with fail
        exact bodyPost_ret (results_tmp rfl _ _ _) rfl ⟨rfl, grew_trans (grew_trans hG6 hf7) hf8⟩
      · have hK8 := some_large HOK.out hK h0 h1
        have hG6 := grew_then_alloc hG5 (.cells #[.int .i64 0, .slice none 0 0] 29)
        have hL := HLE.out _ hG6
        rw [(HSK.out.2 h0).1] at hL
        have HL := Lib.hid hL
        obtain ⟨xa0, xa1, xa2⟩ := (xa5.frm (frm_alloc w5 (.cells #[.int .i64 0, .slice none 0 0] 29))).cells
        have xz := TwoAt.new w5 (.int .i64 0) (.slice none 0 0) 29
        have k1 : ((K : Int) == 0) = false := by simp; omega
        have k2 : (8 : Int) ≤ K := by omega
        clear hL h0 hK h1
        dsimp only
        go_wp2_with fail
        refine HL.out.mono ?_
        rintro e w7 ⟨rfl, hf7⟩
        obtain ⟨x0, x1, _, _⟩ := (xz.frm hf7.1).cells
        dsimp only
        go_wp2_with fail
        refine (alive_calls _ (HTB.out.grew (grew_trans hG6 hf7))).mono ?_
        rintro e w8 ⟨rfl, hf8⟩
        dsimp only
        go_wp2_with fail
        exact bodyPost_ret (results_tmp rfl _ _ _) rfl ⟨rfl, grew_trans (grew_trans hG6 hf7) hf8⟩
      · have hK1 : 1 ≤ K := by
          cases K with
          | zero => simp [dnP] at h0
          | succ k => omega
        have HGD := Lib.hid (some_good HOK.out hK h0 h1)
        obtain ⟨C, n, c, rfl⟩ := tree_slice hrd
        generalize treeP a (dnP a K) K (2 ^ a.start.toNat) = tr at *
        have hG6 := grew_then_alloc hG5 (.cells #[.int .i64 tr.label, .slice C n c] 29)
        have hL := HLE.out _ hG6
        rw [(HSK.out.2 h0).1] at hL
        have HL := Lib.hid hL
        have HFD : Hid (∀ wx, Grew w5 wx → Calls Tryz.prog 13 #[.agg #[r, .int .i64 a.start, m], .agg #[.int .i64 tr.label, .slice C n c]] wx (RetD wx (.bool true))) := fun wx hx =>
          found_calls a HOK.out K tr HGD.out wx r m _ (rdO_frm moves_au (grew_trans hG5 hx).1 HA.out) (rdO_frm (moves_tr K) hx.1 hrd)
        have xa6 := xa5.frm (frm_alloc w5 (.cells #[.int .i64 tr.label, .slice C n c] 29))
        obtain ⟨xa0, xa1, xa2⟩ := xa6.cells
        have xz := TwoAt.new w5 (.int .i64 tr.label) (.slice C n c) 29
        have k1 : ((K : Int) == 0) = false := by simp; omega
        have hf56 : Grew w5 (w5.alloc (.cells #[.int .i64 tr.label, .slice C n c] 29)) := grew_alloc _ _
        clear hL h0 hK h1 hrd
        dsimp only
        generalize tr.label = lb at *
        go_wp2_with fail
        refine HL.out.mono ?_
        rintro e w7 ⟨rfl, hf7⟩
        obtain ⟨x0, x1, _, _⟩ := (xz.frm hf7.1).cells
        clear xa0 xa1 xa2
        obtain ⟨xa0, xa1, xa2⟩ := (xa6.frm hf7.1).cells
        dsimp only
        go_wp2_with fail
        refine (HFD.out _ (grew_trans hf56 hf7)).mono ?_
        rintro e w8 ⟨rfl, hf8⟩
        have hG8 := grew_trans (grew_trans hG6 hf7) hf8
        dsimp only
        go_wp2_with fail
        refine (alive_calls _ (HTB.out.grew hG8)).mono ?_
        rintro e w9 ⟨rfl, hf9⟩
        dsimp only
        go_wp2_with fail
        exact bodyPost_ret (results_tmp rfl _ _ _) rfl ⟨rfl, grew_trans hG8 hf9⟩
end Go.Proofs.YtjpdmncafacmaaaGreatDoor
end
/- MixSome: the law's walk lifted to its row, and the tied card. -/
section
set_option linter.unusedVariables false
set_option linter.unusedSimpArgs false
namespace Go.Proofs.YtjpdmncafacmaaaGreatDoor.mixSome
open Go.ChangeShapes Go.WideShapes Go.ChangeAt Go.RowKit
open Go.ChangeMaps (open_string shut_string)
theorem own : ownKnob Tryz.prog.godebug = none := by kernel_rfl
theorem laidOut : laidOutB Tryz.prog = true := by kernel_rfl
theorem gTab : Tryz.prog.globalNamed "math/bits.deBruijn64tab" = some 1 := by kernel_rfl
theorem gTabType : (Tryz.prog.globals[1]?).map (·.type) = some 179 := by kernel_rfl
theorem cellsTab : Tryz.prog.cellsOf 179 = 64 := by kernel_rfl
theorem cellsU8 : Tryz.prog.cellsOf 5 = 1 := by kernel_rfl
theorem table {W : World} (h : laidMetH Tryz.prog Rows.mixSomeRow.laid W) : Tab W :=
  tab_of (Lib.tabIs_of_head (rest := []) gTab gTabType Tryz.underlying179 Tryz.underlying5 cellsU8 cellsTab (laidMet.tail h))
set_option maxRecDepth 100000 in
theorem contract (H : Type) (enc : TypeId × Value → H) (W : World) (base : Nat) (args : Array Value) (ds gs : List (DataW H)) (before : List MemPlace)
    (hval0 : ∀ (j : Nat) t v, Tryz.f3.params[j]? = some t → args[j]? = some v → Value.okWide Tryz.prog W .any base t v)
    (hW : DataW.Whole enc Tryz.prog Tryz.f3.params.toList Rows.mixSomeSpec.vars false W args.toList ds gs before) (hL : laidMetH Tryz.prog Rows.mixSomeRow.laid W)
    (hsz0 : (DataW.weightsEach Tryz.prog (Tryz.f3.params.toList ++ Rows.mixSomeSpec.plain.varTypes Tryz.prog) (ds ++ gs)).all (· ≤ reachBytes) = true) :
    Calls Tryz.prog 3 args W fun e W' => ∃ v, e = .returned v ∧ Rows.mixSomeSpec.post enc Tryz.prog Tryz.f3 false true false false W args v W' := by
  have hsz : (DataW.weightsEach Tryz.prog (Tryz.f3.params.toList ++ Rows.mixSomeSpec.plain.varTypes Tryz.prog) (ds ++ gs)).all (· ≤ reachBytes) = true := hsz0
  have hval : ∀ (j : Nat) t v, Tryz.f3.params[j]? = some t → args[j]? = some v → Value.okWide Tryz.prog W .any base t v := hval0
  have hW' := hW
  obtain ⟨p, q, hA0, hV, rfl, hfz, hnd⟩ := hW
  have hA : DataW.TrodAll enc Tryz.prog W 0 (fun _ => true) true Tryz.f3.params.toList args.toList ds p := hA0
  rw [Tryz.params3] at hA hval hsz
  obtain ⟨a0, vs0, d0, ds0, p0, q0, hargs, rfl, rfl, h0, r0⟩ := trodAll_cons hA
  obtain ⟨rfl, rfl, rfl⟩ := trodAll_nil r0
  obtain rfl : args = #[a0] := by cases args; simp_all
  obtain ⟨rfl, rfl⟩ := trodVars_none hV
  have k0 := h0
  have lt0 : ∀ x ∈ p0, x.block < W.heap.size := by obtain ⟨m, hm⟩ := k0; exact DataW.trod_lt m _ _ _ hm
  have o0 := arg_au (hval 0 25 a0 rfl rfl) h0 (fun n hn => by simpa using List.all_eq_true.1 hsz _ (DataW.weights_mem_each (j := 0) (t := 25) rfl rfl n hn))
  obtain ⟨t0, v0, u0, rfl, x0⟩ := o0
  have htab := table hL
  clear hA0 hval0 hsz0
  refine (lsome_calls t0 W htab v0 u0 x0).mono fun e W' ⟨he, hf⟩ => ?_
  have bel : Below W.heap.size W W' := ⟨hf.1.os, hf.1.tape, hf.1.output, hf.1.size, fun k hk => hf.1.block k hk (by simp)⟩
  subst he
  exact ⟨_, rfl, _, _, _, [], _, [], hW', trodAll_mk1 (shut_bool Tryz.underlying4 _), (trodAll_cons_mk (Below.trod laidOut (by kernel_rfl) (of_decide_eq_true (by kernel_rfl)) k0 bel lt0) trodAll_mk0), rfl, bel.frame _, fun h => by cases h⟩

/-- A world for the witness: the listed variables hold what their initialisers lay. -/
noncomputable def laidWorld (os : Os) : World :=
  { World.holding Tryz.prog os ⟨#[], #[], []⟩ with heap := laidHeap (World.holding Tryz.prog os ⟨#[], #[], []⟩).heap }
theorem laid_met (os : Os) : laidMet Tryz.prog Rows.mixSomeRow.laid ((laidWorld os).forCall (fun _ _ => 0) ⟨#[], #[.agg #[.slice none 0 0, .int .i64 0, .slice none 0 0]], []⟩).memory :=
  laidMet_of_run' 64 (by kernel_rfl) (by kernel_rfl)
theorem reads (os : Os) {H : Type} (enc : TypeId × Value → H) : ∃ places, DataW.whole enc Tryz.prog ((laidWorld os).forCall (fun _ _ => 0) ⟨#[], #[.agg #[.slice none 0 0, .int .i64 0, .slice none 0 0]], []⟩).memory Tryz.f3.params.toList Rows.mixSomeSpec.vars false #[(.agg #[.slice none 0 0, .int .i64 0, .slice none 0 0] : Value)].toList 64 = some ([.agg [.nil, .lit (.int .i64 0), .nil]], [], places) :=
  ⟨[], by kernel_rfl⟩
set_option maxRecDepth 100000 in
theorem lifted (os : Os) (started : os.Started) (H : Type) (enc : TypeId × Value → H) (F : Stop.Interp) :
    ReturnsInHanded {} Tryz.checked os 3 .any ((OpenSpec.ofChange Rows.mixSomeSpec).preRow enc Tryz.prog Tryz.f3 Rows.mixSomeRow.domain false Rows.mixSomeRow.laid) (((OpenSpec.ofChange Rows.mixSomeSpec).at F).post enc Tryz.prog Tryz.f3 false true false false) := by
  obtain ⟨places, hx⟩ := reads os enc
  refine returnsInHanded_of_row (C := Tryz.checked) (s := OpenSpec.ofChange Rows.mixSomeSpec) own started (by kernel_rfl) Tryz.func3
    (witness_row_at (enc := enc) (C := Tryz.checked) false (laidWorld os) #[.agg #[.slice none 0 0, .int .i64 0, .slice none 0 0]] rfl (by kernel_rfl) (by kernel_rfl) (by kernel_rfl)
      (OpenSpec.preRow_of_cond 64 hx (by kernel_rfl) (fun k hk => by cases hk) (by kernel_rfl) (laid_met os))) ?_
  intro W base args ds gs before hval hW _ _ hsz hL _ _
  exact contract H enc W base args ds gs before hval hW hL hsz
theorem said : Rows.MixSomeSaid :=
  OpenClaim.holds_of_cond 3 Tryz.f3 rfl rfl rfl rfl rfl rfl rfl ⟨rfl, rfl, rfl, rfl, rfl⟩ rfl rfl rfl rfl rfl (by kernel_rfl) Tryz.func3 (by kernel_rfl)
    (of_decide_eq_true (by kernel_rfl)) (by unfold Func.isWrapper; first | (rw [if_pos (by decide +kernel)]; kernel_rfl) | (rw [if_neg (by decide +kernel)]; exact ⟨rfl, rfl⟩))
    (fun os started H enc _ F => by rw [OpenClaim.pre_eq_preRow]; exact lifted os started H enc F)
set_option maxRecDepth 100000 in
theorem plain (f : FuncId) (fn : Func) (hf : Tryz.pinned.checked.prog.funcNamed "virgation/virgationlaw10.MixSome" = some f) (hfn : Tryz.pinned.checked.prog.funcs[f]? = some fn) :
    false = Tryz.pinned.checked.prog.looks [] ∧ ∀ (j : Nat) t, fn.params[j]? = some t → Tryz.pinned.checked.prog.wantsStandIn t = false := by
  obtain rfl : f = 3 := Option.some.inj ((show Tryz.prog.funcNamed "virgation/virgationlaw10.MixSome" = some 3 by kernel_rfl).symm.trans hf) |>.symm
  obtain rfl : fn = Tryz.f3 := (Option.some.inj (Tryz.func3.symm.trans hfn)).symm
  refine ⟨by kernel_rfl, fun j t ht => ?_⟩
  rw [Tryz.params3] at ht
  have s0 : Tryz.prog.wantsStandIn 25 = false := by kernel_rfl
  have hm := Array.mem_of_getElem? ht
  simp only [List.mem_toArray, List.mem_cons, List.not_mem_nil, or_false] at hm
  rcases hm with rfl
  all_goals assumption
theorem card : Rows.MixSomeCardSaid :=
  Claim7.holds_tied_plain_at .later [] _ _ _ _ said (fun _ h => by cases h) (by kernel_rfl) (fun _ h => by cases h) mixSome_row_tie rfl ⟨rfl, rfl⟩ (by kernel_rfl) rfl plain (by kernel_rfl)
end Go.Proofs.YtjpdmncafacmaaaGreatDoor.mixSome
namespace Go.Proofs.YtjpdmncafacmaaaGreatDoor
/-- The card, under a short name, for the claim. -/
theorem mixSome_holds : Rows.MixSomeCardSaid := mixSome.card
end Go.Proofs.YtjpdmncafacmaaaGreatDoor
end
