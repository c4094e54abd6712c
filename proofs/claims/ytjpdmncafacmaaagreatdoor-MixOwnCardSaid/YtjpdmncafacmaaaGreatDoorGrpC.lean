/- GrpC: parts of the walks, one section each: the texts RdN, RdNum, GetP, GetL, Within, Small, DualP, RegE, GetW, RefCopy2, DualW, RefDual, RefSame, Is, IsE, JoinLaw. -/
import Derived.Test.YtjpdmncafacmaaaGreatDoorUnf
import Derived.Test.YtjpdmncafacmaaaGreatDoorGrpA
import Derived.Test.YtjpdmncafacmaaaGreatDoorRows1
import Derived.Test.YtjpdmncafacmaaaGreatDoorAuLaw
import Derived.Test.YtjpdmncafacmaaaGreatDoorCompactN
import Derived.Test.YtjpdmncafacmaaaGreatDoorMore
import Derived.Test.YtjpdmncafacmaaaGreatDoorRefIns
import Derived.Test.YtjpdmncafacmaaaGreatDoorRefBothR
import Derived.Test.YtjpdmncafacmaaaGreatDoorHeld
import Derived.StillTail
import Derived.Deep.DeepCutAuto
import Derived.Deep.CutRange
import Derived.Test.YtjpdmncafacmaaaGreatDoorRefCopy
import Derived.Test.YtjpdmncafacmaaaGreatDoorPair
import Derived.Test.YtjpdmncafacmaaaGreatDoorJoinD
import Derived.Test.YtjpdmncafacmaaaGreatDoorRefBothD
import Derived.Test.YtjpdmncafacmaaaGreatDoorStart
/- The reader of automata: is, must. -/
section
set_option linter.unusedVariables false
set_option linter.unusedSimpArgs false
namespace Go.Proofs.YtjpdmncafacmaaaGreatDoor
open Go.RowKit

/-- A reader's block: the text, the place in it, and whether it is bad. -/
def RdN (w : World) (g : Nat) (s : ByteArray) (n : Nat) (bad : Bool) : Prop := w.heap[g]? = some (.cells #[.string s, .int .i64 n, .bool bad] 109 (0, 0))
theorem RdN.lt {w : World} {g n : Nat} {s : ByteArray} {b : Bool} (h : RdN w g s n b) : g < w.heap.size := (Array.getElem?_eq_some_iff.1 h).1
theorem RdN.cells {w : World} {g n : Nat} {s : ByteArray} {b : Bool} (h : RdN w g s n b) : w.cell? ⟨g, 0, none⟩ = some (.string s) ∧ w.cell? ⟨g, 1, none⟩ = some (.int .i64 n) ∧ w.cell? ⟨g, 2, none⟩ = some (.bool b) ∧ w.frozen? ⟨g, 0, none⟩ = false ∧ w.frozen? ⟨g, 1, none⟩ = false ∧ w.frozen? ⟨g, 2, none⟩ = false := by
  unfold RdN at h
  simp [World.cell?, World.frozen?, h]
theorem RdN.set1 {w : World} {g n : Nat} {s : ByteArray} {b : Bool} (h : RdN w g s n b) (n' : Nat) : RdN (w.setCell ⟨g, 1, none⟩ (.int .i64 n')) g s n' b := by
  unfold RdN at h ⊢
  simp [World.setCell, Array.getElem?_modify, h]
theorem RdN.set2 {w : World} {g n : Nat} {s : ByteArray} {b : Bool} (h : RdN w g s n b) (b' : Bool) : RdN (w.setCell ⟨g, 2, none⟩ (.bool b')) g s n b' := by
  unfold RdN at h ⊢
  simp [World.setCell, Array.getElem?_modify, h]
theorem RdN.move {w w' : World} {g n : Nat} {s : ByteArray} {b : Bool} (h : RdN w g s n b) (hw : w'.heap[g]? = w.heap[g]?) : RdN w' g s n b := hw.trans h
theorem RdN.drewN {w : World} {g n : Nat} {s : ByteArray} {b : Bool} (h : RdN w g s n b) (k : Nat) : RdN (w.drewN k) g s n b := h
/-- A method of the reader returns. -/
def RetR (w : World) (g : Nat) (s : ByteArray) (n : Nat) (bad : Bool) (v : Value) (e : Ending) (w' : World) : Prop :=
  e = .returned v ∧ GrewR w w' (some g) ∧ RdN w' g s n bad

/-- The text goes on with `t` at `n`. -/
def isAt (s : ByteArray) (n : Nat) (t : ByteArray) : Bool := decide (n + t.size ≤ s.size) && (s.extract n (n + t.size)).toList == t.toList

set_option maxRecDepth 20000 in
set_option maxHeartbeats 400000 in
theorem is_calls (s t : ByteArray) (n : Nat) (bad : Bool) (hs : s.size < 2 ^ 40) (ht : t.size < 2 ^ 40) (hn : n ≤ s.size) (w : World) (g : Nat) (hr : RdN w g s n bad) :
    Calls Tryz.prog 79 #[.pointer (some ⟨g, 0, none⟩), .string t] w (RetR w g s (if isAt s n t then n + t.size else n) bad (.bool (isAt s n t))) := by
  obtain ⟨c0, c1, c2, f0, f1, f2⟩ := hr.cells
  have HR := Lib.hid hr
  clear hr
  have e1 : IntKind.i64.wrap ((s.size : Int) - n) = (s.size : Int) - n := IntWalk.i64_in _ (by omega)
  have e2 : IntKind.i64.wrap ((n : Int) + t.size) = (n : Int) + t.size := IntWalk.i64_in _ (by omega)
  by_cases hl : n + t.size ≤ s.size
  · have hd : decide ((s.size : Int) - n < t.size) = false := by simp; omega
    have q0 : (0 : Int) ≤ (n : Int) + t.size := by omega
    have q1 : (n : Int) + t.size ≤ s.size := by omega
    have q2 : ((n : Int) + t.size).toNat = n + t.size := by omega
    have q3 : (n : Int) ≤ ((n + t.size : Nat) : Int) := by omega
    have q4 : (0 : Int) ≤ n := by omega
    have q5 : (n : Int) ≤ (n : Int) + t.size := by omega
    by_cases he : (s.extract n (n + t.size)).toList = t.toList
    · have hq : isAt s n t = true := by simp [isAt, hl, he]
      rw [hq]
      clear hq
      go_enter Tryz.func79, Tryz.ntmps79
      go_wp2_with fail
      go_quiet (fail)
      go_wp2_with fail
      exact bodyPost_ret (results_tmp rfl _ _ _) rfl ⟨rfl, grewR_set ⟨frm_weak (frm_drewN _ _), Nat.le_add_right _ _⟩ _ _, (HR.out.drewN _).set1 (n + t.size)⟩
    · have hq : isAt s n t = false := by simp [isAt, he]
      rw [hq]
      have hne : (!(s.extract n (n + t.size)).toList == t.toList) = true := by simpa using he
      clear hq he
      go_enter Tryz.func79, Tryz.ntmps79
      go_wp2_with fail
      go_quiet (fail)
      go_wp2_with fail
      exact bodyPost_ret (results_tmp rfl _ _ _) rfl ⟨rfl, ⟨frm_weak (frm_drewN _ _), Nat.le_add_right _ _⟩, HR.out.drewN _⟩
  · have hd : decide ((s.size : Int) - n < t.size) = true := by simp; omega
    have hq : isAt s n t = false := by simp [isAt, hl]
    rw [hq]
    clear hq
    go_enter Tryz.func79, Tryz.ntmps79
    go_wp2_with fail
    go_quiet (fail)
    go_wp2_with fail
    exact bodyPost_ret (results_tmp rfl _ _ _) rfl ⟨rfl, ⟨frm_weak (frm_drewN _ _), Nat.le_add_right _ _⟩, HR.out.drewN _⟩

/-- A text that must come. -/
theorem must_calls (s t : ByteArray) (n : Nat) (bad : Bool) (hs : s.size < 2 ^ 40) (ht : t.size < 2 ^ 40) (hn : n ≤ s.size) (w : World) (g : Nat) (hr : RdN w g s n bad) :
    Calls Tryz.prog 78 #[.pointer (some ⟨g, 0, none⟩), .string t] w (fun e w' => e = .returned (.tuple #[]) ∧ GrewR w w' (some g) ∧ RdN w' g s (if isAt s n t then n + t.size else n) (bad || !isAt s n t)) := by
  have ih0 := is_calls s t n bad hs ht hn w g hr
  clear hr
  cases hb : isAt s n t with
  | true =>
    rw [hb] at ih0
    have ih := Lib.hid ih0
    clear ih0
    go_enter Tryz.func78, Tryz.ntmps78
    go_wp2_with ((go_at_call 79; refine (ih.out).mono ?_; rintro e w' ⟨rfl, hG, hR⟩))
    exact bodyPost_end (results_none rfl _ _ _) rfl ⟨rfl, hG, by simpa using hR⟩
  | false =>
    rw [hb] at ih0
    have ih := Lib.hid ih0
    clear ih0
    go_enter Tryz.func78, Tryz.ntmps78
    go_wp2_with ((go_at_call 79; refine (ih.out).mono ?_; rintro e w' ⟨rfl, hG, hR⟩; obtain ⟨c0, c1, c2, f0, f1, f2⟩ := hR.cells; have HR := Lib.hid hR; clear hR))
    exact bodyPost_end (results_none rfl _ _ _) rfl ⟨rfl, grewR_set hG _ _, by simpa using HR.out.set2 true⟩
end Go.Proofs.YtjpdmncafacmaaaGreatDoor
end
/- The reader of automata: a number of one digit. -/
section
set_option linter.unusedVariables false
set_option linter.unusedSimpArgs false
namespace Go.Proofs.YtjpdmncafacmaaaGreatDoor
open Go.RowKit

theorem grewR_drewN {w w1 : World} {row : Option Nat} (h : GrewR w w1 row) (k : Nat) : GrewR w (w1.drewN k) row := grewR_trans h ⟨frm_weak (frm_drewN _ _), Nat.le_add_right _ _⟩
set_option maxRecDepth 20000 in
set_option maxHeartbeats 1000000 in
theorem number_calls (s : ByteArray) (n d : Nat) (bad : Bool) (hs : s.size < 2 ^ 40) (h1 : n + 1 < s.size) (hd : d ≤ 9) (hx : (s[n]'(by omega)).toNat = 48 + d) (hy : (s[n + 1]'h1).toNat < 48 ∨ 57 < (s[n + 1]'h1).toNat) (w : World) (g : Nat) (hr : RdN w g s n bad) :
    Calls Tryz.prog 80 #[.pointer (some ⟨g, 0, none⟩)] w (RetR w g s (n + 1) bad (.int .i64 d)) := by
  obtain ⟨c0, c1, c2, f0, f1, f2⟩ := hr.cells
  have HR := Lib.hid hr
  clear hr
  have e1 : IntKind.i64.wrap ((n : Int) + 1) = (n : Int) + 1 := IntWalk.i64_in _ (by omega)
  have hn : n < s.size := by omega
  go_enter Tryz.func80, Tryz.ntmps80
  go_wp2_with fail
  go_quiet (fail)
  go_wp2_with fail
  go_loopw [3] (fun i wr => (i = .int .i64 0 ∧ GrewR w wr (some g) ∧ Hid (RdN wr g s n bad)) ∨ (i = .int .i64 d ∧ GrewR w wr (some g) ∧ Hid (RdN wr g s (n + 1) bad))) (fun i wr => s.size - (intOf ((wr.cell? ⟨g, 1, none⟩).getD (.int .i64 0))).toNat)
  case atStart => exact .inl ⟨rfl, ⟨frm_weak (frm_drewN _ _), Nat.le_add_right _ _⟩, HR.out.drewN _⟩
  case round =>
    rcases hrel with ⟨rfl, hG, hR⟩ | ⟨rfl, hG, hR⟩
    · obtain ⟨c0, c1, c2, f0, f1, f2⟩ := hR.out.cells
      have d0 : (0 : Int) ≤ n := by omega
      have d1 : (n : Int) < s.size := by omega
      have d2 : decide (n < s.size) = true := by simp; omega
      have d3 : decide ((n : Int) < s.size) = true := by simp; omega
      have g1 : decide ((48 : Int) ≤ 48 + d) = true := by simp; omega
      have g2 : decide ((48 : Int) + d ≤ 57) = true := by simp; omega
      have g3 : IntKind.i64.wrap ((n : Int) - n) = 0 := by rw [Int.sub_self]; rfl
      have g4 : IntKind.u8.wrap (48 + (d : Int) - 48) = d := by
        have : (48 + (d : Int) - 48) = d := by omega
        rw [this]
        exact IntWalk.u8_in _ (by omega)
      have g5 : IntKind.i64.wrap (d : Int) = d := IntWalk.i64_in _ (by omega)
      go_wp2_with fail
      go_quiet (fail)
      go_wp2_with fail
      go_quiet (fail)
      go_wp2_with fail
      refine ⟨.inr ⟨rfl, ?_, ?_⟩, ?_⟩
      · first | exact grewR_set (grewR_drewN hG _) _ _ | exact grewR_set (grewR_drewN (grewR_drewN hG _) _) _ _
      · exact (hR.out.drewN _).set1 (n + 1)
      · have hN : RdN ((wr.drewN 0).setCell ⟨g, 1, none⟩ (.int .i64 ((n + 1 : Nat) : Int))) g s (n + 1) bad := (hR.out.drewN _).set1 (n + 1)
        have h5 := hN.cells.2.1
        rw [Int.natCast_add] at h5
        show s.size - (intOf ((World.cell? ((wr.drewN 0).setCell ⟨g, 1, none⟩ (.int .i64 ((n : Int) + 1))) ⟨g, 1, none⟩).getD (.int .i64 0))).toNat < _
        rw [show ((n : Int) + 1) = (n : Int) + ((1 : Nat) : Int) from rfl, h5, c1]
        simp [intOf]
        omega
    · obtain ⟨c0, c1, c2, f0, f1, f2⟩ := hR.out.cells
      rw [Int.natCast_add] at c1
      have d0 : (0 : Int) ≤ n + 1 := by omega
      have d1 : (n : Int) + 1 < s.size := by omega
      have d4 : ((n : Int) + 1).toNat = n + 1 := by omega
      have d2 : decide (n + 1 < s.size) = true := by simp; omega
      have d3 : decide ((n : Int) + 1 < s.size) = true := by simp; omega
      have b1 : ((n : Int) + 1 == (n : Int)) = false := by rw [beq_eq_false_iff_ne]; omega
      have b2 : decide ((1000000000 : Int) < d) = false := by simp; omega
      have b3 : decide ((n : Int) + 1 < n + 1) = false := by simp
      obtain ⟨y, hyy⟩ : ∃ y, (s[n + 1]'h1).toNat = y := ⟨_, rfl⟩
      rw [hyy] at hy
      rcases hy with hy | hy
      · have g1 : decide ((48 : Int) ≤ y) = false := by simp; omega
        go_wp2_with fail
        go_quiet (fail)
        go_wp2_with fail
        exact bodyPost_ret (results_tmp rfl _ _ _) rfl ⟨rfl, by first | exact grewR_drewN hG _ | exact grewR_drewN (grewR_drewN hG _) _, hR.out.drewN _⟩
      · have g1 : decide ((48 : Int) ≤ y) = true := by simp; omega
        have g2 : decide ((y : Int) ≤ 57) = false := by simp; omega
        go_wp2_with fail
        go_quiet (fail)
        go_wp2_with fail
        exact bodyPost_ret (results_tmp rfl _ _ _) rfl ⟨rfl, by first | exact grewR_drewN hG _ | exact grewR_drewN (grewR_drewN hG _) _, hR.out.drewN _⟩
end Go.Proofs.YtjpdmncafacmaaaGreatDoor
end
/- The example's text, read: plain facts; the state of the reading. -/
section
set_option linter.unusedVariables false
set_option linter.unusedSimpArgs false
namespace Go.Proofs.YtjpdmncafacmaaaGreatDoor
open Go.RowKit

def exB : Array UInt8 := #[114, 97, 110, 107, 115, 32, 50, 32, 49, 32, 48, 10, 115, 116, 97, 116, 101, 115, 32, 49, 32, 115, 116, 97, 114, 116, 32, 48, 10, 48, 32, 48, 58, 32, 48, 46, 48, 32, 49, 46, 48, 10, 48, 32, 50, 58, 10]
def exS : ByteArray := ⟨exB⟩
theorem ex_size : exS.size = 47 := by kernel_rfl
def tSp : ByteArray := ⟨#[32]⟩
def tCo : ByteArray := ⟨#[58]⟩
def tDo : ByteArray := ⟨#[46]⟩
def tNl : ByteArray := ⟨#[10]⟩
def tRk : ByteArray := ⟨#[114, 97, 110, 107, 115]⟩
def tSt : ByteArray := ⟨#[10, 115, 116, 97, 116, 101, 115, 32]⟩
def tSa : ByteArray := ⟨#[32, 115, 116, 97, 114, 116, 32]⟩
/-- The letter at a place. -/
def exAt (n : Nat) : Nat := (exB.getD n 0).toNat
theorem ex_at (n : Nat) (h : n < exS.size) : (exS[n]'h).toNat = exAt n := by
  unfold exAt
  have h' : n < exB.size := h
  show (exB[n]'(h')).toNat = _
  simp [Array.getD, h']
theorem ex_num (n d : Nat) (h1 : n + 1 < 47) (hd : d ≤ 9) (hx : exAt n = 48 + d) (hy : exAt (n + 1) < 48 ∨ 57 < exAt (n + 1)) (w : World) (g : Nat) (hr : RdN w g exS n false) :
    Calls Tryz.prog 80 #[.pointer (some ⟨g, 0, none⟩)] w (RetR w g exS (n + 1) false (.int .i64 d)) :=
  number_calls exS n d false (by rw [ex_size]; decide) (by rw [ex_size]; exact h1) hd (by rw [ex_at]; exact hx) (by rw [ex_at]; exact hy) w g hr
theorem ex_must (t : ByteArray) (n : Nat) (hn : n ≤ 47) (ht : t.size < 2 ^ 40) (hi : isAt exS n t = true) (w : World) (g : Nat) (hr : RdN w g exS n false) :
    Calls Tryz.prog 78 #[.pointer (some ⟨g, 0, none⟩), .string t] w (fun e w' => e = .returned (.tuple #[]) ∧ GrewR w w' (some g) ∧ RdN w' g exS (n + t.size) false) := by
  have h := must_calls exS t n false (by rw [ex_size]; decide) ht (by rw [ex_size]; exact hn) w g hr
  rw [hi] at h
  exact h
theorem ex_is (t : ByteArray) (n : Nat) (b : Bool) (hn : n ≤ 47) (ht : t.size < 2 ^ 40) (hi : isAt exS n t = b) (w : World) (g : Nat) (hr : RdN w g exS n false) :
    Calls Tryz.prog 79 #[.pointer (some ⟨g, 0, none⟩), .string t] w (RetR w g exS (if b then n + t.size else n) false (.bool b)) := by
  have h := is_calls exS t n false (by rw [ex_size]; decide) ht (by rw [ex_size]; exact hn) w g hr
  rw [hi] at h
  exact h
/-- The lines' beginnings, their symbols, and how many needs they have. -/
def lnAt (i : Nat) : Nat := if i = 0 then 29 else if i = 1 then 42 else 47
def lnF (i : Nat) : Nat := if i = 0 then 0 else 2
def lnN (i : Nat) : Nat := if i = 0 then 2 else 0
theorem ex_ranks : ∀ k, k ≤ 3 → isAt exS (5 + 2 * k) tSp = decide (k < 3) := by decide +kernel
theorem ex_rank : ∀ k, k < 3 → exAt (6 + 2 * k) = 48 + (2 - k) ∧ (exAt (6 + 2 * k + 1) < 48 ∨ 57 < exAt (6 + 2 * k + 1)) := by decide +kernel
theorem ex_head : isAt exS 0 tRk = true ∧ isAt exS 11 tSt = true ∧ isAt exS 20 tSa = true ∧ isAt exS 28 tNl = true ∧ exAt 19 = 48 + 1 ∧ exAt 20 < 48 ∧ exAt 27 = 48 + 0 ∧ exAt 28 < 48 := by decide +kernel
theorem ex_line : ∀ i, i < 2 → exAt (lnAt i) = 48 + 0 ∧ exAt (lnAt i + 1) < 48 ∧ isAt exS (lnAt i + 1) tSp = true ∧ exAt (lnAt i + 2) = 48 + lnF i ∧ 57 < exAt (lnAt i + 3) ∧ isAt exS (lnAt i + 3) tCo = true ∧ isAt exS (lnAt i + 4 + 4 * lnN i) tNl = true ∧ lnAt i + 5 + 4 * lnN i = lnAt (i + 1) := by decide +kernel
theorem ex_need : ∀ i, i < 2 → ∀ j, j ≤ lnN i → isAt exS (lnAt i + 4 + 4 * j) tSp = decide (j < lnN i) ∧ (j < lnN i → exAt (lnAt i + 5 + 4 * j) = 48 + j ∧ exAt (lnAt i + 6 + 4 * j) < 48 ∧ isAt exS (lnAt i + 6 + 4 * j) tDo = true ∧ exAt (lnAt i + 7 + 4 * j) = 48 + 0 ∧ exAt (lnAt i + 8 + 4 * j) < 48) := by decide +kernel
/-- The example. -/
def exRow : List (List (List Nd)) := [[[(0, 0), (1, 0)]], [], [[]]]
def exA : Au := ⟨[2, 1, 0], 0, [exRow]⟩
theorem ex_ok : exA.ok = true := by kernel_rfl
def exRowTo (i : Nat) : List (List (List Nd)) := if i = 0 then [[], [], []] else if i = 1 then [[[(0, 0), (1, 0)]], [], []] else exRow
def exNeeds (i : Nat) : List Nd := if i = 0 then [(0, 0), (1, 0)] else []

/-! ### The state of the reading -/
structure GS (w : World) (n : Nat) (rv : Value) (st : Int) (mv : Value) (wr : World) : Prop where
  grew : Grew w wr
  res : ThreeAt wr w.heap.size (.slice none 0 0) (.int .i64 0) (.slice none 0 0) 25
  rd : RdN wr (w.heap.size + 1) exS n false
  var : ThreeAt wr (w.heap.size + 2) rv (.int .i64 st) mv 25
theorem GS.hi {w : World} {n : Nat} {rv : Value} {st : Int} {mv : Value} {wr : World} (h : GS w n rv st mv wr) : w.heap.size + 3 ≤ wr.heap.size := h.var.lt
theorem GS.step {w : World} {n : Nat} {rv : Value} {st : Int} {mv : Value} {wr w' : World} (h : GS w n rv st mv wr) (hf : Grew wr w') : GS w n rv st mv w' :=
  ⟨grew_trans h.grew hf, h.res.frm hf.1, h.rd.move (frm_lt hf.1 _ h.rd.lt), h.var.frm hf.1⟩
theorem GS.call {w : World} {n n' : Nat} {rv : Value} {st : Int} {mv : Value} {wr w' : World} (h : GS w n rv st mv wr) (hf : GrewR wr w' (some (w.heap.size + 1))) (hr : RdN w' (w.heap.size + 1) exS n' false) : GS w n' rv st mv w' :=
  ⟨⟨frm_new h.grew.1 (by omega) hf.1, Nat.le_trans h.grew.2 hf.2⟩, h.res.move (hf.1.block _ h.res.lt (by intro e; injection e with e; omega)), hr, h.var.move (hf.1.block _ h.var.lt (by intro e; injection e with e; omega))⟩
/-- A row of the reading's own lives on. -/
theorem own_call {α : Type} {r : RdS α} (hr : Moves r) {wr w' : World} {base e k g : Nat} {v : Value} {xs : List α} (h : Own r wr base e k (fun b => base ≤ b) v xs) (hg : g < base) (hf : GrewR wr w' (some g)) : Own r w' base e k (fun b => base ≤ b) v xs := by
  have hl := h.lt
  exact h.kept hr hf.1 (.inr fun e => by have := (hl g e).1; omega) (fun b hb e => by injection e with e; omega)
theorem RdN.new (w : World) (s : ByteArray) : RdN (w.alloc (.cells #[.string s, .int .i64 0, .bool false] 109)) w.heap.size s 0 false := by
  show (w.heap.push _)[w.heap.size]? = _
  simp
/-- One element appended to field 0. -/
theorem fld_app0 {α : Type} {r : RdS α} (hr : Moves r) {t e bytes : Nat} (HI : ElemInfo Tryz.prog t e 1 bytes) (hb0 : 0 < bytes) {w : World} {n : Nat} {rv : Value} {st : Int} {mv : Value} {w5 : World} (h : GS w n rv st mv w5) {xs : List α} (hO : Own r w5 (w.heap.size + 3) e 1 (fun b => w.heap.size + 3 ≤ b) rv xs)
    (y : α) (u : Value) (T : TypeId) (h1 : u.oneCell' = true) (hy : r (Sup (fun b => w.heap.size + 3 ≤ b) (w5.alloc (.cells #[u] T)) rv) (w5.alloc (.cells #[u] T)) y [u]) (hbytes : (xs.length + 1) * bytes ≤ 140737488355328) (ty : TypeId) :
    ∃ v9 w9, (Builtin.append_ #[t, t] ty #[rv, .slice (some ⟨w5.heap.size, 0, none⟩) 1 1]).run Tryz.prog (w5.alloc (.cells #[u] T)) = .ok v9 w9 ∧ w9.cell? ⟨w.heap.size + 2, 0, none⟩ = some rv ∧ w9.frozen? ⟨w.heap.size + 2, 0, none⟩ = false ∧ (∃ A9 c9, v9 = .slice A9 (xs.length + 1) c9) ∧
      GS w n v9 st mv (w9.setCell ⟨w.heap.size + 2, 0, none⟩ v9) ∧ Own r (w9.setCell ⟨w.heap.size + 2, 0, none⟩ v9) (w.heap.size + 3) e 1 (fun b => w.heap.size + 3 ≤ b) v9 (xs ++ [y]) ∧ GrewR w5 w9 rv.ownBlock ∧ (v9.ownBlock = rv.ownBlock ∨ v9.ownBlock = some (w5.heap.size + 1)) := by
  have hal := grew_alloc w5 (.cells #[u] T)
  have h6 := h.step hal
  have hO6 := hO.kept hr hal.1 (ownNone _) (by simp)
  have hl6 := hO6.lt
  have hhi := h.hi
  have htw := OneAt.new w5 u T
  obtain ⟨v9, w9, hrun, hO9, hG9, hp9⟩ := Own.app_run hr HI hO6 ty (g := w5.heap.size) y [u] rfl (one_at htw) (fun v hv => by simp at hv; subst hv; exact h1) hy hbytes hb0 (by simp; omega)
  have hs9 := hG9.1.size
  have hne : ∀ b, b < w.heap.size + 3 → rv.ownBlock ≠ some b := fun b hb e => by have := (hl6 b e).1; omega
  have hmv : ∀ b, b < w.heap.size + 3 → w9.heap[b]? = (w5.alloc (.cells #[u] T)).heap[b]? := fun b hb => hG9.1.block b (by simp; omega) (fun e => hne b hb e.symm)
  have hV9 := h6.var.move (hmv _ (by omega))
  obtain ⟨A9, c9, he9, hcc9⟩ := hO9.val
  have hl9 := hO9.lt
  refine ⟨v9, w9, hrun, hV9.cells.1, hV9.free 0, ⟨A9, c9, by rw [he9]; simp⟩, ⟨⟨frm_set_new (h6.grew.1.andThen hG9.1 (fun b hb => .inl (by have := (hl6 b hb).1; omega))) (by omega) _ _, Nat.le_trans h6.grew.2 hG9.2⟩, ?_, ?_, hV9.set0 v9⟩, ?_, grewR_trans (grewR_weak hal) hG9, by simpa using hp9⟩
  · exact (h6.res.move (hmv _ (by omega))).move (Below.heap_setCell _ _ _ _ (by show w.heap.size ≠ w.heap.size + 2; omega))
  · exact (h6.rd.move (hmv _ (by omega))).move (Below.heap_setCell _ _ _ _ (by show w.heap.size + 1 ≠ w.heap.size + 2; omega))
  · exact hO9.kept hr (frm_set (frm_refl _ _) _ _) (.inr fun e => by have := (hl9 _ e).1; omega) (fun b hb e => by injection e with e; omega)
/-- One element appended to field 2. -/
theorem fld_app2 {α : Type} {r : RdS α} (hr : Moves r) {t e bytes : Nat} (HI : ElemInfo Tryz.prog t e 1 bytes) (hb0 : 0 < bytes) {w : World} {n : Nat} {rv : Value} {st : Int} {mv : Value} {w5 : World} (h : GS w n rv st mv w5) {xs : List α} (hO : Own r w5 (w.heap.size + 3) e 1 (fun b => w.heap.size + 3 ≤ b) mv xs)
    (y : α) (u : Value) (T : TypeId) (h1 : u.oneCell' = true) (hy : r (Sup (fun b => w.heap.size + 3 ≤ b) (w5.alloc (.cells #[u] T)) mv) (w5.alloc (.cells #[u] T)) y [u]) (hbytes : (xs.length + 1) * bytes ≤ 140737488355328) (ty : TypeId) :
    ∃ v9 w9, (Builtin.append_ #[t, t] ty #[mv, .slice (some ⟨w5.heap.size, 0, none⟩) 1 1]).run Tryz.prog (w5.alloc (.cells #[u] T)) = .ok v9 w9 ∧ w9.cell? ⟨w.heap.size + 2, 2, none⟩ = some mv ∧ w9.frozen? ⟨w.heap.size + 2, 2, none⟩ = false ∧ (∃ A9 c9, v9 = .slice A9 (xs.length + 1) c9) ∧
      GS w n rv st v9 (w9.setCell ⟨w.heap.size + 2, 2, none⟩ v9) ∧ Own r (w9.setCell ⟨w.heap.size + 2, 2, none⟩ v9) (w.heap.size + 3) e 1 (fun b => w.heap.size + 3 ≤ b) v9 (xs ++ [y]) ∧ GrewR w5 w9 mv.ownBlock ∧ (v9.ownBlock = mv.ownBlock ∨ v9.ownBlock = some (w5.heap.size + 1)) := by
  have hal := grew_alloc w5 (.cells #[u] T)
  have h6 := h.step hal
  have hO6 := hO.kept hr hal.1 (ownNone _) (by simp)
  have hl6 := hO6.lt
  have hhi := h.hi
  have htw := OneAt.new w5 u T
  obtain ⟨v9, w9, hrun, hO9, hG9, hp9⟩ := Own.app_run hr HI hO6 ty (g := w5.heap.size) y [u] rfl (one_at htw) (fun v hv => by simp at hv; subst hv; exact h1) hy hbytes hb0 (by simp; omega)
  have hs9 := hG9.1.size
  have hne : ∀ b, b < w.heap.size + 3 → mv.ownBlock ≠ some b := fun b hb e => by have := (hl6 b e).1; omega
  have hmv : ∀ b, b < w.heap.size + 3 → w9.heap[b]? = (w5.alloc (.cells #[u] T)).heap[b]? := fun b hb => hG9.1.block b (by simp; omega) (fun e => hne b hb e.symm)
  have hV9 := h6.var.move (hmv _ (by omega))
  obtain ⟨A9, c9, he9, hcc9⟩ := hO9.val
  have hl9 := hO9.lt
  refine ⟨v9, w9, hrun, hV9.cells.2.2, hV9.free 2, ⟨A9, c9, by rw [he9]; simp⟩, ⟨⟨frm_set_new (h6.grew.1.andThen hG9.1 (fun b hb => .inl (by have := (hl6 b hb).1; omega))) (by omega) _ _, Nat.le_trans h6.grew.2 hG9.2⟩, ?_, ?_, hV9.set2 v9⟩, ?_, grewR_trans (grewR_weak hal) hG9, by simpa using hp9⟩
  · exact (h6.res.move (hmv _ (by omega))).move (Below.heap_setCell _ _ _ _ (by show w.heap.size ≠ w.heap.size + 2; omega))
  · exact (h6.rd.move (hmv _ (by omega))).move (Below.heap_setCell _ _ _ _ (by show w.heap.size + 1 ≠ w.heap.size + 2; omega))
  · exact hO9.kept hr (frm_set (frm_refl _ _) _ _) (.inr fun e => by have := (hl9 _ e).1; omega) (fun b hb e => by injection e with e; omega)
theorem mk_row (w : World) : (Instr.makeSlice 49 (.int .i64 3) (.int .i64 3)).run Tryz.prog w = .ok (.slice (some ⟨w.heap.size, 0, none⟩) 3 3) (w.alloc (.cells #[.slice none 0 0, .slice none 0 0, .slice none 0 0] 50)) := by kernel_rfl
/-- A value, as it is. -/
def RawR : RdS Value := fun _ _ x cs => cs = [x]
theorem moves_raw : Moves RawR := fun _ _ _ _ _ _ _ _ h => h
theorem GS.set1 {w : World} {n : Nat} {rv : Value} {st : Int} {mv : Value} {wr : World} (h : GS w n rv st mv wr) (st' : Int) : GS w n rv st' mv (wr.setCell ⟨w.heap.size + 2, 1, none⟩ (.int .i64 st')) :=
  ⟨grew_set_new h.grew (by omega) _ _, h.res.move (Below.heap_setCell _ _ _ _ (by show w.heap.size ≠ w.heap.size + 2; omega)), h.rd.move (Below.heap_setCell _ _ _ _ (by show w.heap.size + 1 ≠ w.heap.size + 2; omega)), h.var.set1 _⟩
theorem own_set {α : Type} {r : RdS α} (hr : Moves r) {wr : World} {base e k g o : Nat} {v u : Value} {xs : List α} (h : Own r wr base e k (fun b => base ≤ b) v xs) (hg : g < base) : Own r (wr.setCell ⟨g, o, none⟩ u) base e k (fun b => base ≤ b) v xs := by
  have hl := h.lt
  exact h.kept hr (frm_set (frm_refl _ _) _ _) (.inr fun e => by have := (hl g e).1; omega) (fun b hb e => by injection e with e; omega)
theorem own_int_any {w : World} {base e k : Nat} {ok ok' : Nat → Prop} {v : Value} {xs : List Int} (h : Own IntR w base e k ok v xs) : Own IntR w base e k ok' v xs := h
/-- The reading between two lines: the row's three cells lie in block `gr`, the row's own cell in block `gm`. -/
structure LS (w : World) (n : Nat) (A : Option Addr) (c gm cm gr : Nat) (v0 v1 v2 : Value) (row : List (List (List Nd))) (wr : World) : Prop where
  gs : GS w n (.slice A 3 c) 0 (.slice (some ⟨gm, 0, none⟩) 1 cm) wr
  rk : Own IntR wr (w.heap.size + 3) 3 1 (fun _ => False) (.slice A 3 c) [2, 1, 0]
  cell : wr.cell? ⟨gm, 0, none⟩ = some (.slice (some ⟨gr, 0, none⟩) 3 3)
  three : ThreeAt wr gr v0 v1 v2 50
  lo : w.heap.size + 3 ≤ gm ∧ w.heap.size + 3 ≤ gr ∧ gm ≠ gr
  ap : ∀ b, (Value.slice A 3 c).ownBlock = some b → b ≠ gr
  r0 : AltsR (fun b => w.heap.size + 3 ≤ b ∧ b < wr.heap.size ∧ b ≠ gr) wr (row.getD 0 []) [v0]
  r1 : AltsR (fun b => w.heap.size + 3 ≤ b ∧ b < wr.heap.size ∧ b ≠ gr) wr (row.getD 1 []) [v1]
  r2 : AltsR (fun b => w.heap.size + 3 ≤ b ∧ b < wr.heap.size ∧ b ≠ gr) wr (row.getD 2 []) [v2]
  hc : 1 ≤ cm
theorem LS.lt {w : World} {n : Nat} {A : Option Addr} {c gm cm gr : Nat} {v0 v1 v2 : Value} {row : List (List (List Nd))} {wr : World} (h : LS w n A c gm cm gr v0 v1 v2 row wr) : gm < wr.heap.size ∧ gr < wr.heap.size := ⟨World.block_lt_of_cell? _ _ h.cell, h.three.lt⟩
theorem LS.step {w : World} {n : Nat} {A : Option Addr} {c gm cm gr : Nat} {v0 v1 v2 : Value} {row : List (List (List Nd))} {wr w' : World} (h : LS w n A c gm cm gr v0 v1 v2 row wr) (hf : Grew wr w') : LS w n A c gm cm gr v0 v1 v2 row w' := by
  have hs := hf.1.size
  have hm : ∀ {x v}, AltsR (fun b => w.heap.size + 3 ≤ b ∧ b < wr.heap.size ∧ b ≠ gr) wr x [v] → AltsR (fun b => w.heap.size + 3 ≤ b ∧ b < w'.heap.size ∧ b ≠ gr) w' x [v] := fun h => moves_alts _ _ _ _ _ _ (fun b hb => ⟨hb.1, by omega, hb.2.2⟩) (fun b hb => frm_lt hf.1 b hb.2.1) h
  exact ⟨h.gs.step hf, h.rk.kept moves_int hf.1 (ownNone _) (by simp), frm_cell hf.1 h.cell, h.three.frm hf.1, h.lo, h.ap, hm h.r0, hm h.r1, hm h.r2, h.hc⟩
theorem LS.call {w : World} {n n' : Nat} {A : Option Addr} {c gm cm gr : Nat} {v0 v1 v2 : Value} {row : List (List (List Nd))} {wr w' : World} (h : LS w n A c gm cm gr v0 v1 v2 row wr) (hf : GrewR wr w' (some (w.heap.size + 1))) (hr : RdN w' (w.heap.size + 1) exS n' false) : LS w n' A c gm cm gr v0 v1 v2 row w' := by
  have hs := hf.1.size
  have hb : ∀ b, w.heap.size + 3 ≤ b → b < wr.heap.size → w'.heap[b]? = wr.heap[b]? := fun b h1 h2 => hf.1.block b h2 (by intro e; injection e with e; omega)
  have hl := h.lt
  have hm : ∀ {x v}, AltsR (fun b => w.heap.size + 3 ≤ b ∧ b < wr.heap.size ∧ b ≠ gr) wr x [v] → AltsR (fun b => w.heap.size + 3 ≤ b ∧ b < w'.heap.size ∧ b ≠ gr) w' x [v] := fun h => moves_alts _ _ _ _ _ _ (fun b hb => ⟨hb.1, by omega, hb.2.2⟩) (fun b hb' => hb b hb'.1 hb'.2.1) h
  exact ⟨h.gs.call hf hr, h.rk.kept moves_int hf.1 (.inr fun e => by have := (h.rk.lt _ e).1; omega) (fun b hb => hb.elim), (World.cell?_of_block (hb gm h.lo.1 hl.1)).trans h.cell, h.three.move (hb gr h.lo.2.1 hl.2), h.lo, h.ap, hm h.r0, hm h.r1, hm h.r2, h.hc⟩
theorem LS.read {w : World} {n : Nat} {A : Option Addr} {c gm cm gr : Nat} {v0 v1 v2 : Value} {wr : World} (h : LS w n A c gm cm gr v0 v1 v2 exRow wr) : AuR (fun b => w.heap.size + 3 ≤ b ∧ b < wr.heap.size) wr exA [.slice A 3 c, .int .i64 0, .slice (some ⟨gm, 0, none⟩) 1 cm] := by
  have hl := h.lt
  have hlo := h.lo
  obtain ⟨t0, t1, t2⟩ := h.three.cells
  have hm : ∀ {x v}, AltsR (fun b => w.heap.size + 3 ≤ b ∧ b < wr.heap.size ∧ b ≠ gr) wr x [v] → AltsR (fun b => w.heap.size + 3 ≤ b ∧ b < wr.heap.size) wr x [v] := fun h => moves_alts _ _ _ _ _ _ (fun b hb => ⟨hb.1, hb.2.1⟩) (fun b hb => rfl) h
  have q0 := hm h.r0
  have q1 := hm h.r1
  have q2 := hm h.r2
  have hrow : RuleR (fun b => w.heap.size + 3 ≤ b ∧ b < wr.heap.size) wr exRow [.slice (some ⟨gr, 0, none⟩) 3 3] := by
    refine ⟨_, rfl, _, 3, rfl, by decide, by decide, fun _ => ⟨gr, 0, rfl, ⟨hlo.2.1, hl.2⟩, fun i hi => ?_⟩⟩
    have hi3 : i < 3 := hi
    match i, hi3 with
    | 0, _ => exact ⟨[v0], rfl, fun j hj => (by obtain rfl : j = 0 := by omega
                                                exact t0), q0⟩
    | 1, _ => exact ⟨[v1], rfl, fun j hj => (by obtain rfl : j = 0 := by omega
                                                exact t1), q1⟩
    | 2, _ => exact ⟨[v2], rfl, fun j hj => (by obtain rfl : j = 0 := by omega
                                                exact t2), q2⟩
  have hmv : MovesR (fun b => w.heap.size + 3 ≤ b ∧ b < wr.heap.size) wr [exRow] [.slice (some ⟨gm, 0, none⟩) 1 cm] := by
    refine ⟨_, rfl, _, cm, rfl, h.hc, by decide, fun _ => ⟨gm, 0, rfl, ⟨hlo.1, hl.1⟩, fun i hi => ?_⟩⟩
    have hi0 : i = 0 := by simpa using hi
    subst hi0
    exact ⟨[.slice (some ⟨gr, 0, none⟩) 3 3], rfl, fun j hj => (by obtain rfl : j = 0 := by omega
                                                                   exact h.cell), hrow⟩
  exact ⟨_, _, rfl, ⟨_, rfl, h.rk.sl moves_int (by decide) (fun b hb => hb.elim) (fun b h1 h2 => ⟨h1, h2⟩)⟩, hmv, by decide, by decide⟩
theorem nil_alts {S : Nat → Prop} {w : World} : AltsR S w [] [.slice none 0 0] := ⟨_, rfl, none, 0, rfl, Nat.le_refl _, by simp, fun h => absurd h (by simp)⟩
end Go.Proofs.YtjpdmncafacmaaaGreatDoor
end
/- The example's lines: a line's alternative is put into its place. -/
section
set_option linter.unusedVariables false
set_option linter.unusedSimpArgs false
namespace Go.Proofs.YtjpdmncafacmaaaGreatDoor
open Go.RowKit

def pf (i : Nat) : Nat := if i ≤ 1 then 0 else 2
def ndL (j : Nat) : List Nd := (List.range j).map fun j : Nat => ((j : Int), 0)
theorem nd_snoc (j : Nat) : ndL j ++ [((j : Int), 0)] = ndL (j + 1) := by unfold ndL; rw [List.range_succ, List.map_append]; rfl
theorem nd_len (j : Nat) : (ndL j).length = j := by unfold ndL; simp
theorem ln_facts : ∀ i, i < 2 → lnAt i + 8 + 4 * lnN i ≤ 50 ∧ lnAt i ≤ 42 ∧ ¬ (lnF i < pf i) ∧ lnF i ≤ 2 ∧ pf (i + 1) = lnF i ∧ lnN i ≤ 2 := by decide
theorem LS.put0 {w : World} {n : Nat} {A : Option Addr} {c gm cm gr : Nat} {v0 v1 v2 u : Value} {row row' : List (List (List Nd))} {wr : World} (h : LS w n A c gm cm gr v0 v1 v2 row wr) (hu : AltsR (fun b => w.heap.size + 3 ≤ b ∧ b < wr.heap.size ∧ b ≠ gr) wr (row'.getD 0 []) [u]) (h1 : row'.getD 1 [] = row.getD 1 []) (h2 : row'.getD 2 [] = row.getD 2 []) :
    LS w n A c gm cm gr u v1 v2 row' (wr.setCell ⟨gr, 0, none⟩ u) := by
  have hlo := h.lo
  have hm : ∀ q, q ≠ gr → (wr.setCell ⟨gr, 0, none⟩ u).heap[q]? = wr.heap[q]? := fun q hq => Below.heap_setCell _ _ _ _ (by show q ≠ gr; exact hq)
  have hmv : ∀ {x v}, AltsR (fun b => w.heap.size + 3 ≤ b ∧ b < wr.heap.size ∧ b ≠ gr) wr x [v] → AltsR (fun b => w.heap.size + 3 ≤ b ∧ b < (wr.setCell ⟨gr, 0, none⟩ u).heap.size ∧ b ≠ gr) (wr.setCell ⟨gr, 0, none⟩ u) x [v] := fun h => moves_alts _ _ _ _ _ _ (fun b hb => ⟨hb.1, by simpa using hb.2.1, hb.2.2⟩) (fun b hb => hm b hb.2.2) h
  refine ⟨⟨grew_set_new h.gs.grew (by omega) _ _, h.gs.res.move (hm _ (by omega)), h.gs.rd.move (hm _ (by omega)), h.gs.var.move (hm _ (by omega))⟩, ?_, (World.cell?_of_block (hm gm hlo.2.2)).trans h.cell, h.three.set0 u, h.lo, h.ap, hmv hu, by rw [h1]; exact hmv h.r1, by rw [h2]; exact hmv h.r2, h.hc⟩
  exact h.rk.kept moves_int (frm_set (frm_refl _ _) _ _) (.inr fun e => h.ap _ e rfl) (fun b hb => hb.elim)
theorem LS.put2 {w : World} {n : Nat} {A : Option Addr} {c gm cm gr : Nat} {v0 v1 v2 u : Value} {row row' : List (List (List Nd))} {wr : World} (h : LS w n A c gm cm gr v0 v1 v2 row wr) (hu : AltsR (fun b => w.heap.size + 3 ≤ b ∧ b < wr.heap.size ∧ b ≠ gr) wr (row'.getD 2 []) [u]) (h1 : row'.getD 0 [] = row.getD 0 []) (h2 : row'.getD 1 [] = row.getD 1 []) :
    LS w n A c gm cm gr v0 v1 u row' (wr.setCell ⟨gr, 2, none⟩ u) := by
  have hlo := h.lo
  have hm : ∀ q, q ≠ gr → (wr.setCell ⟨gr, 2, none⟩ u).heap[q]? = wr.heap[q]? := fun q hq => Below.heap_setCell _ _ _ _ (by show q ≠ gr; exact hq)
  have hmv : ∀ {x v}, AltsR (fun b => w.heap.size + 3 ≤ b ∧ b < wr.heap.size ∧ b ≠ gr) wr x [v] → AltsR (fun b => w.heap.size + 3 ≤ b ∧ b < (wr.setCell ⟨gr, 2, none⟩ u).heap.size ∧ b ≠ gr) (wr.setCell ⟨gr, 2, none⟩ u) x [v] := fun h => moves_alts _ _ _ _ _ _ (fun b hb => ⟨hb.1, by simpa using hb.2.1, hb.2.2⟩) (fun b hb => hm b hb.2.2) h
  refine ⟨⟨grew_set_new h.gs.grew (by omega) _ _, h.gs.res.move (hm _ (by omega)), h.gs.rd.move (hm _ (by omega)), h.gs.var.move (hm _ (by omega))⟩, ?_, (World.cell?_of_block (hm gm hlo.2.2)).trans h.cell, h.three.set2 u, h.lo, h.ap, by rw [h1]; exact hmv h.r0, by rw [h2]; exact hmv h.r1, hmv hu, h.hc⟩
  exact h.rk.kept moves_int (frm_set (frm_refl _ _) _ _) (.inr fun e => h.ap _ e rfl) (fun b hb => hb.elim)
/-- A line's alternative goes into its place. -/
theorem ls_line {i : Nat} (hi : i < 2) {w : World} {n : Nat} {A : Option Addr} {c gm cm gr : Nat} {v0 v2 lv : Value} {wr : World} (h : LS w n A c gm cm gr v0 (.slice none 0 0) v2 (exRowTo i) wr) (hv0 : i = 0 → v0 = .slice none 0 0) (hv2 : i ≤ 1 → v2 = .slice none 0 0) (h1 : lv.oneCell' = true)
    (hl : AltR (fun b => w.heap.size + 3 ≤ b ∧ b < wr.heap.size ∧ b ≠ gr) wr (ndL (lnN i)) [lv]) :
    wr.cell? ⟨gr, lnF i, none⟩ = some (.slice none 0 0) ∧ ∃ A9 c9 w9, (Builtin.append_ #[50, 50] 50 #[.slice none 0 0, .slice (some ⟨wr.heap.size, 0, none⟩) 1 1]).run Tryz.prog (wr.drew.alloc (.cells #[lv] 76)) = .ok (.slice A9 1 c9) w9 ∧
      (w9.cell? ⟨w.heap.size + 2, 2, none⟩ = some (.slice (some ⟨gm, 0, none⟩) 1 cm) ∧ w9.cell? ⟨gm, 0, none⟩ = some (.slice (some ⟨gr, 0, none⟩) 3 3)) ∧ w9.cell? ⟨gr, lnF i, none⟩ = some (.slice none 0 0) ∧ w9.frozen? ⟨gr, lnF i, none⟩ = false ∧
      ∃ v0' v2', (i + 1 = 0 → v0' = .slice none 0 0) ∧ (i + 1 ≤ 1 → v2' = .slice none 0 0) ∧ LS w n A c gm cm gr v0' (.slice none 0 0) v2' (exRowTo (i + 1)) (w9.setCell ⟨gr, lnF i, none⟩ (.slice A9 1 c9)) := by
  have hv2' := hv2 (by omega)
  subst hv2'
  have hlo := h.lo
  have hlt := h.lt
  have hw6 : Grew wr (wr.drew.alloc (.cells #[lv] 76)) := grew_then_alloc (grew_drew _) _
  have htw := OneAt.new wr.drew lv 76
  have hs6 : (wr.drew.alloc (.cells #[lv] 76)).heap.size = wr.heap.size + 1 := by simp
  have hO := Own.nil AltR (wr.drew.alloc (.cells #[lv] 76)) (w.heap.size + 3) 76 1 (fun b => w.heap.size + 3 ≤ b ∧ b ≠ gr)
  obtain ⟨v9, w9, hrun, hO9, hG9, hp9⟩ := Own.app_run moves_alt elem_alt hO 50 (g := wr.heap.size) (ndL (lnN i)) [lv] rfl (one_at htw) (fun u hu => by simp at hu; subst hu; exact h1)
    (moves_alt _ _ _ _ _ _ (fun b hb => ⟨⟨hb.1, hb.2.2⟩, by rw [hs6]; omega, by intro e; cases e⟩) (fun b hb => frm_lt hw6.1 b hb.2.1) hl) (by simp) (by omega) (by rw [hs6]; omega)
  have hG69 : Grew wr w9 := grew_trans hw6 ⟨hG9.1, hG9.2⟩
  have h9 := h.step hG69
  have hlt9 := hO9.lt
  have hnew : ∀ b, v9.ownBlock = some b → b ≠ gr := by
    intro b hb
    rcases hp9 with h | h
    · rw [h] at hb; cases hb
    · rw [h] at hb
      injection hb with hb
      rw [hs6] at hb
      omega
  have hal : AltsR (fun b => w.heap.size + 3 ≤ b ∧ b < w9.heap.size ∧ b ≠ gr) w9 [ndL (lnN i)] [v9] :=
    ⟨v9, rfl, (hO9.sl2 (S := fun b => w.heap.size + 3 ≤ b ∧ b < w9.heap.size ∧ b ≠ gr) moves_alt (by simp) (fun b hb hlt => ⟨hb.1, hlt, hb.2⟩) (fun b hb => ⟨(hlt9 b hb).1, (hlt9 b hb).2, hnew b hb⟩))⟩
  obtain ⟨A9, c9, he9, _⟩ := hO9.val
  have he9' : v9 = .slice A9 1 c9 := he9
  subst he9'
  rcases (show i = 0 ∨ i = 1 by omega) with rfl | rfl
  · have hv0' := hv0 rfl
    subst hv0'
    refine ⟨h.three.cells.1, A9, c9, w9, hrun, ⟨h9.gs.var.cells.2.2, h9.cell⟩, h9.three.cells.1, h9.three.free 0, .slice A9 1 c9, .slice none 0 0, fun h => by omega, fun _ => rfl, h9.put0 hal rfl rfl⟩
  · exact ⟨h.three.cells.2.2, A9, c9, w9, hrun, ⟨h9.gs.var.cells.2.2, h9.cell⟩, h9.three.cells.2.2, h9.three.free 2, v0, .slice A9 1 c9, fun h => by omega, fun h => by omega, h9.put2 hal rfl rfl⟩
end Go.Proofs.YtjpdmncafacmaaaGreatDoor
end
/- Within: every need of the one list stands in the other. -/
section
set_option linter.unusedVariables false
set_option linter.unusedSimpArgs false
namespace Go.Proofs.YtjpdmncafacmaaaGreatDoor
open Go.RowKit

def within (xs ys : List Nd) : Bool := xs.all fun x => ys.any (eqN x)
set_option maxRecDepth 20000 in
set_option maxHeartbeats 1000000 in
theorem within_calls (xs ys : List Nd) (w : World) (v u : Value) (hx : SlO w 2 (rdO NdR) xs v) (hy : SlO w 2 (rdO NdR) ys u) :
    Calls Tryz.prog 122 #[v, u] w (RetD w (.bool (within xs ys))) := by
  obtain ⟨A, c, rfl, hc, hm⟩ := hx.val
  obtain ⟨B, d, rfl, hc2, hm2⟩ := hy.val
  go_enter Tryz.func122, Tryz.ntmps122
  go_wp2_with fail
  go_loopw [12] (fun i wr => ∃ k : Nat, k ≤ xs.length ∧ i = .int .i64 k ∧ Grew w wr ∧ Hid (within xs ys = within (xs.drop k) ys)) (fun i _ => xs.length - (intOf i).toNat)
  case atStart => exact ⟨0, Nat.zero_le _, rfl, grew_refl _, rfl⟩
  case round =>
    obtain ⟨k, hk, rfl, hfr, HC⟩ := hrel
    by_cases hlt : k < xs.length
    · obtain ⟨b, o, p0, p1, rfl, hb, hp0, hp1, hpt⟩ := (hx.frm hfr.1 (stays_rd moves_nd)).at2 k hlt
      obtain ⟨hpv, _⟩ := hpt
      simp only [List.cons.injEq, and_true] at hpv
      obtain ⟨rfl, rfl⟩ := hpv
      have hd : Hid (within (xs.drop k) ys = (ys.any (eqN xs[k]) && within (xs.drop (k + 1)) ys)) := by
        unfold Hid within
        rw [List.drop_eq_getElem_cons hlt, List.all_cons]
      generalize xs[k] = x at *
      go_wp2_with fail
      obtain ⟨wo, hwo⟩ : ∃ wo : World, wo = wr.alloc (.cells #[.int .i64 x.1, .int .i64 x.2] 80) := ⟨_, rfl⟩
      have htx : TwoAt wo wr.heap.size (.int .i64 x.1) (.int .i64 x.2) 80 := by rw [hwo]; exact TwoAt.new _ _ _ _
      have hfo : Grew w wo := by rw [hwo]; exact grew_then_alloc hfr _
      rw [← hwo]
      clear hwo
      have HT := Lib.hid htx
      have HFO := Lib.hid hfo
      clear htx hfo hfr hp0 hp1
      generalize wr.heap.size = gx at *
      go_loopw [7, 18] (fun z i wq => ∃ j : Nat, j ≤ ys.length ∧ i = .int .i64 j ∧ z = .bool ((ys.take j).any (eqN x)) ∧ Grew wo wq) (fun _ i _ => ys.length - (intOf i).toNat)
      case atStart => exact ⟨0, Nat.zero_le _, rfl, rfl, grew_refl _⟩
      case round =>
        obtain ⟨j, hj, rfl, rfl, hfq⟩ := hrel
        by_cases hltj : j < ys.length
        · obtain ⟨b3, o3, q0, q1, rfl, hb3, hq0, hq1, hqt⟩ := (hy.frm (grew_trans HFO.out hfq).1 (stays_rd moves_nd)).at2 j hltj
          obtain ⟨hqv, _⟩ := hqt
          simp only [List.cons.injEq, and_true] at hqv
          obtain ⟨rfl, rfl⟩ := hqv
          have HA : Hid ((ys.take (j + 1)).any (eqN x) = ((ys.take j).any (eqN x) || eqN x ys[j])) := by
            unfold Hid
            rw [List.take_succ_eq_append_getElem hltj, List.any_append]
            simp
          generalize ys[j] = y at *
          have hrun := run_eqN x y
          have htq := HT.out.move (frm_lt hfq.1 _ HT.out.lt)
          obtain ⟨x0, x1, _, _⟩ := (htq.alloc (.cells #[.int .i64 y.1, .int .i64 y.2] 80)).cells
          obtain ⟨y0, y1, _, _⟩ := (TwoAt.new wr (.int .i64 y.1) (.int .i64 y.2) 80).cells
          cases hz : (ys.take j).any (eqN x) with
          | true =>
            rw [hz] at HA
            go_wp2_with fail
            exact ⟨⟨j + 1, by omega, by go_num, by rw [HA.out]; rfl, grew_then_alloc hfq _⟩, by simp [intOf]; omega⟩
          | false =>
            rw [hz] at HA
            go_wp2_with fail
            exact ⟨⟨j + 1, by omega, by go_num, by rw [HA.out]; rfl, grew_then_alloc hfq _⟩, by simp [intOf]; omega⟩
        · rw [List.take_of_length_le (by omega)] at *
          have hfw := grew_trans HFO.out hfq
          cases hz : ys.any (eqN x) with
          | true =>
            have HD : Hid (within xs ys = within (xs.drop (k + 1)) ys) := by
              unfold Hid
              rw [HC.out, hd.out, hz, Bool.true_and]
            go_wp2_with fail
            exact ⟨⟨k + 1, by omega, by go_num, hfw, HD⟩, by simp [intOf]; omega⟩
          | false =>
            have HD : Hid (within xs ys = false) := by
              unfold Hid
              rw [HC.out, hd.out, hz, Bool.false_and]
            go_wp2_with fail
            refine bodyPost_ret (results_tmp rfl _ _ _) rfl ⟨?_, hfw⟩
            rw [HD.out]
            rfl
    · go_wp2_with fail
      refine bodyPost_ret (results_tmp rfl _ _ _) rfl ⟨?_, hfr⟩
      rw [HC.out]
      unfold within
      rw [List.drop_eq_nil_of_le (by omega)]
      rfl
end Go.Proofs.YtjpdmncafacmaaaGreatDoor
end
/- Smallest: the lists that hold no other. -/
section
set_option linter.unusedVariables false
set_option linter.unusedSimpArgs false
namespace Go.Proofs.YtjpdmncafacmaaaGreatDoor
open Go.RowKit

/-- The list at `i` holds none of the first `j` others. -/
def keepTo (s : List (List Nd)) (i j : Nat) : Bool := (List.range j).all fun q => i == q || !within (s.getD q []) (s.getD i [])
def smallTo (s : List (List Nd)) (k : Nat) : List (List Nd) := ((List.range k).filter fun i => keepTo s i s.length).map fun i => s.getD i []
def smallest (s : List (List Nd)) : List (List Nd) := smallTo s s.length
theorem keepTo_succ (s : List (List Nd)) (i j : Nat) : keepTo s i (j + 1) = (keepTo s i j && (i == j || !within (s.getD j []) (s.getD i []))) := by
  unfold keepTo
  rw [List.range_succ, List.all_append]
  simp
theorem smallTo_succ (s : List (List Nd)) (k : Nat) : smallTo s (k + 1) = smallTo s k ++ (if keepTo s k s.length then [s.getD k []] else []) := by
  unfold smallTo
  rw [List.range_succ, List.filter_append, List.map_append]
  congr 1
  cases h : keepTo s k s.length <;> simp [h]
theorem smallTo_len (s : List (List Nd)) (k : Nat) : (smallTo s k).length ≤ k := by
  unfold smallTo
  rw [List.length_map]
  exact Nat.le_trans (List.length_filter_le _ _) (by simp)

set_option maxRecDepth 100000 in
set_option maxHeartbeats 2000000 in
theorem smallest_calls (s : List (List Nd)) (w : World) (v : Value) {S : Nat → Prop} (hS0 : ∀ b, S b → b < w.heap.size) (hs : Sl S w 1 (AltR S w) s v) (hb : s.length ≤ 100000) :
    Calls Tryz.prog 96 #[v] w fun e w' => ∃ z, e = .returned z ∧ Grew w w' ∧ Own AltR w' w.heap.size 76 1 S z (smallest s) := by
  obtain ⟨A, c, rfl, hc, hm⟩ := hs.val
  have HS0 := Lib.hid hS0
  have HS := Lib.hid hs
  clear hs hS0
  go_enter Tryz.func96, Tryz.ntmps96
  go_wp2_with fail
  go_loopw [3, 11] (fun z i wr => ∃ (k n : Nat) (B : Option Addr) (d : Nat), k ≤ s.length ∧ i = .int .i64 k ∧ z = .slice B n d ∧ n = (smallTo s k).length ∧ n ≤ d ∧ Grew w wr ∧ Own AltR wr w.heap.size 76 1 S z (smallTo s k)) (fun _ i _ => s.length - (intOf i).toNat)
  case atStart => exact ⟨0, 0, none, 0, Nat.zero_le _, rfl, rfl, rfl, Nat.le_refl _, grew_refl _, Own.nil _ _ _ _ _ _⟩
  case round =>
    obtain ⟨k, n, B, d, hk, rfl, rfl, hnl, hnd, hfr, hO⟩ := hrel
    have hnk : n ≤ k := by rw [hnl]; exact smallTo_len _ _
    have HNL := Lib.hid hnl
    clear hnl
    by_cases hlt : k < s.length
    · obtain ⟨b, o, p0, rfl, hb0, hp0', hpt⟩ := HS.out.at1 k hlt
      have hp0 := frm_cell hfr.1 hp0'
      obtain ⟨A1, n1, c1, rfl⟩ : ∃ A1 n1 c1, p0 = .slice A1 n1 c1 := by
        obtain ⟨A1, c1, h, _⟩ := (row_val hpt).val
        exact ⟨_, _, _, h⟩
      have HPT := Lib.hid hpt
      have HD : Hid (s.getD k [] = s[k]) := by unfold Hid; simp [hlt]
      generalize s[k] = y at *
      have HO := Lib.hid hO
      have HFR := Lib.hid hfr
      clear hpt hp0' hO hfr
      go_wp2_with fail
      go_loopw [6, 18] (fun z i wq => ∃ j : Nat, j ≤ s.length ∧ i = .int .i64 j ∧ z = .bool (keepTo s k j) ∧ Grew wr wq) (fun _ i _ => s.length - (intOf i).toNat)
      case atStart => exact ⟨0, Nat.zero_le _, rfl, rfl, grew_refl _⟩
      case round =>
        obtain ⟨j, hj, rfl, rfl, hfq⟩ := hrel
        by_cases hltj : j < s.length
        · obtain ⟨b3, o3, q0, hbe, hb3, hq0', hqt⟩ := HS.out.at1 j hltj
          simp only [Option.some.injEq, Addr.mk.injEq, and_true] at hbe
          obtain ⟨rfl, rfl⟩ := hbe
          have hfw := grew_trans HFR.out hfq
          have hq0 := frm_cell hfw.1 hq0'
          obtain ⟨A2, n2, c2, rfl⟩ : ∃ A1 n1 c1, q0 = .slice A1 n1 c1 := by
            obtain ⟨A1, c1, h, _⟩ := (row_val hqt).val
            exact ⟨_, _, _, h⟩
          have HDj : Hid (s.getD j [] = s[j]) := by unfold Hid; simp [hltj]
          generalize s[j] = x at *
          have HC : Hid (∀ w', Grew w w' → Calls Tryz.prog 122 #[.slice A2 n2 c2, .slice A1 n1 c1] w' (RetD w' (.bool (within x y)))) := fun w' h => within_calls x y w' _ _ (RowS.sl (moves_alt _ _ _ _ _ _ (fun q hq => Nat.lt_of_lt_of_le (HS0.out q hq) h.1.size) (fun q hq => frm_lt h.1 q (HS0.out q hq)) hqt)) (RowS.sl (moves_alt _ _ _ _ _ _ (fun q hq => Nat.lt_of_lt_of_le (HS0.out q hq) h.1.size) (fun q hq => frm_lt h.1 q (HS0.out q hq)) HPT.out))
          have HK := Lib.hid (keepTo_succ s k j)
          rw [HD.out, HDj.out] at HK
          clear hqt hq0'
          cases hz : keepTo s k j with
          | false =>
            rw [hz] at HK
            go_wp2_with fail
            exact ⟨⟨j + 1, by omega, by go_num, by rw [HK.out]; rfl, hfq⟩, by simp [intOf]; omega⟩
          | true =>
            rw [hz] at HK
            by_cases hkj : k = j
            · have e1 : ((k : Int) == (j : Int)) = true := by rw [beq_iff_eq]; omega
              have HK2 : Hid (keepTo s k (j + 1) = true) := by unfold Hid; rw [HK.out]; simp [hkj]
              go_wp2_with fail
              all_goals exact ⟨⟨j + 1, by omega, by go_num, by rw [HK2.out], hfq⟩, by simp [intOf]; omega⟩
            · have e1 : ((k : Int) == (j : Int)) = false := by rw [beq_eq_false_iff_ne]; omega
              have HK2 : Hid (keepTo s k (j + 1) = !within x y) := by unfold Hid; rw [HK.out]; simp [hkj]
              go_wp2_with fail
              refine (HC.out _ hfw).mono ?_
              rintro e w1 ⟨rfl, hf1⟩
              dsimp only
              go_wp2_with fail
              exact ⟨⟨j + 1, by omega, by go_num, by rw [HK2.out], grew_trans hfq hf1⟩, by simp [intOf]; omega⟩
        · have hje : j = s.length := by omega
          subst hje
          have hfw := grew_trans HFR.out hfq
          have HT := Lib.hid (smallTo_succ s k)
          rw [HD.out] at HT
          cases hz : keepTo s k s.length with
          | false =>
            rw [hz] at HT
            have HT2 : Hid (smallTo s (k + 1) = smallTo s k) := by unfold Hid; rw [HT.out]; simp
            go_wp2_with fail
            exact ⟨⟨k + 1, n, B, d, by omega, by go_num, rfl, by rw [HT2.out]; exact HNL.out, hnd, hfw, by rw [HT2.out]; exact HO.out.kept moves_alt hfq.1 (ownNone _) (by simp)⟩, by simp [intOf]; omega⟩
          | true =>
            rw [hz] at HT
            have HT2 : Hid (smallTo s (k + 1) = smallTo s k ++ [y]) := by unfold Hid; rw [HT.out]; simp
            repeat ((fail_if_success at_builtin); first | go_values | go_skip | go_guarded | go_step | go_upon)
            have hf6 := grew_then_alloc hfq (.cells #[.slice A1 n1 c1] 76)
            have hO5 := HO.out.kept moves_alt hf6.1 (ownNone _) (by simp)
            have htw := OneAt.new wr (.slice A1 n1 c1) 76
            have hlt5 := HO.out.lt
            have hs1 := hfw.1.size
            have hs0 := HFR.out.1.size
            refine Own.app1 moves_alt elem_alt hO5 rfl _ _ rfl rfl rfl y [.slice A1 n1 c1] rfl (one_at htw) ?_ ?_ (by rw [← HNL.out]; omega) (by omega) (by simp; omega) ?_
            · intro u hu
              simp at hu
              subst hu
              rfl
            · exact moves_alt _ _ _ _ _ _ (fun q hq => ⟨hq, by have := HS0.out q hq; simp; omega, fun e => by have := HS0.out q hq; have := (hlt5 q e.symm).1; omega⟩) (fun q hq => frm_lt (grew_then_alloc hfw _).1 q (HS0.out q hq)) HPT.out
            intro v7 w7 hO8 hg7 hp7
            have hfr7 : Grew w w7 := grew_own (grew_trans HFR.out hf6) (fun q hq => (hlt5 q hq).1) hg7.1 hg7.2
            rw [← HT2.out] at hO8
            obtain ⟨A7, c7, he7, hcc7⟩ := hO8.val
            have HO8 := Lib.hid hO8
            clear hO8 hO5 htw hlt5
            obtain ⟨n7, hn7⟩ : ∃ n7, n7 = (smallTo s (k + 1)).length := ⟨_, rfl⟩
            rw [← hn7] at he7 hcc7
            subst he7
            have HN7 := Lib.hid hn7
            clear hn7
            go_wp2_with fail
            exact ⟨⟨k + 1, n7, A7, c7, by omega, by go_num, rfl, HN7.out, hcc7, hfr7, HO8.out⟩, by simp [intOf]; omega⟩
    · have hke : k = s.length := by omega
      subst hke
      go_wp2_with fail
      exact bodyPost_ret (results_tmp rfl _ _ _) rfl ⟨.slice B n d, rfl, hfr, hO⟩
end Go.Proofs.YtjpdmncafacmaaaGreatDoor
end
/- The reference's dual of one list of lists, plainly. -/
section
set_option linter.unusedVariables false
set_option linter.unusedSimpArgs false
namespace Go.Proofs.YtjpdmncafacmaaaGreatDoor
open Go.RowKit

/-- One list is joined with each need of `fst`, and the joined lists are put among `m`. -/
def mixN (base fst : List Nd) (m : List (List Nd)) : List (List Nd) := fst.foldl (fun m nd => insL (cmpL Nd.cmp) (uni base [nd]) m) m
def moreP (got : List (List Nd)) (fst : List Nd) : List (List Nd) := got.foldl (fun m base => mixN base fst m) []
def gotP (fs : List (List Nd)) : List (List Nd) := fs.foldl (fun got fst => smallest (moreP got fst)) [[]]
def dualP (l : List (List Nd)) : List (List Nd) := gotP (smallest l)
theorem mixN_take {base fst : List Nd} {m : List (List Nd)} {j : Nat} (h : j < fst.length) : mixN base (fst.take (j + 1)) m = insL (cmpL Nd.cmp) (uni base [fst[j]]) (mixN base (fst.take j) m) := by
  unfold mixN
  rw [List.take_succ_eq_append_getElem h, List.foldl_append]
  rfl
theorem mixN_len (base : List Nd) : ∀ (fst : List Nd) (m : List (List Nd)), (mixN base fst m).length ≤ m.length + fst.length
  | [], m => by simp [mixN]
  | x :: fst, m => by
    have h := mixN_len base fst (insL (cmpL Nd.cmp) (uni base [x]) m)
    have h2 := insL_len (cmpL Nd.cmp) (uni base [x]) m
    simp only [mixN, List.foldl_cons, List.length_cons] at *
    omega
theorem moreP_take {got : List (List Nd)} {fst : List Nd} {j : Nat} (h : j < got.length) : moreP (got.take (j + 1)) fst = mixN got[j] fst (moreP (got.take j) fst) := by
  unfold moreP
  rw [List.take_succ_eq_append_getElem h, List.foldl_append]
  rfl
theorem moreP_len (fst : List Nd) (got : List (List Nd)) : ∀ j, j ≤ got.length → (moreP (got.take j) fst).length ≤ j * fst.length := by
  intro j
  induction j with
  | zero => intro _; simp [moreP]
  | succ j ih =>
    intro h
    rw [moreP_take (by omega)]
    have h1 := mixN_len got[j] fst (moreP (got.take j) fst)
    have h2 := ih (by omega)
    rw [Nat.add_mul]
    omega
theorem gotP_take {fs : List (List Nd)} {k : Nat} (h : k < fs.length) : gotP (fs.take (k + 1)) = smallest (moreP (gotP (fs.take k)) fs[k]) := by
  unfold gotP
  rw [List.take_succ_eq_append_getElem h, List.foldl_append]
  rfl
/-- The lists stay within bounds on the way. -/
def DualBd (l : List (List Nd)) : Prop := ∀ k (h : k < (smallest l).length), (gotP ((smallest l).take k)).length * (smallest l)[k].length ≤ 90000 ∧ ∀ b ∈ gotP ((smallest l).take k), b.length ≤ 999
end Go.Proofs.YtjpdmncafacmaaaGreatDoor
end
/- A drawn region whose last operation writes what the others read: what is read is taken first; behind the last operation nothing is asked of the world. -/
section
set_option linter.unusedVariables false
set_option linter.unusedSimpArgs false
namespace Go.Proofs.YtjpdmncafacmaaaGreatDoor
open Go.RowKit

section
variable {P : Program} {ops : Array Oper} {Q : Exit → Act → World → Prop} {md : Region.Mode} {S : World → Prop} {z : Nat}
/-- All orders; S holds behind each operation but number `z`. -/
def ordE (P : Program) (md : Region.Mode) (ops : Array Oper) (Q : Exit → Act → World → Prop) (S : World → Prop) (z : Nat) : Nat → Array Bool → Act → World → Prop
  | 0, done, a, w => Region.ready md ops done = [] ∧ Q .normal a w
  | n + 1, done, a, w => (Region.ready md ops done = [] → Q .normal a w) ∧ ∀ i ∈ Region.ready md ops done, wpOp P ops Q i (fun a' w' => (i = z ∨ S w') ∧ ordE P md ops Q S z n (done.setIfInBounds i true) a' w') a w
theorem ordE_any : ∀ (n : Nat) (done : Array Bool) (a : Act) (w : World), ordE P md ops Q S z n done a w → wpAny P md ops Q n done a w
  | 0, _, _, _, h => h
  | n + 1, _, _, _, h => ⟨h.1, fun i hi => wpOp_mono (fun a' w' h' => ordE_any n _ a' w' h'.2) (h.2 i hi)⟩
theorem waits_done {i j : Nat} {done : Array Bool} (h : Region.waitsFor md ops j i = true) (hj : j ∈ Region.ready md ops done) (hi : i ∈ Region.ready md ops done) : False := by
  obtain ⟨oj, hoj, e, he, hb, heq⟩ := Region.waitsFor_spec h
  obtain ⟨_, oj', hoj', hall⟩ := mem_ready.1 hj
  rw [hoj] at hoj'
  injection hoj' with hoj'
  subst hoj'
  have h1 := hall e he hb
  have h0 := (mem_ready.1 hi).1
  rw [heq] at h1
  rcases Nat.lt_or_ge i done.size with h' | h'
  · simp [h'] at h0 h1; rw [h0] at h1; cases h1
  · simp [Array.getElem?_eq_none h'] at h1
theorem ordE_first {i : Nat} {oi : Oper} {v : Value} (hi : ops[i]? = some oi) (hsel : Region.noSelect ops = true) (hz : Region.waitsFor md ops z i = true)
    (hQ : ∀ c a w, Q (.panic c) (a.put oi.dst v) w → Q (.panic c) a w) :
    ∀ (n : Nat) (done : Array Bool) (a : Act) (w : World), (∀ j oj, ops[j]? = some oj → j ≠ i → done.getD j true = false → (∀ e ∈ oj.after, Region.binds md e = true → e.on ≠ i) → oi.apart ops oj = true) →
      i ∈ Region.ready md ops done → YieldsIf P ops S oi v a → S w → ordE P md ops Q S z n (done.setIfInBounds i true) (a.put oi.dst v) w → ordE P md ops Q S z (n + 1) done a w := by
  intro n
  induction n with
  | zero =>
    intro done a w _ hr hy hS H
    refine ⟨fun h => (by rw [h] at hr; cases hr), fun j hj => ?_⟩
    by_cases hji : j = i
    · subst hji; exact hy.wpOp hi hS ⟨.inr hS, H⟩
    · have h9 := ready_mono hj hji
      rw [H.1] at h9
      cases h9
  | succ n ih =>
    intro done a w hfree hr hy hS H
    refine ⟨fun h => (by rw [h] at hr; cases hr), fun j hj => ?_⟩
    by_cases hji : j = i
    · subst hji; exact hy.wpOp hi hS ⟨.inr hS, H⟩
    · have hjz : j ≠ z := fun e => by subst e; exact waits_done hz hj hr
      have h1 := H.2 j (ready_mono hj hji)
      obtain ⟨hjun, oj, hoj, hall⟩ := mem_ready.1 hj
      have hnot : ∀ e ∈ oj.after, Region.binds md e = true → e.on ≠ i := fun e he hb heq => by
        have q1 := hall e he hb
        have q0 := (mem_ready.1 hr).1
        rw [heq] at q1
        rcases Nat.lt_or_ge i done.size with h' | h'
        · simp [h'] at q0 q1; rw [q0] at q1; cases q1
        · simp [Array.getElem?_eq_none h'] at q1
      have h2 := wpOp_putIf hoj (hfree j oj hoj hji hjun hnot) (fun cs b => Region.noSelect_spec hsel i oi cs b hi) (fun cs b => Region.noSelect_spec hsel j oj cs b hoj) hQ hy h1
      refine wpOp_mono (fun a' w' h3 => ?_) h2
      have hS' : S w' := h3.2.1.resolve_left hjz
      refine ⟨.inr hS', ih (done.setIfInBounds j true) a' w' (fun k ok hk hki hun hno => ?_) (ready_mono hr (Ne.symm hji)) h3.1 hS' ?_⟩
      · refine hfree k ok hk hki ?_ hno
        by_cases hjk : j = k
        · subst hjk; exact hjun
        · rw [getD_set_ne true hjk] at hun; exact hun
      · rw [Array.setIfInBounds_comm _ _ hji]
        exact h3.2.2
end
section
variable {P : Program} {Q : Exit → Act → World → Prop} {md : Region.Mode} {S : World → Prop} {z : Nat}
/-- The beginning. -/
theorem ordE_region {id : Nat} {L : List Oper} {a : Act} {w : World} (S : World → Prop) (z : Nat) (hm : P.follows .mixedOrders = true) (h : ordE P .any L.toArray Q S z L.length (Array.replicate L.length false) a w.drew) : (Code.region id L.toArray true).wp P Q a w := by
  refine wp_region_any hm (ordE_any (S := S) (z := z) _ _ _ _ ?_)
  simpa using h
/-- Operation `i` is taken first. -/
theorem ordE_yes {L : List Oper} (i : Nat) {oi : Oper} {v : Value} {n : Nat} {done : Array Bool} {a : Act} {w : World} (hi : L[i]? = some oi)
    (hs : Region.noSelect L.toArray = true) (hf : Region.free md L.toArray done i = true) (hr : (Region.ready md L.toArray done).contains i = true) (hz : Region.waitsFor md L.toArray z i = true)
    (hQ : ∀ c a w, Q (.panic c) (a.put oi.dst v) w → Q (.panic c) a w) (hw : Region.wanted oi (yielded L.toArray a.tmps) = true) (hv : ∀ w, S w → (execOp a.eval oi).run P w = .ok (.value v) w) (hS : S w)
    (h : ordE P md L.toArray Q S z n (done.setIfInBounds i true) (a.put oi.dst v) w) : ordE P md L.toArray Q S z (n + 1) done a w :=
  ordE_first (by simpa using hi) hs hz hQ n done a w (Region.free_spec (by simpa using hi) hf) (by simpa using hr) (.inl ⟨hw, hv⟩) hS h
/-- Operation `i` alone may come up. -/
theorem ordE_one {L : List Oper} (i : Nat) {oi : Oper} {n : Nat} {done : Array Bool} {a : Act} {w : World} (hi : L[i]? = some oi) (hr : Region.ready md L.toArray done = [i]) (hw : Region.wanted oi (yielded L.toArray a.tmps) = true)
    {v : Value} {w' : World} (hv : (execOp a.eval oi).run P w = .ok (.value v) w') (hS : i = z ∨ S w') (h : ordE P md L.toArray Q S z n (done.setIfInBounds i true) (a.put oi.dst v) w') : ordE P md L.toArray Q S z (n + 1) done a w := by
  refine ⟨fun h0 => (by rw [hr] at h0; cases h0), fun j hj => ?_⟩
  rw [hr] at hj
  obtain rfl : j = i := by simpa using hj
  unfold wpOp
  simp only [List.getElem?_toArray, hi]
  rw [if_pos hw]
  unfold Oper.wp
  rw [hv]
  exact .inl ⟨hS, h⟩
theorem ordE_store {L : List Oper} (i : Nat) {oi : Oper} {n : Nat} {done : Array Bool} {a : Act} {w : World} (hi : L[i]? = some oi) (hr : Region.ready md L.toArray done = [i]) (hw : Region.wanted oi (yielded L.toArray a.tmps) = true)
    {w' : World} (hv : (execOp a.eval oi).run P w = .ok .skip w') (hS : i = z ∨ S w') (h : ordE P md L.toArray Q S z n (done.setIfInBounds i true) (a.put oi.dst undef) w') : ordE P md L.toArray Q S z (n + 1) done a w := by
  refine ⟨fun h0 => (by rw [hr] at h0; cases h0), fun j hj => ?_⟩
  rw [hr] at hj
  obtain rfl : j = i := by simpa using hj
  unfold wpOp
  simp only [List.getElem?_toArray, hi]
  rw [if_pos hw]
  unfold Oper.wp
  rw [hv]
  exact .inl ⟨hS, h⟩
theorem ordE_end {L : List Oper} {n : Nat} {done : Array Bool} {a : Act} {w : World} (hr : Region.ready md L.toArray done = []) (h : Q .normal a w) : ordE P md L.toArray Q S z n done a w := by
  cases n with
  | zero => exact ⟨hr, h⟩
  | succ n => exact ⟨fun _ => h, fun j hj => by rw [hr] at hj; cases hj⟩
end
/-- An append, as an operation's run. -/
theorem append_exec {P : Program} {o : Oper} {a : Act} {w : World} (s x : Operand) {t : TypeId} {v sl v' : Value} {w' : World}
    (ho : o.op = .call { callee := .builtin .append, args := #[s, x], argTypes := #[t, t] }) (hs : a.eval s = v) (hx : a.eval x = sl)
    (hrun : (Builtin.append_ #[t, t] o.type #[v, sl]).run P w = .ok v' w') : (execOp a.eval o).run P w = .ok (.value v') w' := by
  unfold execOp
  simp only [ho, resolve, invoke, builtin, Sem.run_bind, Sem.run_pure, Result.andThen_ok, List.map_toArray, List.map_cons, List.map_nil, hs, hx, hrun]
end Go.Proofs.YtjpdmncafacmaaaGreatDoor
end
/- The reference's Get of the example's text, walked. -/
section
set_option linter.unusedVariables false
set_option linter.unusedSimpArgs false
namespace Go.Proofs.YtjpdmncafacmaaaGreatDoor
open Go.RowKit

def rkTo (k : Nat) : List Int := ([2, 1, 0] : List Int).take k
theorem rk_snoc : ∀ k, k < 3 → rkTo k ++ [((2 - k : Nat) : Int)] = rkTo (k + 1) := by decide
theorem rk_len : ∀ k, k ≤ 3 → (rkTo k).length = k := by decide
/-- A rank is read and appended. -/
theorem rank_step {w wr : World} {k : Nat} {rv mv : Value} (hk : k < 3) (h : GS w (6 + 2 * k) rv 0 mv wr) (hO : Own IntR wr (w.heap.size + 3) 3 1 (fun b => w.heap.size + 3 ≤ b) rv (rkTo k)) (wx : World) (hx : Grew wr wx) :
    Calls Tryz.prog 80 #[.pointer (some ⟨w.heap.size + 1, 0, none⟩)] wx fun e w5 => e = .returned (.int .i64 ((2 - k : Nat) : Int)) ∧ w5.cell? ⟨w.heap.size + 2, 0, none⟩ = some rv ∧ (w5.alloc (.cells #[.int .i64 ((2 - k : Nat) : Int)] 3)).cell? ⟨w.heap.size + 2, 0, none⟩ = some rv ∧
      ∃ v9 w9, (Builtin.append_ #[22, 22] 22 #[rv, .slice (some ⟨w5.heap.size, 0, none⟩) 1 1]).run Tryz.prog (w5.alloc (.cells #[.int .i64 ((2 - k : Nat) : Int)] 3)) = .ok v9 w9 ∧ w9.cell? ⟨w.heap.size + 2, 0, none⟩ = some rv ∧ w9.frozen? ⟨w.heap.size + 2, 0, none⟩ = false ∧ (∃ A9 c9, v9 = .slice A9 (k + 1) c9) ∧
        GS w (7 + 2 * k) v9 0 mv (w9.setCell ⟨w.heap.size + 2, 0, none⟩ v9) ∧ Own IntR (w9.setCell ⟨w.heap.size + 2, 0, none⟩ v9) (w.heap.size + 3) 3 1 (fun b => w.heap.size + 3 ≤ b) v9 (rkTo (k + 1)) := by
  obtain ⟨hn1, hn2⟩ := ex_rank k hk
  refine (ex_num (6 + 2 * k) (2 - k) (by omega) (by omega) hn1 hn2 wx _ (h.step hx).rd).mono ?_
  rintro e w5 ⟨rfl, hG5, hR5⟩
  have h5 := (h.step hx).call hG5 (show RdN w5 (w.heap.size + 1) exS (7 + 2 * k) false by rw [show 7 + 2 * k = 6 + 2 * k + 1 by omega]; exact hR5)
  have hO5 := own_call moves_int (hO.kept moves_int hx.1 (ownNone _) (by simp)) (by omega) hG5
  obtain ⟨v9, w9, q1, q2, q3, ⟨A9, c9, q4⟩, q5, q6, _⟩ := fld_app0 moves_int elem_int (by omega) h5 hO5 ((2 - k : Nat) : Int) (.int .i64 ((2 - k : Nat) : Int)) 3 rfl ⟨rfl, by omega, by omega⟩ (by rw [rk_len k (by omega)]; omega) 22
  rw [rk_len k (by omega)] at q4
  rw [rk_snoc k hk] at q6
  exact ⟨rfl, h5.var.cells.1, (h5.step (grew_alloc _ _)).var.cells.1, v9, w9, q1, q2, q3, ⟨A9, c9, q4⟩, q5, q6⟩

set_option maxRecDepth 100000 in
set_option maxHeartbeats 4000000 in
theorem get_calls (w : World) : Calls Tryz.prog 35 #[.string exS] w fun e w' => ∃ r' m', e = .returned (.tuple #[.agg #[r', .int .i64 0, m'], .int .i64 0]) ∧ Grew w w' ∧ rdO AuR w' exA [r', .int .i64 0, m'] := by
  have hsz := ex_size
  obtain ⟨w3, hw3⟩ : ∃ w3, w3 = ((w.alloc (.cells #[.slice none 0 0, .int .i64 0, .slice none 0 0] 25)).alloc (.cells #[.string exS, .int .i64 0, .bool false] 109)).alloc (.cells #[.slice none 0 0, .int .i64 0, .slice none 0 0] 25) := ⟨_, rfl⟩
  have hS3 : GS w 0 (.slice none 0 0) 0 (.slice none 0 0) w3 := by
    refine ⟨by rw [hw3]; exact grew_then_alloc (grew_then_alloc (grew_alloc _ _) _) _, by rw [hw3]; exact ((ThreeAt.new w _ _ _ _).frm (frm_alloc _ _)).frm (frm_alloc _ _), ?_, ?_⟩
    · have h := RdN.new (w.alloc (.cells #[.slice none 0 0, .int .i64 0, .slice none 0 0] 25)) exS
      rw [World.size_alloc] at h
      rw [hw3]; exact h.move (frm_lt (frm_alloc _ _) _ h.lt)
    · have h := ThreeAt.new ((w.alloc (.cells #[.slice none 0 0, .int .i64 0, .slice none 0 0] 25)).alloc (.cells #[.string exS, .int .i64 0, .bool false] 109)) (.slice none 0 0) (.int .i64 0) (.slice none 0 0) 25
      rw [World.size_alloc, World.size_alloc] at h
      rw [hw3]; exact h
  obtain ⟨hd1, hd2, hd3, hd4, hd5, hd6, hd7, hd8⟩ := ex_head
  have HC1 := Lib.hid (ex_must tRk 0 (by omega) (by decide) hd1 w3 _ hS3.rd)
  have HW3 := Lib.hid hw3
  clear hw3
  go_enter Tryz.func35, Tryz.ntmps35
  go_wp2_with fail
  rw [← HW3.out]
  refine HC1.out.mono ?_
  rintro e w4 ⟨rfl, hf4, hr4⟩
  have hS4 : Hid (GS w 5 (.slice none 0 0) 0 (.slice none 0 0) w4) := hS3.call hf4 hr4
  dsimp only
  go_wp2_with fail
  go_loopg [30] 3 (fun gk s30 wr => ∃ (k : Nat) (A : Option Addr) (c : Nat), gk + k = 3 ∧ Hid (GS w (5 + 2 * k) (.slice A k c) 0 (.slice none 0 0) wr) ∧ Hid (Own IntR wr (w.heap.size + 3) 3 1 (fun b => w.heap.size + 3 ≤ b) (.slice A k c) (rkTo k)))
  case atStart => exact ⟨0, none, 0, rfl, hS4.out, Own.nil _ _ _ _ _ _⟩
  case round =>
    obtain ⟨k, A, c, hgk, hS, hO⟩ := hrel
    have hs := hS.out
    obtain ⟨_, _, rc2, _, _, _⟩ := hs.rd.cells
    have HIS := Lib.hid (ex_is tSp (5 + 2 * k) _ (by omega) (by decide) (ex_ranks k (by omega)) wr _ hs.rd)
    by_cases hk : k < 3
    · rw [decide_eq_true hk] at HIS
      go_wp2_with fail
      refine HIS.out.mono ?_
      rintro e w5 ⟨rfl, hf5, hr5⟩
      have hS5 := hs.call hf5 (show RdN w5 (w.heap.size + 1) exS (6 + 2 * k) false by rw [show 6 + 2 * k = 5 + 2 * k + tSp.size by show _ = 5 + 2 * k + 1; omega]; exact hr5)
      have hO5 := own_call moves_int hO.out (by omega) hf5
      have HST := Lib.hid (rank_step hk hS5 hO5)
      obtain ⟨vx0, _, _⟩ := hS5.var.cells
      have hdr : Grew w5 w5.drew := grew_drew _
      clear hS5 hO5 rc2
      dsimp only
      go_wp2_with fail
      go_region_law (first | (rw [if_pos (by rfl)]; refine append_wp (.tmp 32) (.tmp 35) rfl rfl rfl hrun9 ?_) | (go_simp; go_at_call 80; (with_reducible refine (HST.out _ (by assumption)).mono ?_); rintro e w8 ⟨rfl, gc5, gk5, v9, w9, hrun9, gc9, gf9, ⟨A9, c9, rfl⟩, hGS9, hO9⟩; dsimp only))
      all_goals
        have HS9 := Lib.hid hGS9
        have HO9 := Lib.hid hO9
        clear hGS9 hO9 hrun9
        go_wp2_with fail
        go_roundg (2 - k)
        case measure => omega
        case rel => exact ⟨k + 1, _, _, by omega, by unfold Hid; rw [show 5 + 2 * (k + 1) = 7 + 2 * k by omega]; exact HS9.out, HO9.out⟩
    · obtain rfl : k = 3 := by omega
      rw [decide_eq_false hk] at HIS
      go_wp2_with fail
      refine HIS.out.mono ?_
      rintro e w5 ⟨rfl, hf5, hr5⟩
      have hS5 : Hid (GS w 11 (.slice A 3 c) 0 (.slice none 0 0) w5) := hs.call hf5 hr5
      have HO5 := Lib.hid (own_call moves_int hO.out (by omega) hf5)
      have HC2 := Lib.hid (ex_must tSt 11 (by omega) (by decide) hd2 w5 _ hS5.out.rd)
      clear rc2
      dsimp only
      go_wp2_with fail
      refine HC2.out.mono ?_
      rintro e w6 ⟨rfl, hf6, hr6⟩
      have hS6 : Hid (GS w 19 (.slice A 3 c) 0 (.slice none 0 0) w6) := hS5.out.call hf6 hr6
      have HO6 := Lib.hid (own_call moves_int HO5.out (by omega) hf6)
      have HC3 : Hid (Calls Tryz.prog 80 #[.pointer (some ⟨w.heap.size + 1, 0, none⟩)] w6 (RetR w6 (w.heap.size + 1) exS 20 false (.int .i64 1))) := ex_num 19 1 (by omega) (by omega) hd5 (.inl hd6) w6 _ hS6.out.rd
      dsimp only
      go_wp2_with fail
      refine HC3.out.mono ?_
      rintro e w7 ⟨rfl, hf7, hr7⟩
      have hS7 : Hid (GS w 20 (.slice A 3 c) 0 (.slice none 0 0) w7) := hS6.out.call hf7 hr7
      have HO7 := Lib.hid (own_call moves_int HO6.out (by omega) hf7)
      have HC4 := Lib.hid (ex_must tSa 20 (by omega) (by decide) hd3 w7 _ hS7.out.rd)
      dsimp only
      go_wp2_with fail
      refine HC4.out.mono ?_
      rintro e w8 ⟨rfl, hf8, hr8⟩
      have hS8 : Hid (GS w 27 (.slice A 3 c) 0 (.slice none 0 0) w8) := hS7.out.call hf8 hr8
      have HO8 := Lib.hid (own_call moves_int HO7.out (by omega) hf8)
      have HC5 : Hid (Calls Tryz.prog 80 #[.pointer (some ⟨w.heap.size + 1, 0, none⟩)] w8 (RetR w8 (w.heap.size + 1) exS 28 false (.int .i64 0))) := ex_num 27 0 (by omega) (by omega) hd7 (.inl hd8) w8 _ hS8.out.rd
      dsimp only
      go_wp2_with fail
      refine HC5.out.mono ?_
      rintro e w9 ⟨rfl, hf9, hr9⟩
      have hS9 : Hid (GS w 28 (.slice A 3 c) 0 (.slice none 0 0) w9) := hS8.out.call hf9 hr9
      have HO9 := Lib.hid (own_call moves_int HO8.out (by omega) hf9)
      obtain ⟨_, vx1, _⟩ := hS9.out.var.cells
      have vf1 := hS9.out.var.free 1
      have hS10 : Hid (GS w 28 (.slice A 3 c) 0 (.slice none 0 0) (w9.setCell ⟨w.heap.size + 2, 1, none⟩ (.int .i64 0))) := hS9.out.set1 0
      have HO10 : Hid (Own IntR (w9.setCell ⟨w.heap.size + 2, 1, none⟩ (.int .i64 0)) (w.heap.size + 3) 3 1 (fun b => w.heap.size + 3 ≤ b) (.slice A 3 c) (rkTo 3)) := own_set moves_int HO9.out (by omega)
      have HC6 : Hid (Calls Tryz.prog 78 #[.pointer (some ⟨w.heap.size + 1, 0, none⟩), .string tNl] (w9.setCell ⟨w.heap.size + 2, 1, none⟩ (.int .i64 0)) (fun e w' => e = .returned (.tuple #[]) ∧ GrewR (w9.setCell ⟨w.heap.size + 2, 1, none⟩ (.int .i64 0)) w' (some (w.heap.size + 1)) ∧ RdN w' (w.heap.size + 1) exS (28 + tNl.size) false)) := ex_must tNl 28 (by omega) (by decide) hd4 _ _ hS10.out.rd
      dsimp only
      go_wp2_with fail
      refine HC6.out.mono ?_
      rintro e w11 ⟨rfl, hf11, hr11⟩
      have hS11 : Hid (GS w 29 (.slice A 3 c) 0 (.slice none 0 0) w11) := hS10.out.call hf11 hr11
      have HO11 := Lib.hid (own_call moves_int HO10.out (by omega) hf11)
      clear vx1 vf1
      dsimp only
      go_wp2_with fail
      go_loopw [51] (fun i wr => ∃ j : Nat, j ≤ 1 ∧ i = .int .i64 j ∧ (j = 0 → Hid (GS w 29 (.slice A 3 c) 0 (.slice none 0 0) wr ∧ Own IntR wr (w.heap.size + 3) 3 1 (fun b => w.heap.size + 3 ≤ b) (.slice A 3 c) (rkTo 3))) ∧ (j = 1 → Hid (∃ gm cm gr, LS w 29 A c gm cm gr (.slice none 0 0) (.slice none 0 0) (.slice none 0 0) [[], [], []] wr))) (fun i _ => 1 - (intOf i).toNat)
      case atStart => exact ⟨0, by omega, rfl, fun _ => ⟨hS11.out, HO11.out⟩, fun h => by cases h⟩
      case round =>
        obtain ⟨j, hj, rfl, hj0, hj1⟩ := hrel
        by_cases hjz : j = 0
        · subst hjz
          obtain ⟨hg, ho⟩ := (hj0 rfl).out
          clear hj0 hj1
          obtain ⟨vx0, _, vx2⟩ := hg.var.cells
          have hmk := mk_row
          obtain ⟨wM, hwM⟩ : ∃ wM, wM = wr.drew.alloc (.cells #[.slice none 0 0, .slice none 0 0, .slice none 0 0] 50) := ⟨_, rfl⟩
          have hgM : Grew wr wM := by rw [hwM]; exact grew_then_alloc (grew_drew _) _
          have hsM : wM.heap.size = wr.heap.size + 1 := by rw [hwM]; simp
          have hi := hg.hi
          obtain ⟨v9, w9', hrun9, gc9, gf9, ⟨A9, c9, hv9⟩, hGS9, hO9, hg9, hp9⟩ := fld_app2 moves_raw elem_rule (by omega) (hg.step hgM) (Own.nil RawR wM (w.heap.size + 3) 49 1 (fun b => w.heap.size + 3 ≤ b)) (.slice (some ⟨wr.heap.size, 0, none⟩) 3 3) (.slice (some ⟨wr.heap.size, 0, none⟩) 3 3) 49 rfl rfl (by simp) 23
          rw [hsM] at hrun9
          have hv9' : v9 = .slice A9 (0 + 1) c9 := hv9
          clear hv9
          subst hv9'
          have hrun9' : (Builtin.append_ #[23, 23] 23 #[.slice none 0 0, .slice (some ⟨wr.heap.size + 1, 0, none⟩) 1 1]).run Tryz.prog ((wr.alloc (.cells #[.slice none 0 0, .slice none 0 0, .slice none 0 0] 50)).alloc (.cells #[.slice (some ⟨wr.heap.size, 0, none⟩) 3 3] 49)).drew = .ok (.slice A9 (0 + 1) c9) w9' := by
            rw [hwM] at hrun9
            exact hrun9
          clear hrun9
          have gA2 := frm_cell (frm_alloc wr (.cells #[.slice none 0 0, .slice none 0 0, .slice none 0 0] 50)) vx2
          have gB2 := frm_cell (frm_alloc (wr.alloc (.cells #[.slice none 0 0, .slice none 0 0, .slice none 0 0] 50)) (.cells #[.slice (some ⟨wr.heap.size, 0, none⟩) 3 3] 49)) gA2
          have HLS : Hid (∃ gm cm gr, LS w 29 A c gm cm gr (.slice none 0 0) (.slice none 0 0) (.slice none 0 0) [[], [], []] (w9'.setCell ⟨w.heap.size + 2, 2, none⟩ (.slice A9 (0 + 1) c9))) := by
            have hG9 : Grew wr w9' := grew_trans hgM ⟨hg9.1, hg9.2⟩
            have hlr := ho.lt
            have hth : ThreeAt (w9'.setCell ⟨w.heap.size + 2, 2, none⟩ (.slice A9 (0 + 1) c9)) wr.heap.size (.slice none 0 0) (.slice none 0 0) (.slice none 0 0) 50 := by
              have h1 : ThreeAt wM wr.heap.size (.slice none 0 0) (.slice none 0 0) (.slice none 0 0) 50 := by rw [hwM]; exact ThreeAt.new wr.drew _ _ _ _
              exact (h1.frm hg9.1).move (Below.heap_setCell _ _ _ _ (by show wr.heap.size ≠ w.heap.size + 2; omega))
            rcases hp9 with h | h
            · rcases hO9.cases with ⟨h1, _⟩ | ⟨gm, cm, h1, _⟩
              · cases h1
              · rw [h1] at h; cases h
            · rcases hO9.cases with ⟨h1, _⟩ | ⟨gm, cm, h1, h2, h3, h4⟩
              · cases h1
              · rw [h1] at h
                have hgm : gm = wM.heap.size + 1 := by
                  have h5 : some gm = some (wM.heap.size + 1) := h
                  injection h5
                have h1' : Value.slice A9 (0 + 1) c9 = .slice (some ⟨gm, 0, none⟩) 1 cm := h1
                refine ⟨gm, cm, wr.heap.size, by rw [h1'] at hGS9 ⊢; exact hGS9, own_int_any (own_set moves_int (ho.kept moves_int hG9.1 (ownNone _) (by simp)) (by omega)), ?_, hth, ⟨h3, hi, by omega⟩, fun b hb => by have := (hlr b hb).2; omega, nil_alts, nil_alts, nil_alts, by simpa using h2⟩
                rw [h1'] at hO9 ⊢
                have hr := hO9.rowG 0 (by simp)
                obtain ⟨cs, q1, q2, q3⟩ := hr
                have q4 := q2 0 (by omega)
                have q5 : cs = [.slice (some ⟨wr.heap.size, 0, none⟩) 3 3] := q3
                rw [q5] at q4
                simpa using q4
          clear hGS9 hO9 hg9 hp9
          go_wp2_with fail
          go_region_law (first | (rw [if_pos (by rfl)]; refine append_wp (.tmp 54) (.tmp 59) rfl rfl rfl hrun9' ?_))
          all_goals
            clear hrun9' hmk gA2 gB2 gc9 gf9
            go_wp2_with fail
            refine ⟨⟨1, Nat.le_refl _, ?_, ?_, ?_⟩, by simp [intOf]⟩
            · first | rfl | go_num
            · intro h; exact absurd h (by omega)
            · intro _; exact HLS.out
        · obtain rfl : j = 1 := by omega
          obtain ⟨gm, cm, gr, hL0⟩ := (hj1 rfl).out
          have HL0 := Lib.hid hL0
          clear hj0 hj1 hL0
          go_wp2_with fail
          go_loopg [7, 8] 2 (fun gk s7 s8 wr => ∃ (i : Nat) (v0 v2 : Value), gk + i = 2 ∧ s7 = .int .i64 0 ∧ s8 = .int .i64 (pf i) ∧ Hid (i = 0 → v0 = .slice none 0 0) ∧ Hid (i ≤ 1 → v2 = .slice none 0 0) ∧ Hid (LS w (lnAt i) A c gm cm gr v0 (.slice none 0 0) v2 (exRowTo i) wr))
          case atStart => exact ⟨0, .slice none 0 0, .slice none 0 0, rfl, rfl, rfl, fun _ => rfl, fun _ => rfl, HL0.out⟩
          case round =>
            obtain ⟨i, v0, v2, hgk, rfl, rfl, hv0, hv2, hL⟩ := hrel
            obtain ⟨_, rc1, rc2, _, _, _⟩ := hL.out.gs.rd.cells
            by_cases hi : i < 2
            · obtain ⟨l1, l2, l3, l4, l5, l6⟩ := ln_facts i hi
              obtain ⟨m1, m2, m3, m4, m5, m6, m7, m8⟩ := ex_line i hi
              have HM7 := Lib.hid m7
              have HM8 := Lib.hid m8
              have HL5 := Lib.hid l5
              have hlt47 : (lnAt i : Int) < 47 := by omega
              have HA1 : Hid (Calls Tryz.prog 80 #[.pointer (some ⟨w.heap.size + 1, 0, none⟩)] wr (RetR wr (w.heap.size + 1) exS (lnAt i + 1) false (.int .i64 0))) := ex_num (lnAt i) 0 (by omega) (by omega) m1 (.inl m2) wr _ hL.out.gs.rd
              clear m1 m2 m7 m8 l5
              go_wp2_with fail
              refine HA1.out.mono ?_
              rintro e w1 ⟨rfl, hf1, hr1⟩
              have h1 : Hid (LS w (lnAt i + 1) A c gm cm gr v0 (.slice none 0 0) v2 (exRowTo i) w1) := hL.out.call hf1 hr1
              have HA2 := Lib.hid (ex_must tSp (lnAt i + 1) (by omega) (by decide) m3 w1 _ h1.out.gs.rd)
              clear rc1 rc2
              dsimp only
              go_wp2_with fail
              refine HA2.out.mono ?_
              rintro e w2 ⟨rfl, hf2, hr2⟩
              have h2 : Hid (LS w (lnAt i + 2) A c gm cm gr v0 (.slice none 0 0) v2 (exRowTo i) w2) := h1.out.call hf2 hr2
              have HA3 := Lib.hid (ex_num (lnAt i + 2) (lnF i) (by omega) (by omega) m4 (.inr m5) w2 _ h2.out.gs.rd)
              dsimp only
              go_wp2_with fail
              refine HA3.out.mono ?_
              rintro e w3' ⟨rfl, hf3, hr3⟩
              have h3 : Hid (LS w (lnAt i + 3) A c gm cm gr v0 (.slice none 0 0) v2 (exRowTo i) w3') := h2.out.call hf3 hr3
              have HA4 := Lib.hid (ex_must tCo (lnAt i + 3) (by omega) (by decide) m6 w3' _ h3.out.gs.rd)
              dsimp only
              go_wp2_with fail
              refine HA4.out.mono ?_
              rintro e w4' ⟨rfl, hf4', hr4'⟩
              have h4 : Hid (LS w (lnAt i + 4) A c gm cm gr v0 (.slice none 0 0) v2 (exRowTo i) w4') := h3.out.call hf4' hr4'
              obtain ⟨vx0, _, _⟩ := h4.out.gs.var.cells
              have b1 : ¬ ((lnF i : Int) < pf i) := by omega
              have b2 : ¬ ((3 : Int) ≤ lnF i) := by omega
              dsimp only
              go_wp2_with fail
              clear vx0 b1 b2
              obtain ⟨wb, hwb⟩ : ∃ wb : World, wb = w4' := ⟨_, rfl⟩
              subst hwb
              go_loopg [11] (lnN i) (fun gj s11 wr => ∃ (j : Nat) (Aj : Option Addr) (cj : Nat), gj + j = lnN i ∧ s11 = .slice Aj j cj ∧ Hid (LS w (lnAt i + 4 + 4 * j) A c gm cm gr v0 (.slice none 0 0) v2 (exRowTo i) wr) ∧ Hid (Own NdR wr wb.heap.size 80 2 (fun _ => False) (.slice Aj j cj) (ndL j)) ∧ GrewR wb wr (some (w.heap.size + 1)))
              case atStart => exact ⟨0, none, 0, rfl, rfl, h4.out, Own.nil _ _ _ _ _ _, grewR_refl _ _⟩
              case round =>
                obtain ⟨j, Aj, cj, hgj, rfl, hLj, hOj, hGb⟩ := hrel
                have hwbr := hGb.1.size
                have hlsj := hLj.out
                obtain ⟨_, _, rc2, _, _, _⟩ := hlsj.gs.rd.cells
                obtain ⟨n1, n2⟩ := ex_need i hi j (by omega)
                have HIS := Lib.hid (ex_is tSp (lnAt i + 4 + 4 * j) _ (by omega) (by decide) n1 wr _ hlsj.gs.rd)
                have hh4 := h4.out.gs.hi
                by_cases hjl : j < lnN i
                · rw [decide_eq_true hjl] at HIS
                  obtain ⟨k1, k2, k3, k4, k5⟩ := n2 hjl
                  have HOJ := hOj
                  clear n1 n2 hOj
                  go_wp2_with fail
                  refine HIS.out.mono ?_
                  rintro e w5 ⟨rfl, hf5, hr5⟩
                  have h5 : Hid (LS w (lnAt i + 5 + 4 * j) A c gm cm gr v0 (.slice none 0 0) v2 (exRowTo i) w5) := hlsj.call hf5 (by rw [show lnAt i + 5 + 4 * j = lnAt i + 4 + 4 * j + 1 by omega]; exact hr5)
                  have ho5 := HOJ.out.kept moves_nd hf5.1 (.inr fun e => by have := (HOJ.out.lt _ e).1; omega) (fun b hb => hb.elim)
                  have HB1 := Lib.hid (ex_num (lnAt i + 5 + 4 * j) j (by omega) (by omega) k1 (.inl (by rw [show lnAt i + 5 + 4 * j + 1 = lnAt i + 6 + 4 * j by omega]; exact k2)) w5 _ h5.out.gs.rd)
                  have HO5 := Lib.hid ho5
                  clear rc2 ho5
                  dsimp only
                  go_wp2_with fail
                  refine HB1.out.mono ?_
                  rintro e w6' ⟨rfl, hf6', hr6'⟩
                  have h6 : Hid (LS w (lnAt i + 6 + 4 * j) A c gm cm gr v0 (.slice none 0 0) v2 (exRowTo i) w6') := h5.out.call hf6' (by rw [show lnAt i + 6 + 4 * j = lnAt i + 5 + 4 * j + 1 by omega]; exact hr6')
                  have HO6 := Lib.hid (HO5.out.kept moves_nd hf6'.1 (.inr fun e => by have := (HO5.out.lt _ e).1; omega) (fun b hb => hb.elim))
                  have HB2 := Lib.hid (ex_must tDo (lnAt i + 6 + 4 * j) (by omega) (by decide) k3 w6' _ h6.out.gs.rd)
                  dsimp only
                  go_wp2_with fail
                  refine HB2.out.mono ?_
                  rintro e w7' ⟨rfl, hf7', hr7'⟩
                  have h7 : Hid (LS w (lnAt i + 7 + 4 * j) A c gm cm gr v0 (.slice none 0 0) v2 (exRowTo i) w7') := h6.out.call hf7' (by rw [show lnAt i + 7 + 4 * j = lnAt i + 6 + 4 * j + tDo.size by show _ = lnAt i + 6 + 4 * j + 1; omega]; exact hr7')
                  have HO7' := Lib.hid (HO6.out.kept moves_nd hf7'.1 (.inr fun e => by have := (HO6.out.lt _ e).1; omega) (fun b hb => hb.elim))
                  have HB3 : Hid (Calls Tryz.prog 80 #[.pointer (some ⟨w.heap.size + 1, 0, none⟩)] w7' (RetR w7' (w.heap.size + 1) exS (lnAt i + 7 + 4 * j + 1) false (.int .i64 0))) := ex_num (lnAt i + 7 + 4 * j) 0 (by omega) (by omega) k4 (.inl (by rw [show lnAt i + 7 + 4 * j + 1 = lnAt i + 8 + 4 * j by omega]; exact k5)) w7' _ h7.out.gs.rd
                  dsimp only
                  go_wp2_with fail
                  refine HB3.out.mono ?_
                  rintro e w8' ⟨rfl, hf8', hr8'⟩
                  have h8 : Hid (LS w (lnAt i + 4 + 4 * (j + 1)) A c gm cm gr v0 (.slice none 0 0) v2 (exRowTo i) w8') := h7.out.call hf8' (by rw [show lnAt i + 4 + 4 * (j + 1) = lnAt i + 7 + 4 * j + 1 by omega]; exact hr8')
                  have HO8' := Lib.hid (HO7'.out.kept moves_nd hf8'.1 (.inr fun e => by have := (HO7'.out.lt _ e).1; omega) (fun b hb => hb.elim))
                  dsimp only
                  repeat ((fail_if_success at_builtin); first | go_values | go_skip | go_guarded | go_step | go_upon)
                  have hal8 := grew_alloc w8' (.cells #[.int .i64 j, .int .i64 0] 80)
                  have ho9 := HO8'.out.kept moves_nd hal8.1 (ownNone _) (by simp)
                  have htw := TwoAt.new w8' (.int .i64 j) (.int .i64 0) 80
                  have hs5 := hf5.1.size
                  have hs6 := hf6'.1.size
                  have hs7 := hf7'.1.size
                  have hs8 := hf8'.1.size
                  have hlt9 := ho9.lt
                  refine Own.app1 moves_nd elem_nd ho9 rfl _ _ rfl rfl rfl ((j : Int), 0) [.int .i64 j, .int .i64 0] rfl ?_ ?_ ?_ (by rw [nd_len]; omega) (by omega) (by simp; omega) ?_
                  · intro q u hq
                    match q with
                    | 0 => simp at hq; subst hq; exact htw.cells.1
                    | 1 => simp at hq; subst hq; exact htw.cells.2.1
                    | q + 2 => simp at hq
                  · intro u hu
                    simp at hu
                    rcases hu with rfl | rfl <;> rfl
                  · exact ⟨rfl, by omega, by omega⟩
                  intro v7 w7 hQ7 hg7 hp7
                  rw [nd_snoc] at hQ7
                  obtain ⟨A7, c7, he7, hcc7⟩ := hQ7.val
                  rw [nd_len] at he7
                  have hG87 : GrewR w8' w7 (Value.slice Aj j cj).ownBlock := grewR_trans (grewR_weak hal8) hg7
                  have hGb8 : GrewR wb w8' (some (w.heap.size + 1)) := grewR_trans (grewR_trans (grewR_trans (grewR_trans hGb hf5) hf6') hf7') hf8'
                  have hGb7 : GrewR wb w7 (some (w.heap.size + 1)) := ⟨hGb8.1.andThen hG87.1 (fun b hb => .inl (hlt9 b hb).1), Nat.le_trans hGb8.2 hG87.2⟩
                  have h9 : Hid (LS w (lnAt i + 4 + 4 * (j + 1)) A c gm cm gr v0 (.slice none 0 0) v2 (exRowTo i) w7) := h4.out.call hGb7 (h8.out.gs.rd.move (hG87.1.block _ h8.out.gs.rd.lt (fun e => by have := (hlt9 _ e.symm).1; omega)))
                  have HQ7 := Lib.hid hQ7
                  have hs9 := hG87.1.size
                  clear hQ7 ho9 htw hlt9 hg7
                  subst he7
                  go_wp2_with fail
                  go_roundg (lnN i - (j + 1))
                  case measure => omega
                  case rel => exact ⟨j + 1, A7, c7, by omega, rfl, h9.out, HQ7.out, hGb7⟩
                · obtain rfl : j = lnN i := by omega
                  rw [decide_eq_false hjl] at HIS
                  clear n1 n2
                  go_wp2_with fail
                  refine HIS.out.mono ?_
                  rintro e w5 ⟨rfl, hf5, hr5⟩
                  have h5 : Hid (LS w (lnAt i + 4 + 4 * lnN i) A c gm cm gr v0 (.slice none 0 0) v2 (exRowTo i) w5) := hlsj.call hf5 hr5
                  have HO5 := Lib.hid (hOj.out.kept moves_nd hf5.1 (.inr fun e => by have := (hOj.out.lt _ e).1; omega) (fun b hb => hb.elim))
                  have HB1 := Lib.hid (ex_must tNl (lnAt i + 4 + 4 * lnN i) (by omega) (by decide) HM7.out w5 _ h5.out.gs.rd)
                  clear rc2
                  dsimp only
                  go_wp2_with fail
                  refine HB1.out.mono ?_
                  rintro e w6' ⟨rfl, hf6', hr6'⟩
                  have hnx : lnAt i + 4 + 4 * lnN i + tNl.size = lnAt (i + 1) := by
                    rw [← HM8.out]
                    show lnAt i + 4 + 4 * lnN i + 1 = _
                    omega
                  have h6 : Hid (LS w (lnAt (i + 1)) A c gm cm gr v0 (.slice none 0 0) v2 (exRowTo i) w6') := h5.out.call hf6' (by rw [← hnx]; exact hr6')
                  have ho6 := HO5.out.kept moves_nd hf6'.1 (.inr fun e => by have := (HO5.out.lt _ e).1; omega) (fun b hb => hb.elim)
                  obtain ⟨_, _, rc2, _, _, _⟩ := h6.out.gs.rd.cells
                  obtain ⟨vx0, _, vx2⟩ := h6.out.gs.var.cells
                  have hll := nd_len (lnN i)
                  have hlt6 := ho6.lt
                  have hal6 : AltR (fun b => w.heap.size + 3 ≤ b ∧ b < w6'.heap.size ∧ b ≠ gr) w6' (ndL (lnN i)) [.slice Aj (lnN i) cj] := by
                    exact ⟨_, rfl, ho6.sl2 moves_nd (by omega) (fun b hb _ => hb.elim) (fun b hb => ⟨by have := (hlt6 b hb).1; omega, (hlt6 b hb).2, by have := (hlt6 b hb).1; have := h4.out.lt; omega⟩)⟩
                  obtain ⟨hcf, A9, c9, w9', hrun9, hS9, hc9, hf9', v0', v2', hv0', hv2', hL9⟩ := ls_line hi h6.out hv0.out hv2.out rfl hal6
                  have hrun9'' : (Builtin.append_ #[50, 50] 50 #[.slice none 0 0, .slice (some ⟨w6'.heap.size, 0, none⟩) 1 1]).run Tryz.prog (w6'.alloc (.cells #[.slice Aj (lnN i) cj] 76)).drew = .ok (.slice A9 1 c9) w9' := hrun9
                  have hlo := h6.out.lo
                  have hhi6 := h6.out.gs.hi
                  have hgmne : gm ≠ gr := hlo.2.2
                  have gB2 := frm_cell (frm_alloc w6' (.cells #[.slice Aj (lnN i) cj] 76)) vx2
                  have gA2 := h6.out.cell
                  have gC2 := frm_cell (frm_alloc w6' (.cells #[.slice Aj (lnN i) cj] 76)) gA2
                  obtain ⟨gD2, gE2⟩ := hS9
                  have hcfA := frm_cell (frm_alloc w6' (.cells #[.slice Aj (lnN i) cj] 76)) hcf
                  have HL9 := Lib.hid hL9
                  have HV0 := Lib.hid hv0'
                  have HV2 := Lib.hid hv2'
                  have hf3 : (lnF i : Int) < 3 := by omega
                  have hf0 : (0 : Int) ≤ lnF i := by omega
                  clear hrun9'' hL9 ho6 hlt6 hal6 hll vx0
                  dsimp only
                  go_wp2_with fail
                  have HS0 : Hid (w6'.drew.cell? ⟨w.heap.size + 2, 2, none⟩ = some (.slice (some ⟨gm, 0, none⟩) 1 cm) ∧ w6'.drew.cell? ⟨gm, 0, none⟩ = some (.slice (some ⟨gr, 0, none⟩) 3 3) ∧ w6'.drew.cell? ⟨gr, lnF i, none⟩ = some (.slice none 0 0)) := ⟨vx2, gA2, hcf⟩
                  have HS1 : Hid ((w6'.drew.alloc (.cells #[.slice Aj (lnN i) cj] 76)).cell? ⟨w.heap.size + 2, 2, none⟩ = some (.slice (some ⟨gm, 0, none⟩) 1 cm) ∧ (w6'.drew.alloc (.cells #[.slice Aj (lnN i) cj] 76)).cell? ⟨gm, 0, none⟩ = some (.slice (some ⟨gr, 0, none⟩) 3 3) ∧ (w6'.drew.alloc (.cells #[.slice Aj (lnN i) cj] 76)).cell? ⟨gr, lnF i, none⟩ = some (.slice none 0 0)) := ⟨gB2, gC2, hcfA⟩
                  have HS9 : Hid (w9'.cell? ⟨w.heap.size + 2, 2, none⟩ = some (.slice (some ⟨gm, 0, none⟩) 1 cm) ∧ w9'.cell? ⟨gm, 0, none⟩ = some (.slice (some ⟨gr, 0, none⟩) 3 3) ∧ w9'.cell? ⟨gr, lnF i, none⟩ = some (.slice none 0 0)) := ⟨gD2, gE2, hc9⟩
                  refine ordE_region (fun wx => wx.cell? ⟨w.heap.size + 2, 2, none⟩ = some (.slice (some ⟨gm, 0, none⟩) 1 cm) ∧ wx.cell? ⟨gm, 0, none⟩ = some (.slice (some ⟨gr, 0, none⟩) 3 3) ∧ wx.cell? ⟨gr, lnF i, none⟩ = some (.slice none 0 0)) 18 (by kernel_rfl) ?_
                  change ordE _ _ _ _ _ _ 19 _ _ _
                  refine' ordE_yes 0 (v := _) rfl (by kernel_rfl) (by kernel_rfl) (by kernel_rfl) (by kernel_rfl) (fun _ _ _ h => h) (by rfl) ?hv0 HS0.out ?hr0
                  case hv0 =>
                    rintro wx ⟨s1, s2, s3⟩
                    go_simp
                    try rfl
                  simp only [Act.put, List.setIfInBounds_toArray, List.set_cons_zero, List.set_cons_succ]
                  refine' ordE_yes 1 (v := _) rfl (by kernel_rfl) (by kernel_rfl) (by kernel_rfl) (by kernel_rfl) (fun _ _ _ h => h) (by rfl) ?hv1 HS0.out ?hr1
                  case hv1 =>
                    rintro wx ⟨s1, s2, s3⟩
                    go_simp
                    try rfl
                  simp only [Act.put, List.setIfInBounds_toArray, List.set_cons_zero, List.set_cons_succ]
                  refine' ordE_yes 2 (v := _) rfl (by kernel_rfl) (by kernel_rfl) (by kernel_rfl) (by kernel_rfl) (fun _ _ _ h => h) (by rfl) ?hv2 HS0.out ?hr2
                  case hv2 =>
                    rintro wx ⟨s1, s2, s3⟩
                    go_simp
                    try rfl
                  simp only [Act.put, List.setIfInBounds_toArray, List.set_cons_zero, List.set_cons_succ]
                  refine' ordE_yes 3 (v := _) rfl (by kernel_rfl) (by kernel_rfl) (by kernel_rfl) (by kernel_rfl) (fun _ _ _ h => h) (by rfl) ?hv3 HS0.out ?hr3
                  case hv3 =>
                    rintro wx ⟨s1, s2, s3⟩
                    go_simp
                    try rfl
                  simp only [Act.put, List.setIfInBounds_toArray, List.set_cons_zero, List.set_cons_succ]
                  refine' ordE_yes 4 (v := _) rfl (by kernel_rfl) (by kernel_rfl) (by kernel_rfl) (by kernel_rfl) (fun _ _ _ h => h) (by rfl) ?hv4 HS0.out ?hr4
                  case hv4 =>
                    rintro wx ⟨s1, s2, s3⟩
                    go_simp
                    try rfl
                  simp only [Act.put, List.setIfInBounds_toArray, List.set_cons_zero, List.set_cons_succ]
                  refine' ordE_yes 5 (v := _) rfl (by kernel_rfl) (by kernel_rfl) (by kernel_rfl) (by kernel_rfl) (fun _ _ _ h => h) (by rfl) ?hv5 HS0.out ?hr5
                  case hv5 =>
                    rintro wx ⟨s1, s2, s3⟩
                    go_simp
                    try rfl
                  simp only [Act.put, List.setIfInBounds_toArray, List.set_cons_zero, List.set_cons_succ]
                  refine' ordE_yes 6 (v := _) rfl (by kernel_rfl) (by kernel_rfl) (by kernel_rfl) (by kernel_rfl) (fun _ _ _ h => h) (by rfl) ?hv6 HS0.out ?hr6
                  case hv6 =>
                    rintro wx ⟨s1, s2, s3⟩
                    go_simp
                    try rfl
                  simp only [Act.put, List.setIfInBounds_toArray, List.set_cons_zero, List.set_cons_succ]
                  refine' ordE_yes 7 (v := _) rfl (by kernel_rfl) (by kernel_rfl) (by kernel_rfl) (by kernel_rfl) (fun _ _ _ h => h) (by rfl) ?hv7 HS0.out ?hr7
                  case hv7 =>
                    rintro wx ⟨s1, s2, s3⟩
                    go_simp
                    try rfl
                  simp only [Act.put, List.setIfInBounds_toArray, List.set_cons_zero, List.set_cons_succ]
                  refine' ordE_yes 8 (v := _) rfl (by kernel_rfl) (by kernel_rfl) (by kernel_rfl) (by kernel_rfl) (fun _ _ _ h => h) (by rfl) ?hv8 HS0.out ?hr8
                  case hv8 =>
                    rintro wx ⟨s1, s2, s3⟩
                    go_simp
                    try rfl
                  simp only [Act.put, List.setIfInBounds_toArray, List.set_cons_zero, List.set_cons_succ]
                  refine' ordE_yes 9 (v := _) rfl (by kernel_rfl) (by kernel_rfl) (by kernel_rfl) (by kernel_rfl) (fun _ _ _ h => h) (by rfl) ?hv9 HS0.out ?hr9
                  case hv9 =>
                    rintro wx ⟨s1, s2, s3⟩
                    go_simp
                    try rfl
                  simp only [Act.put, List.setIfInBounds_toArray, List.set_cons_zero, List.set_cons_succ]
                  refine' ordE_yes 10 (v := _) rfl (by kernel_rfl) (by kernel_rfl) (by kernel_rfl) (by kernel_rfl) (fun _ _ _ h => h) (by rfl) ?hv10 HS0.out ?hr10
                  case hv10 =>
                    rintro wx ⟨s1, s2, s3⟩
                    go_simp
                    try rfl
                  simp only [Act.put, List.setIfInBounds_toArray, List.set_cons_zero, List.set_cons_succ]
                  refine' ordE_yes 11 (v := _) rfl (by kernel_rfl) (by kernel_rfl) (by kernel_rfl) (by kernel_rfl) (fun _ _ _ h => h) (by rfl) ?hv11 HS0.out ?hr11
                  case hv11 =>
                    rintro wx ⟨s1, s2, s3⟩
                    go_simp
                    try rfl
                  simp only [Act.put, List.setIfInBounds_toArray, List.set_cons_zero, List.set_cons_succ]
                  refine' ordE_yes 12 (v := _) rfl (by kernel_rfl) (by kernel_rfl) (by kernel_rfl) (by kernel_rfl) (fun _ _ _ h => h) (by rfl) ?hv12 HS0.out ?hr12
                  case hv12 =>
                    rintro wx ⟨s1, s2, s3⟩
                    go_simp
                    try rfl
                  simp only [Act.put, List.setIfInBounds_toArray, List.set_cons_zero, List.set_cons_succ]
                  refine' ordE_yes 13 (v := _) rfl (by kernel_rfl) (by kernel_rfl) (by kernel_rfl) (by kernel_rfl) (fun _ _ _ h => h) (by rfl) ?hv13 HS0.out ?hr13
                  case hv13 =>
                    rintro wx ⟨s1, s2, s3⟩
                    go_simp
                    try rfl
                  simp only [Act.put, List.setIfInBounds_toArray, List.set_cons_zero, List.set_cons_succ]
                  refine' ordE_yes 14 (v := _) rfl (by kernel_rfl) (by kernel_rfl) (by kernel_rfl) (by kernel_rfl) (fun _ _ _ h => h) (by rfl) ?hv14 HS0.out ?hr14
                  case hv14 =>
                    rintro wx ⟨s1, s2, s3⟩
                    go_simp
                    try rfl
                  simp only [Act.put, List.setIfInBounds_toArray, List.set_cons_zero, List.set_cons_succ]
                  refine ordE_one 15 (v := .slice (some ⟨w6'.heap.size, 0, none⟩) 1 1) (w' := w6'.drew.alloc (.cells #[.slice Aj (lnN i) cj] 76)) rfl (by kernel_rfl) (by rfl) ?_ (.inr HS1.out) ?_
                  · go_simp
                    try rfl
                  simp only [Act.put, List.setIfInBounds_toArray, List.set_cons_zero, List.set_cons_succ]
                  refine ordE_one 16 (v := .slice A9 1 c9) (w' := w9') rfl (by kernel_rfl) (by rfl) (append_exec (.tmp 162) (.tmp 164) rfl rfl rfl hrun9) (.inr HS9.out) ?_
                  simp only [Act.put, List.setIfInBounds_toArray, List.set_cons_zero, List.set_cons_succ]
                  refine' ordE_yes 17 (v := _) rfl (by kernel_rfl) (by kernel_rfl) (by kernel_rfl) (by kernel_rfl) (fun _ _ _ h => h) (by rfl) ?hv17 HS9.out ?hr17
                  case hv17 =>
                    rintro wx ⟨s1, s2, s3⟩
                    go_simp
                    try rfl
                  simp only [Act.put, List.setIfInBounds_toArray, List.set_cons_zero, List.set_cons_succ]
                  refine ordE_store 18 (w' := w9'.setCell ⟨gr, lnF i, none⟩ (.slice A9 1 c9)) rfl (by kernel_rfl) (by rfl) ?_ (.inl rfl) ?_
                  · go_simp
                    try rfl
                  simp only [Act.put, List.setIfInBounds_toArray, List.set_cons_zero, List.set_cons_succ]
                  refine ordE_end (by kernel_rfl) ?_
                  clear hrun9 hcf hcfA hc9 hf9' gB2 gA2 gC2 gD2 gE2 vx2
                  go_wp2_with fail
                  go_roundg (2 - (i + 1))
                  case measure => omega
                  case rel => exact ⟨i + 1, v0', v2', by omega, rfl, by rw [HL5.out], HV0.out, HV2.out, HL9.out⟩
            · obtain rfl : i = 2 := by omega
              have hLL : Hid (LS w 47 A c gm cm gr v0 (.slice none 0 0) v2 exRow wr) := hL
              rw [show lnAt 2 = 47 from rfl] at rc1
              obtain ⟨vx0, vx1, vx2⟩ := hLL.out.gs.var.cells
              have hIS : Calls Tryz.prog 8 #[.agg #[.slice A 3 c, .int .i64 0, .slice (some ⟨gm, 0, none⟩) 1 cm]] wr (RetD wr (.bool true)) := by
                have h := ris_calls exA wr _ _ (moves_au _ _ _ _ _ _ (fun b hb => hb.2) (fun b hb => rfl) hLL.out.read)
                rw [← ok_eq, ex_ok] at h
                exact h
              have HIS := Lib.hid hIS
              clear hIS
              go_wp2_with fail
              refine HIS.out.mono ?_
              rintro e wz ⟨rfl, hfz⟩
              have hLz := hLL.out.step hfz
              obtain ⟨vx0, vx1, vx2⟩ := hLz.gs.var.cells
              obtain ⟨xz0, xz1, xz2⟩ := hLz.gs.res.cells
              have zf0 := hLz.gs.res.free 0
              have zf1 := hLz.gs.res.free 1
              have zf2 := hLz.gs.res.free 2
              have HLZ := Lib.hid hLz
              clear rc1 rc2 hLz
              dsimp only
              go_wp2_with fail
              refine bodyPost_ret (v := .tuple #[.agg #[.slice A 3 c, .int .i64 0, .slice (some ⟨gm, 0, none⟩) 1 cm], .int .i64 0]) (by simp [results, Tryz.results35, go_sem, xz0, xz1, xz2, zf0, zf1, zf2]) rfl ⟨_, _, rfl, ?_, ?_⟩
              · exact grew_set_new (grew_set_new (grew_set_new HLZ.out.gs.grew (Nat.le_refl _) _ _) (Nat.le_refl _) _ _) (Nat.le_refl _) _ _
              · refine moves_au _ _ _ _ _ _ (fun b hb => by simp; exact hb.2) (fun b hb => ?_) HLZ.out.read
                rw [Below.heap_setCell _ _ _ _ (by show b ≠ w.heap.size; omega), Below.heap_setCell _ _ _ _ (by show b ≠ w.heap.size; omega), Below.heap_setCell _ _ _ _ (by show b ≠ w.heap.size; omega)]
end Go.Proofs.YtjpdmncafacmaaaGreatDoor
end
/- The reference's Copy of automata, and where the copy lies. -/
section
set_option linter.unusedVariables false
set_option linter.unusedSimpArgs false
namespace Go.Proofs.YtjpdmncafacmaaaGreatDoor
open Go.RowKit

/-- As RetU; the ranks lie below block `n0`, the rules from it on. -/
def RetU2 (w : World) (a : Au) (e : Ending) (w' : World) : Prop :=
  ∃ r m n0, e = .returned (.agg #[r, .int .i64 a.start, m]) ∧ Grew w w' ∧ WR AuR (Fresh w w') w' a [r, .int .i64 a.start, m] ∧ w.heap.size ≤ n0 ∧
    Own (WR RuleR) w' n0 49 1 (fun b => n0 ≤ b) m a.moves ∧ WR (RowS 1 IntR) (fun b => w.heap.size ≤ b ∧ b < n0) w' a.ranks [r]
set_option maxRecDepth 100000 in
set_option maxHeartbeats 2000000 in
theorem rcopy2_calls (a : Au) (hok : a.ok = true) (w : World) (r m : Value) (h : rdO AuR w a [r, .int .i64 a.start, m]) :
    Calls Tryz.prog 20 #[.agg #[r, .int .i64 a.start, m]] w (RetU2 w a) := by
  obtain ⟨hR, hM, hs1, hs2⟩ := AuR.parts h
  obtain ⟨A, c, rfl, hc, hlm⟩ := hR.val
  obtain ⟨B, d, rfl, hd, hlm2⟩ := hM.val
  have hla := (ok_rows hok).1
  have hlr := (ranksOk_parts (ok_parts hok).1).1
  have HOK := Lib.hid hok
  have HM := Lib.hid hM
  have HR := Lib.hid hR
  clear hok h hM hR
  obtain ⟨w2, hw2⟩ : ∃ w2, w2 = ((w.alloc (.cells #[.slice A a.ranks.length c, .int .i64 a.start, .slice B a.moves.length d] 25)).alloc (.cells #[.slice none 0 0, .int .i64 0, .slice none 0 0] 25)).alloc (.cells #[.slice none 0 0, .int .i64 a.start, .slice none 0 0] 25) := ⟨_, rfl⟩
  have hG2 : Grew w w2 := by rw [hw2]; exact grew_then_alloc (grew_then_alloc (grew_alloc _ _) _) _
  have xa : ThreeAt w2 w.heap.size (.slice A a.ranks.length c) (.int .i64 a.start) (.slice B a.moves.length d) 25 := by
    rw [hw2]; exact ((ThreeAt.new w _ _ _ _).frm (frm_alloc _ _)).frm (frm_alloc _ _)
  have xr : ThreeAt w2 (w.heap.size + 1) (.slice none 0 0) (.int .i64 0) (.slice none 0 0) 25 := by
    have h := ThreeAt.new (w.alloc (.cells #[.slice A a.ranks.length c, .int .i64 a.start, .slice B a.moves.length d] 25)) (.slice none 0 0) (.int .i64 0) (.slice none 0 0) 25
    rw [World.size_alloc] at h
    rw [hw2]; exact h.frm (frm_alloc _ _)
  have xo : ThreeAt w2 (w.heap.size + 2) (.slice none 0 0) (.int .i64 a.start) (.slice none 0 0) 25 := by
    have h := ThreeAt.new ((w.alloc (.cells #[.slice A a.ranks.length c, .int .i64 a.start, .slice B a.moves.length d] 25)).alloc (.cells #[.slice none 0 0, .int .i64 0, .slice none 0 0] 25)) (.slice none 0 0) (.int .i64 a.start) (.slice none 0 0) 25
    rw [World.size_alloc, World.size_alloc] at h
    rw [hw2]; exact h
  have HW2 := Lib.hid hw2
  clear hw2
  go_enter Tryz.func20, Tryz.ntmps20
  repeat ((fail_if_success at_builtin); first | go_values | go_skip | go_guarded | go_step | go_upon)
  rw [← HW2.out]
  have hS2 : Sl (fun b => b < w.heap.size) w2 1 (IntR (fun b => b < w.heap.size) w2) a.ranks (.slice A a.ranks.length c) :=
    Sl.move HR.out (fun b hb => hb) (frm_lt hG2.1) fun x _ cs h => moves_int _ _ _ _ _ _ (fun b hb => hb) (frm_lt hG2.1) h
  have hsz2 : w.heap.size + 2 < w2.heap.size := xo.lt
  obtain ⟨v3, w3, hrun, hO3, hg3, hp3⟩ := Own.app_sl moves_int elem_int (Own.nil IntR w2 w2.heap.size 3 1 (fun _ => True)) 22 hS2 (fun b hb => ⟨trivial, by omega, fun e => by cases e⟩) (fun x cs h u hu => by
    obtain ⟨rfl, _⟩ := h
    simp only [List.mem_cons, List.not_mem_nil, or_false] at hu
    subst hu
    rfl) (by simp; omega) (by omega) (Nat.le_refl _)
  refine append_list _ _ rfl rfl rfl rfl hrun ?_
  have hG23 : Grew w2 w3 := ⟨frm_weak hg3.1, hg3.2⟩
  rw [List.nil_append] at hO3
  obtain ⟨Ar, cr, rfl, hcr⟩ := hO3.val
  replace xa := xa.frm hG23.1
  replace xr := xr.frm hG23.1
  replace xo := xo.frm hG23.1
  have hs23 := hG23.1.size
  have hXO := xo.set0 (.slice Ar a.ranks.length cr)
  have hG3 : Grew w (w3.setCell ⟨w.heap.size + 2, 0, none⟩ (.slice Ar a.ranks.length cr)) := grew_set_new (grew_trans hG2 hG23) (by omega) _ _
  have hset : ∀ q, q ≠ w.heap.size + 2 → (w3.setCell ⟨w.heap.size + 2, 0, none⟩ (.slice Ar a.ranks.length cr)).heap[q]? = w3.heap[q]? := fun q hq => Below.heap_setCell _ _ _ _ hq
  have hW3 := (own_int (ok' := fun _ => False) hO3).slW moves_int (by omega) (S := fun b => w2.heap.size ≤ b ∧ b < w3.heap.size) (fun b h _ => h.elim) (fun b hb => hO3.lt b hb)
  have hW4 : WR (RowS 1 IntR) (fun b => w.heap.size + 2 < b ∧ b < w3.heap.size) (w3.setCell ⟨w.heap.size + 2, 0, none⟩ (.slice Ar a.ranks.length cr)) a.ranks [.slice Ar a.ranks.length cr] :=
    moves_WR (moves_row moves_int) _ _ _ _ _ _ (fun b hb => ⟨by omega, hb.2⟩) (fun b hb => hset b (by omega)) hW3
  have xa4 := xa.move (hset _ (by omega))
  have xr4 := xr.move (hset _ (by omega))
  have hfz := xo.free 0
  obtain ⟨ho0, ho1, ho2⟩ := xo.cells
  have hO4 : OutAt (w3.setCell ⟨w.heap.size + 2, 0, none⟩ (.slice Ar a.ranks.length cr)) (w.heap.size + 2) w3.heap.size (.slice Ar a.ranks.length cr) a.start (.slice none 0 0) [] :=
    ⟨hXO, by omega, by simp, Own.nil _ _ _ _ _ _⟩
  have hn3 : (w3.setCell ⟨w.heap.size + 2, 0, none⟩ (.slice Ar a.ranks.length cr)).heap.size = w3.heap.size := by simp
  generalize hw4 : w3.setCell ⟨w.heap.size + 2, 0, none⟩ (.slice Ar a.ranks.length cr) = w4 at *
  have HW4 := Lib.hid hW4
  have HO4 := Lib.hid hO4
  have HG3 := Lib.hid hG3
  obtain ⟨n0, hn0⟩ : ∃ n0, n0 = w3.heap.size := ⟨_, rfl⟩
  rw [← hn0] at hn3
  have hng : w.heap.size + 2 < n0 := by omega
  have HXA := Lib.hid xa4
  have HXR := Lib.hid xr4
  have HO4 : Hid (OutAt w4 (w.heap.size + 2) n0 (.slice Ar a.ranks.length cr) a.start (.slice none 0 0) []) := by rw [hn0]; exact hO4
  have HW5 : Hid (WR (RowS 1 IntR) (fun b => w.heap.size + 2 < b ∧ b < n0) w4 a.ranks [.slice Ar a.ranks.length cr]) := by rw [hn0]; exact hW4
  obtain ⟨ha0, ha1, ha2⟩ := xa4.cells
  clear hW4 hO4 hG3 hXO hset hW3 hS2 hrun hO3 hp3 xa xr xo xa4 xr4 hn0 HW4
  go_wp2_with fail
  clear hfz ho0 ho1 ho2 hw4
  go_loopw [24] (fun i wr => ∃ k : Nat, k ≤ a.moves.length ∧ i = .int .i64 k ∧ GrewG (w.heap.size + 2) n0 w4 wr ∧ ∃ mv, OutAt wr (w.heap.size + 2) n0 (.slice Ar a.ranks.length cr) a.start mv (a.moves.take k)) (fun i _ => a.moves.length - (intOf i).toNat)
  case atStart => exact ⟨0, Nat.zero_le _, rfl, .refl _ _ _, _, HO4.out⟩
  case round =>
    obtain ⟨k, hk, rfl, hfr, mv, hO⟩ := hrel
    have hGr : Grew w wr := GrewG.grew HG3.out (by omega) (by omega) hfr
    by_cases hlt : k < a.moves.length
    · obtain ⟨b, o, p0, rfl, hb, hp0', hpt⟩ := HM.out.at1 k hlt
      have hp0 := frm_cell hGr.1 hp0'
      have HT := Lib.hid (List.take_succ_eq_append_getElem hlt)
      have hlk : (a.moves.take k).length = k := by rw [List.length_take]; omega
      have HL := Lib.hid hlk
      have HRr := Lib.hid ((ok_rows HOK.out).2 _ (List.getElem_mem hlt))
      have hrl := HRr.out.1
      generalize a.moves[k] = row at *
      have hRow := row_val hpt
      obtain ⟨A2, c2, rfl, hc2, hm2⟩ := hRow.val
      have HRow := Lib.hid hRow
      have HO := Lib.hid hO
      have hlg := hO.1.lt
      have hnw := hO.2.2.1
      have HGr := Lib.hid hGr
      clear hO hlk hpt hRow hp0' hGr
      go_wp2_with fail
      obtain ⟨wo, hwo⟩ : ∃ wo : World, wo = wr := ⟨_, rfl⟩
      subst hwo
      go_loopw [6, 30] (fun u i wq => ∃ j : Nat, j ≤ row.length ∧ i = .int .i64 j ∧ Grew wo wq ∧ Own (WR AltsR) wq wo.heap.size 50 1 (fun b => wo.heap.size ≤ b) u (row.take j)) (fun _ i _ => row.length - (intOf i).toNat)
      case atStart => exact ⟨0, Nat.zero_le _, rfl, grew_refl _, Own.nil _ _ _ _ _ _⟩
      case round =>
        obtain ⟨j, hj, rfl, hfq, hQ⟩ := hrel
        obtain ⟨Aq, cq, he, hcq⟩ := hQ.val
        have hlj : (row.take j).length = j := by rw [List.length_take]; omega
        rw [hlj] at he hcq
        subst he
        by_cases hltj : j < row.length
        · obtain ⟨b3, o3, q0, rfl, hb3, hq0', hqt⟩ := HRow.out.at1 j hltj
          have hq0 := frm_cell (grew_trans HGr.out hfq).1 hq0'
          have HT2 := Lib.hid (List.take_succ_eq_append_getElem hltj)
          obtain ⟨hal1, hal2⟩ := HRr.out.2 _ (List.getElem_mem hltj)
          generalize row[j] = alts at *
          have hAl := row_val hqt
          obtain ⟨A3, c3, rfl, hc3, hm3⟩ := hAl.val
          have HAl := Lib.hid hAl
          have HAL2 := Lib.hid hal2
          have HQ := Lib.hid hQ
          have HLJ := Lib.hid hlj
          have HFQ := Lib.hid hfq
          clear hqt hAl hq0' hQ hlj hal2 hfq
          go_wp2_with fail
          obtain ⟨wi, hwi⟩ : ∃ wi : World, wi = wr := ⟨_, rfl⟩
          subst hwi
          go_loopw [9, 36] (fun u i wz => ∃ l : Nat, l ≤ alts.length ∧ i = .int .i64 l ∧ Grew wi wz ∧ Own (WR AltR) wz wi.heap.size 76 1 (fun b => wi.heap.size ≤ b) u (alts.take l)) (fun _ i _ => alts.length - (intOf i).toNat)
          case atStart => exact ⟨0, Nat.zero_le _, rfl, grew_refl _, Own.nil _ _ _ _ _ _⟩
          case round =>
            obtain ⟨l, hl, rfl, hfz, hZ⟩ := hrel
            obtain ⟨Az, cz, he, hcz⟩ := hZ.val
            have hll : (alts.take l).length = l := by rw [List.length_take]; omega
            rw [hll] at he hcz
            subst he
            by_cases hltl : l < alts.length
            · obtain ⟨b4, o4, z0, rfl, hb4, hz0', hzt⟩ := HAl.out.at1 l hltl
              have hGz := grew_trans (grew_trans HGr.out HFQ.out) hfz
              have hz0 := frm_cell hGz.1 hz0'
              have HT3 := Lib.hid (List.take_succ_eq_append_getElem hltl)
              have hnl := (HAL2.out _ (List.getElem_mem hltl)).1
              generalize alts[l] = x at *
              have hX := row_val hzt
              obtain ⟨A4, c4, rfl, hc4, hm4⟩ := hX.val
              have HX := Lib.hid hX
              have HZ := Lib.hid hZ
              have HLL := Lib.hid hll
              clear hzt hX hz0' hZ hll
              repeat ((fail_if_success at_builtin); first | go_values | go_skip | go_guarded | go_step | go_upon)
              have hO5 := Own.empty NdR wr 80 2 (fun _ => True) (Nat.le_refl wr.heap.size)
              have hGz5 := grew_then_alloc hGz (.cells #[] 80)
              have hS5 : Sl (fun b => b < w.heap.size) (wr.alloc (.cells #[] 80)) 2 (NdR (fun b => b < w.heap.size) (wr.alloc (.cells #[] 80))) x (.slice A4 x.length c4) :=
                Sl.move HX.out (fun b hb => hb) (frm_lt hGz5.1) fun x _ cs h => moves_nd _ _ _ _ _ _ (fun b hb => hb) (frm_lt hGz5.1) h
              have hszr := hGz.1.size
              obtain ⟨v6, w6, hrun, hO6, hg6, hp6⟩ := Own.app_sl moves_nd elem_nd hO5 76 hS5 (fun b hb => ⟨trivial, by simp; omega, fun e => by
                have e2 : some b = some wr.heap.size := e
                injection e2 with e2
                omega⟩) (fun x cs h => one_nd h) (by simp; omega) (by omega) (by simp)
              refine append_list _ _ rfl rfl rfl rfl hrun ?_
              have hG6 : Grew wr w6 := grew_new (grew_alloc wr _) (Nat.le_refl _) hg6
              rw [List.nil_append] at hO6
              have hl6 := hO6.lt
              have hW6 : WR AltR (fun b => wr.heap.size ≤ b ∧ b < w6.heap.size) w6 x [v6] := Own.slW (r := NdR) moves_nd (ok := fun _ => False) (show Own (WR NdR) w6 wr.heap.size _ 2 (fun _ => False) v6 x from hO6) (by omega) (fun b h _ => h.elim) (fun b hb => hl6 b hb)
              obtain ⟨A6, c6, rfl, hc6⟩ := hO6.val
              have HW6 := Lib.hid hW6
              have HL6 := Lib.hid hl6
              clear hrun hO6 hO5 hS5 hW6 hl6 hp6
              repeat ((fail_if_success at_builtin); first | go_values | go_skip | go_guarded | go_step | go_upon)
              have hf7 : Grew wr (w6.alloc (.cells #[.slice A6 x.length c6] 76)) := grew_then_alloc hG6 _
              have hO7 := HZ.out.kept (moves_WR moves_alt) hf7.1 (ownNone _) (by simp)
              have htw := OneAt.new w6 (.slice A6 x.length c6) 76
              have hlen := HLL.out
              have hs6 := hG6.1.size
              have hsi := hfz.1.size
              have hltO := HZ.out.lt
              refine Own.app1 (moves_WR moves_alt) elem_alt hO7 rfl _ _ rfl rfl rfl x [.slice A6 x.length c6] rfl (one_at htw) ?_ ?_ (by rw [hlen]; omega) (by omega) (by simp; omega) ?_
              · intro u hu
                simp at hu
                subst hu
                rfl
              · refine moves_WR moves_alt _ _ _ _ _ _ (fun q hq => ⟨by omega, by simp; omega, fun e => ?_⟩) (fun q hq => Below.heap_alloc _ _ _ (by omega)) HW6.out
                have := (hltO q e.symm).2
                omega
              intro v8 w8 hO8 hg8 hp8
              have hfr8 : Grew wi w8 := grew_own (grew_trans hfz hf7) (fun b hb => (hltO b hb).1) hg8.1 hg8.2
              rw [← HT3.out] at hO8
              obtain ⟨A8, c8, he8, hcc8⟩ := hO8.val
              have HO8 := Lib.hid hO8
              clear hO8 hO7 htw hltO
              rw [show (alts.take (l + 1)).length = l + 1 by rw [List.length_take]; omega] at he8
              subst he8
              go_wp2_with fail
              exact ⟨⟨l + 1, by omega, by go_num, hfr8, HO8.out⟩, by simp [intOf]; omega⟩
            · obtain rfl : l = alts.length := by omega
              rw [List.take_length] at hZ
              have hsi := hfz.1.size
              have hWz := hZ.slW moves_alt (by omega) (S := fun b => wi.heap.size ≤ b ∧ b < wr.heap.size) (fun b h1 h2 => ⟨h1, h2⟩) (fun b hb => hZ.lt b hb)
              have HWz := Lib.hid hWz
              clear hZ hll hWz
              repeat ((fail_if_success at_builtin); first | go_values | go_skip | go_guarded | go_step | go_upon)
              have hf5 : Grew wi (wr.alloc (.cells #[.slice Az alts.length cz] 50)) := grew_then_alloc hfz _
              have hO5 := HQ.out.kept (moves_WR moves_alts) hf5.1 (ownNone _) (by simp)
              have htw := OneAt.new wr (.slice Az alts.length cz) 50
              have hlen := HLJ.out
              have hso := HFQ.out.1.size
              have hltO := HQ.out.lt
              refine Own.app1 (moves_WR moves_alts) elem_alts hO5 rfl _ _ rfl rfl rfl alts [.slice Az alts.length cz] rfl (one_at htw) ?_ ?_ (by rw [hlen]; omega) (by omega) (by simp; omega) ?_
              · intro u hu
                simp at hu
                subst hu
                rfl
              · refine moves_WR moves_alts _ _ _ _ _ _ (fun q hq => ⟨by omega, by simp; omega, fun e => ?_⟩) (fun q hq => Below.heap_alloc _ _ _ (by omega)) HWz.out
                have := (hltO q e.symm).2
                omega
              intro v7 w7 hO7 hg7 hp7
              have hfr7 : Grew wo w7 := grew_own (grew_trans HFQ.out hf5) (fun b hb => (hltO b hb).1) hg7.1 hg7.2
              rw [← HT2.out] at hO7
              obtain ⟨A7, c7, he7, hcc7⟩ := hO7.val
              have HO7 := Lib.hid hO7
              clear hO7 hO5 htw hltO
              rw [show (row.take (j + 1)).length = j + 1 by rw [List.length_take]; omega] at he7
              subst he7
              go_wp2_with fail
              exact ⟨⟨j + 1, by omega, by go_num, hfr7, HO7.out⟩, by simp [intOf]; omega⟩
        · obtain rfl : j = row.length := by omega
          rw [List.take_length] at hQ
          have hO1 := HO.out.grew hfq
          obtain ⟨hc0, hc1, hc2'⟩ := hO1.1.cells
          obtain ⟨Am, cm, hme, hmc⟩ := hO1.2.2.2.val
          rw [HL.out] at hme hmc
          subst hme
          have hsq := hfq.1.size
          have hWq := hQ.slW moves_alts (by omega) (S := fun b => wo.heap.size ≤ b ∧ b < wr.heap.size) (fun b h1 h2 => ⟨h1, h2⟩) (fun b hb => hQ.lt b hb)
          have HWq := Lib.hid hWq
          have HO1 := Lib.hid hO1
          clear hWq hQ hO1 hlj
          repeat ((fail_if_success at_builtin); first | go_values | go_skip | go_guarded | go_step | go_upon)
          have hf5 : Grew wr (wr.alloc (.cells #[.slice Aq row.length cq] 49)) := grew_alloc _ _
          have hO5 := (HO1.out.grew hf5)
          have htw := OneAt.new wr (.slice Aq row.length cq) 49
          have hlen := HL.out
          have hltO := hO5.2.2.2.lt
          have hltO1 := HO1.out.2.2.2.lt
          refine Own.app1 (moves_WR moves_rule) elem_rule hO5.2.2.2 rfl _ _ rfl rfl rfl row [.slice Aq row.length cq] rfl (one_at htw) ?_ ?_ (by rw [hlen]; omega) (by omega) (by simp; omega) ?_
          · intro u hu
            simp at hu
            subst hu
            rfl
          · refine moves_WR moves_rule _ _ _ _ _ _ (fun q hq => ⟨by omega, by simp; omega, fun e => ?_⟩) (fun q hq => Below.heap_alloc _ _ _ (by omega)) HWq.out
            have hO2 := HO.out.2.2.2.lt q e.symm
            omega
          intro v7 w7 hO7 hg7 hp7
          rw [← HT.out] at hO7
          have hT7 : ThreeAt w7 (w.heap.size + 2) (.slice Ar a.ranks.length cr) (.int .i64 a.start) (.slice Am k cm) 25 := hO5.1.move (hg7.1.block _ (by simp; omega) (fun e => by have := (hltO _ e.symm).1; omega))
          have hG7 : GrewG (w.heap.size + 2) n0 wo w7 := (GrewG.of (grew_trans hfq hf5) (by omega)).trans (.ofR hg7 (by simp; omega) (fun q hq => by have := (hltO q hq).1; omega))
          obtain ⟨A7, c7, he7, hcc7⟩ := hO7.val
          rw [show (a.moves.take (k + 1)).length = k + 1 by rw [List.length_take]; omega] at he7
          have hT8 := hT7.set2 v7
          have hO8 := hO7.kept (moves_WR moves_rule) (w' := w7.setCell ⟨w.heap.size + 2, 2, none⟩ v7) (row := some (w.heap.size + 2)) (frm_set (frm_refl _ _) _ _) (.inr fun e => by have := (hO7.lt _ e).1; omega) (fun q hq e => by injection e with e; omega)
          have HG8 := Lib.hid (hfr.trans (hG7.set 2 v7))
          obtain ⟨hd0, hd1, hd2⟩ := hT7.cells
          have hfz7 := hT7.free 2
          have HO8 := Lib.hid (show OutAt (w7.setCell ⟨w.heap.size + 2, 2, none⟩ v7) (w.heap.size + 2) n0 (.slice Ar a.ranks.length cr) a.start v7 (a.moves.take (k + 1)) from ⟨hT8, by omega, by have := hg7.1.size; simp at this ⊢; omega, hO8⟩)
          clear hO7 hO5 htw hltO hO8 hT8 hT7 hG7
          subst he7
          go_wp2_with fail
          exact ⟨⟨k + 1, by omega, by go_num, HG8.out, _, HO8.out⟩, by simp [intOf]; omega⟩
    · obtain rfl : k = a.moves.length := by omega
      rw [List.take_length] at hO
      obtain ⟨hO1, _, hnw, hO2⟩ := hO
      have hsl9 := hO2.slW moves_rule (S := fun q => w.heap.size + 2 < q ∧ q < wr.heap.size) (by omega) (fun q h1 h2 => ⟨by omega, h2⟩) (fun q hq => by have := hO2.lt q hq; omega)
      have hrk9 : WR (RowS 1 IntR) (fun q => w.heap.size + 2 < q ∧ q < wr.heap.size) wr a.ranks [.slice Ar a.ranks.length cr] :=
        moves_WR (moves_row moves_int) _ _ _ _ _ _ (fun q hq => ⟨by omega, by omega⟩) (fun q hq => hfr.block q (by omega) (by omega)) HW5.out
      obtain ⟨Am, cm, hme, hmc⟩ := hO2.val
      subst hme
      have HAU : Hid (WR AuR (fun q => w.heap.size + 2 < q ∧ q < wr.heap.size) wr a [.slice Ar a.ranks.length cr, .int .i64 a.start, .slice Am a.moves.length cm]) := ⟨_, _, rfl, hrk9, hsl9, hs1, hs2⟩
      obtain ⟨he0, he1, he2⟩ := hO1.cells
      have xr9 := HXR.out.move (hfr.block _ (by omega) (by omega))
      obtain ⟨hx0, hx1, hx2⟩ := xr9.cells
      have hxf0 := xr9.free 0
      have hxf1 := xr9.free 1
      have hxf2 := xr9.free 2
      have HO2 := Lib.hid hO2
      have hlt2 := hO2.lt
      have HRK : Hid (WR (RowS 1 IntR) (fun q => w.heap.size + 2 < q ∧ q < n0) wr a.ranks [.slice Ar a.ranks.length cr]) :=
        moves_WR (moves_row moves_int) _ _ _ _ _ _ (fun q hq => hq) (fun q hq => hfr.block q (by omega) (by omega)) HW5.out
      clear hsl9 hrk9 hO2 hO1 xr9
      go_wp2_with fail
      refine bodyPost_ret (v := .agg #[.slice Ar a.ranks.length cr, .int .i64 a.start, .slice Am a.moves.length cm]) (by simp [results, Tryz.results20, go_sem, hx0, hx1, hx2, hxf0, hxf1, hxf2]) rfl ⟨_, _, n0, rfl, ?_, ?_, by omega, ?_, ?_⟩
      · exact grew_set_new (grew_set_new (grew_set_new hGr (by omega) _ _) (by omega) _ _) (by omega) _ _
      · refine moves_WR moves_au _ _ _ _ _ _ (fun q hq => ⟨by omega, by simp; omega⟩) (fun q hq => ?_) HAU.out
        rw [Below.heap_setCell _ _ _ _ (by show q ≠ w.heap.size + 1; omega), Below.heap_setCell _ _ _ _ (by show q ≠ w.heap.size + 1; omega), Below.heap_setCell _ _ _ _ (by show q ≠ w.heap.size + 1; omega)]
      · have h := HO2.out.kept (moves_WR moves_rule) (w' := ((wr.setCell ⟨w.heap.size + 1, 0, none⟩ (.slice Ar a.ranks.length cr)).setCell ⟨w.heap.size + 1, 1, none⟩ (.int .i64 a.start)).setCell ⟨w.heap.size + 1, 2, none⟩ (.slice Am a.moves.length cm)) (row := some (w.heap.size + 1))
          (frm_set (frm_set (frm_set (frm_refl _ _) _ _) _ _) _ _) (.inr fun e => by have := hlt2 _ e; omega) (fun b hb e => by injection e with e; omega)
        exact h.ok_mono (moves_WR moves_rule) (fun b h _ => by omega)
      · refine moves_WR (moves_row moves_int) _ _ _ _ _ _ (fun q hq => ⟨by omega, by omega⟩) (fun q hq => ?_) HRK.out
        rw [Below.heap_setCell _ _ _ _ (by show q ≠ w.heap.size + 1; omega), Below.heap_setCell _ _ _ _ (by show q ≠ w.heap.size + 1; omega), Below.heap_setCell _ _ _ _ (by show q ≠ w.heap.size + 1; omega)]
end Go.Proofs.YtjpdmncafacmaaaGreatDoor
end
/- The reference's dual of one list of lists, walked. -/
section
set_option linter.unusedVariables false
set_option linter.unusedSimpArgs false
namespace Go.Proofs.YtjpdmncafacmaaaGreatDoor
open Go.RowKit

/-- A list of lists that lies in blocks from `n0` on. -/
abbrev SlN (n0 : Nat) (w : World) (xs : List (List Nd)) (v : Value) : Prop := Sl (fun b => n0 ≤ b ∧ b < w.heap.size) w 1 (AltR (fun b => n0 ≤ b ∧ b < w.heap.size) w) xs v
theorem SlN.old {n0 : Nat} {w : World} {xs : List (List Nd)} {v : Value} (h : SlN n0 w xs v) : SlO w 1 (rdO AltR) xs v := h.move (fun b hb => hb.2) (fun b hb => rfl) fun x _ cs h => moves_alt _ _ _ _ _ _ (fun b hb => hb.2) (fun b hb => rfl) h
theorem nil_alt {S : Nat → Prop} {w : World} : AltR S w [] [.slice none 0 0] := ⟨_, rfl, none, 0, rfl, Nat.le_refl _, by simp, fun h => absurd h (by simp)⟩
theorem nil_lists {w : World} {g n0 : Nat} {T : TypeId} (hg : g < w.heap.size) (hn : n0 ≤ g) (h : OneAt w g (.slice none 0 0) T) : SlN n0 w [[]] (.slice (some ⟨g, 0, none⟩) 1 1) := by
  refine ⟨_, 1, rfl, Nat.le_refl _, by simp, fun _ => ⟨g, 0, rfl, ⟨hn, hg⟩, fun i hi => ⟨[.slice none 0 0], rfl, fun j hj => ?_, ?_⟩⟩⟩
  · match i, hi, j, hj with
    | 0, _, 0, _ => exact one_at h 0 _ rfl
  · match i, hi with
    | 0, _ => exact nil_alt
/-- A list of one need, in a new block. -/
theorem one_nd_alt {w : World} {g : Nat} {T : TypeId} {x : Nd} (hx : (-9223372036854775808 ≤ x.1 ∧ x.1 ≤ 9223372036854775807) ∧ -9223372036854775808 ≤ x.2 ∧ x.2 ≤ 9223372036854775807) (hg : g < w.heap.size) (h : TwoAt w g (.int .i64 x.1) (.int .i64 x.2) T) : rdO AltR w [x] [.slice (some ⟨g, 0, none⟩) 1 1] := by
  refine ⟨_, rfl, _, 1, rfl, Nat.le_refl _, by simp, fun _ => ⟨g, 0, rfl, hg, fun i hi => ⟨[.int .i64 x.1, .int .i64 x.2], rfl, fun j hj => ?_, ?_⟩⟩⟩
  · match i, hi, j, hj with
    | 0, _, 0, _ => exact h.cells.1
    | 0, _, 1, _ => exact h.cells.2.1
  · match i, hi with
    | 0, _ => exact ⟨rfl, hx⟩

set_option maxRecDepth 100000 in
set_option maxHeartbeats 2000000 in
theorem dual1_calls (l : List (List Nd)) (w : World) (v : Value) (hs : SlO w 1 (rdO AltR) l v) (hb : l.length ≤ 100000) (hB : DualBd l) :
    Calls Tryz.prog 81 #[v] w fun e w' => ∃ z, e = .returned z ∧ Grew w w' ∧ SlN w.heap.size w' (dualP l) z := by
  obtain ⟨A, c, rfl, hc, hm⟩ := hs.val
  have hs1 : SlO (w.alloc (.cells #[.slice none 0 0] 76)) 1 (rdO AltR) l (.slice A l.length c) := hs.frm (frm_alloc _ _) (stays_rd moves_alt)
  have HSm := Lib.hid (smallest_calls l (w.alloc (.cells #[.slice none 0 0] 76)) (.slice A l.length c) (S := fun b => b < (w.alloc (.cells #[.slice none 0 0] 76)).heap.size) (fun _ h => h) hs1 hb)
  have htw := OneAt.new w (.slice none 0 0) 76
  have hlen : (smallest l).length ≤ 100000 := Nat.le_trans (smallTo_len _ _) hb
  have HB := Lib.hid hB
  unfold dualP
  unfold DualBd at HB
  clear hs hB hs1
  generalize smallest l = fs at *
  go_enter Tryz.func81, Tryz.ntmps81
  go_wp2_with fail
  refine HSm.out.mono ?_
  rintro e w1 ⟨z1, rfl, hf1, hO1⟩
  have hf01 : Grew w w1 := grew_trans (grew_alloc _ _) hf1
  have hFS : SlO w1 1 (rdO AltR) fs z1 := hO1.sl moves_alt (by omega) (fun b _ h => h) (fun b _ h => h)
  obtain ⟨A1, c1, rfl, hc1, _⟩ := hFS.val
  have HFS := Lib.hid hFS
  have hg1 : w.heap.size < w1.heap.size := by have := hf1.1.size; simp at this; omega
  have HG0 := Lib.hid (nil_lists hg1 (Nat.le_refl _) (htw.move (frm_lt hf1.1 _ (by simp))))
  have HF01 := Lib.hid hf01
  clear hO1 hFS htw hf01 hf1 HSm
  dsimp only
  go_wp2_with fail
  go_loopw [3, 15] (fun z i wr => ∃ (k n : Nat) (B : Option Addr) (d : Nat), k ≤ fs.length ∧ i = .int .i64 k ∧ z = .slice B n d ∧ n = (gotP (fs.take k)).length ∧ Grew w1 wr ∧ SlN w.heap.size wr (gotP (fs.take k)) z) (fun _ i _ => fs.length - (intOf i).toNat)
  case atStart => exact ⟨0, 1, _, 1, Nat.zero_le _, rfl, rfl, rfl, grew_refl _, HG0.out⟩
  case round =>
    obtain ⟨k, n, B, d, hk, rfl, rfl, hn, hfr, hGN⟩ := hrel
    have hG := hGN.old
    have HGN := Lib.hid hGN
    clear hGN
    have HN := Lib.hid hn
    have HG := Lib.hid hG
    have HFR := Lib.hid hfr
    clear hn hG
    by_cases hlt : k < fs.length
    · obtain ⟨b, o, p0, rfl, hb0, hp0', hpt⟩ := HFS.out.at1 k hlt
      have hp0 := frm_cell hfr.1 hp0'
      obtain ⟨A2, c2, rfl⟩ := row_slice hpt
      have HPT := Lib.hid (RowS.sl (rdO_frm moves_alt hfr.1 hpt))
      obtain ⟨hbd, hbl⟩ := HB.out k hlt
      have HT := Lib.hid (gotP_take hlt)
      rw [← HN.out] at hbd
      have HBL := Lib.hid hbl
      clear hpt hp0' hbl
      generalize fs[k] = fst at *
      generalize gotP (fs.take k) = got at *
      have hn := HN.out
      clear HN
      subst hn
      have hgm : got.length ≤ 140737488351232 := by obtain ⟨_, _, _, _, h⟩ := HG.out.val; exact h
      have hpm : fst.length ≤ 140737488351232 := by obtain ⟨_, _, _, _, h⟩ := HPT.out.val; exact h
      go_wp2_with fail
      obtain ⟨wf, hwf⟩ : ∃ wf : World, wf = wr := ⟨_, rfl⟩
      subst hwf
      go_loopw [6, 21] (fun z i wq => ∃ (j m : Nat) (E : Option Addr) (g : Nat), j ≤ got.length ∧ i = .int .i64 j ∧ z = .slice E m g ∧ m = (moreP (got.take j) fst).length ∧ Grew wf wq ∧ Own AltR wq wf.heap.size 76 1 (fun q => False ∨ wf.heap.size ≤ q) z (moreP (got.take j) fst)) (fun _ i _ => got.length - (intOf i).toNat)
      case atStart => exact ⟨0, 0, none, 0, Nat.zero_le _, rfl, rfl, rfl, grew_refl _, Own.nil _ _ _ _ _ _⟩
      case round =>
        obtain ⟨j, m, E, g, hj, rfl, rfl, hm1, hfj, hO⟩ := hrel
        have HM := Lib.hid hm1
        have HO := Lib.hid hO
        have HFJ := Lib.hid hfj
        have hml := moreP_len fst got j hj
        rw [← hm1] at hml
        have hjl : j * fst.length ≤ got.length * fst.length := Nat.mul_le_mul_right _ hj
        have HJL := Lib.hid hjl
        have HML := Lib.hid hml
        clear hm1 hO hml hjl
        by_cases hltj : j < got.length
        · obtain ⟨b2, o2, q0, rfl, hb2, hq0', hqt⟩ := HG.out.at1 j hltj
          have hq0 := frm_cell hfj.1 hq0'
          obtain ⟨A3, c3, rfl⟩ := row_slice hqt
          have HQT := Lib.hid (rdO_frm moves_alt hfj.1 hqt)
          have HT1 := Lib.hid (moreP_take (fst := fst) hltj)
          have hxl := HBL.out _ (List.getElem_mem hltj)
          have hjl1 : (j + 1) * fst.length ≤ got.length * fst.length := Nat.mul_le_mul_right _ hltj
          rw [Nat.add_mul, Nat.one_mul] at hjl1
          have HJL1 := Lib.hid hjl1
          clear hqt hq0' hjl1
          generalize got[j] = base at *
          generalize moreP (got.take j) fst = mo at *
          have hmm := HM.out
          clear HM
          subst hmm
          obtain ⟨jl, hjl⟩ : ∃ jl, jl = j * fst.length := ⟨_, rfl⟩
          obtain ⟨gl, hgl⟩ : ∃ gl, gl = got.length * fst.length := ⟨_, rfl⟩
          rw [← hjl] at HJL HML HJL1
          rw [← hgl] at HJL HJL1 hbd
          have HJLE := Lib.hid hjl
          have HGLE := Lib.hid hgl
          clear hjl hgl
          go_wp2_with fail
          obtain ⟨wg, hwg⟩ : ∃ wg : World, wg = wr := ⟨_, rfl⟩
          subst hwg
          go_loopw [6, 27] (fun z i wq => ∃ (p m : Nat) (E : Option Addr) (g : Nat), p ≤ fst.length ∧ i = .int .i64 p ∧ z = .slice E m g ∧ m = (mixN base (fst.take p) mo).length ∧ Grew wg wq ∧ Own AltR wq wf.heap.size 76 1 (fun q => False ∨ wf.heap.size ≤ q) z (mixN base (fst.take p) mo)) (fun _ i _ => fst.length - (intOf i).toNat)
          case atStart => exact ⟨0, mo.length, E, g, Nat.zero_le _, rfl, rfl, rfl, grew_refl _, HO.out⟩
          case round =>
            obtain ⟨p, m2, E2, g2, hp, rfl, rfl, hm2, hfp, hO2⟩ := hrel
            have HM2 := Lib.hid hm2
            have HO2 := Lib.hid hO2
            have HFP := Lib.hid hfp
            have hml2 := mixN_len base (fst.take p) mo
            rw [← hm2, List.length_take] at hml2
            have HML2 := Lib.hid hml2
            clear hm2 hO2 hml2
            by_cases hltp : p < fst.length
            · have hgp := grew_trans HFJ.out hfp
              obtain ⟨b4, o4, y0, y1, h4e, hb4, hy0', hy1', hyt⟩ := HPT.out.at2 p hltp
              subst h4e
              have hy0 := frm_cell hgp.1 hy0'
              have hy1 := frm_cell hgp.1 hy1'
              obtain ⟨hyv, hyb⟩ := hyt
              simp only [List.cons.injEq, and_true] at hyv
              obtain ⟨rfl, rfl⟩ := hyv
              have HT2 := Lib.hid (mixN_take (base := base) (m := mo) hltp)
              clear hy0' hy1'
              generalize fst[p] = y at *
              have hal : Grew wr ((wr.alloc (.cells #[.int .i64 y.1, .int .i64 y.2] 80)).alloc (.cells #[.int .i64 y.1, .int .i64 y.2] 80)) := grew_then_alloc (grew_alloc _ _) _
              have HU := Lib.hid (uni_read (rdO_frm moves_alt (grew_trans hfp hal).1 HQT.out) (one_nd_alt hyb (by simp) (TwoAt.new2 wr (.cells #[.int .i64 y.1, .int .i64 y.2] 80) (.int .i64 y.1) (.int .i64 y.2) 80)) (by omega) (by simp) (by have := uni_len base [y]; simp at this; omega))
              have HAL := Lib.hid hal
              clear hal
              go_wp2_with fail
              refine HU.out.mono ?_
              rintro e w10 ⟨A10, c10, rfl, hf10, hr10⟩
              have hw10 := grew_trans HAL.out hf10
              have hsz1 := hf10.1.size
              have hsz2 := HAL.out.1.size
              have hsz3 := hgp.1.size
              have hI := ins_own (okf := fun _ => False) (base := wf.heap.size) (show wf.heap.size ≤ w10.heap.size by omega) (HO2.out.kept moves_alt hw10.1 (ownNone _) (by simp)) (moves_alt _ _ _ _ _ _ (fun q hq => ⟨.inr (by have := hq.1; omega), hq.2⟩) (fun _ _ => rfl) hr10) (by have a := HM2.out; have b := HML2.out; have c := HML.out; have d := HJL1.out; omega)
              rw [← HT2.out] at hI
              obtain ⟨m3, hm3⟩ : ∃ m3, m3 = (mixN base (fst.take (p + 1)) mo).length := ⟨_, rfl⟩
              rw [← hm3] at hI
              have HI := Lib.hid hI
              have HM3 := Lib.hid hm3
              have HW10 := Lib.hid hw10
              clear hI hm3 hr10 hw10 hsz1 hsz2 hsz3 hf10
              generalize (uni base [y]).length = ul at *
              dsimp only
              go_wp2_with fail
              refine HI.out.mono ?_
              rintro e w11 ⟨A11, c11, rfl, hf11, hO11⟩
              have HO11 := Lib.hid hO11
              clear hO11
              dsimp only
              go_wp2_with fail
              exact ⟨⟨p + 1, m3, A11, c11, by omega, by go_num, rfl, HM3.out, grew_trans hfp (grew_trans HW10.out hf11), HO11.out⟩, by simp [intOf]; omega⟩
            · have hpe : p = fst.length := by omega
              have h := HO2.out
              rw [hpe, List.take_length, ← HT1.out] at h
              have h2 := HM2.out
              rw [hpe, List.take_length, ← HT1.out] at h2
              go_wp2_with fail
              exact ⟨⟨j + 1, m2, E2, g2, by omega, by go_num, rfl, h2, grew_trans HFJ.out hfp, h⟩, by simp [intOf]; omega⟩
        · have hje : j = got.length := by omega
          have h := HO.out
          have h2 := HM.out
          have h3 := HML.out
          have h4 := HJL.out
          rw [hje, List.take_length] at h h2
          have HT3 := Lib.hid HT.out
          generalize moreP got fst = mo at *
          subst h2
          have hS := Lib.hid (smallest_calls mo wr (.slice E mo.length g) (S := fun q => wf.heap.size ≤ q ∧ q < wr.heap.size) (fun _ h => h.2) (h.sl moves_alt (by omega) (fun q h1 h => ⟨h1.elim False.elim id, h⟩) (fun q h1 h => ⟨h1, h⟩)) (by omega))
          go_wp2_with fail
          refine hS.out.mono ?_
          rintro e w7 ⟨z7, rfl, hf7, hO7⟩
          have hf17 : Grew w1 w7 := grew_trans HFR.out (grew_trans hfj hf7)
          have hsl : (smallest mo).length ≤ mo.length := smallTo_len mo mo.length
          have hwf0 := (grew_trans HF01.out HFR.out).1.size
          have hwr0 := hfj.1.size
          have h7 : SlN w.heap.size w7 (smallest mo) z7 := hO7.sl moves_alt (by omega) (fun b hb h => ⟨by have := hb.1; omega, h⟩) (fun b hb h => ⟨by omega, h⟩)
          rw [← HT3.out] at h7
          obtain ⟨A7, c7, he7, _⟩ := h7.val
          have H7 := Lib.hid h7
          obtain ⟨n7, hn7⟩ : ∃ n7, n7 = (gotP (fs.take (k + 1))).length := ⟨_, rfl⟩
          rw [← hn7] at he7
          have HN7 := Lib.hid hn7
          have HF17 := Lib.hid hf17
          subst he7
          clear h7 hn7 hsl hO7 hf17
          dsimp only
          go_wp2_with fail
          exact ⟨⟨k + 1, n7, A7, c7, by omega, by go_num, rfl, HN7.out, HF17.out, H7.out⟩, by simp [intOf]; omega⟩
    · have hke : k = fs.length := by omega
      subst hke
      have h := HGN.out
      rw [List.take_length] at h
      go_wp2_with fail
      exact bodyPost_ret (results_tmp rfl _ _ _) rfl ⟨.slice B n d, rfl, grew_trans HF01.out hfr, h⟩
end Go.Proofs.YtjpdmncafacmaaaGreatDoor
end
/- The reference's Dual of an automaton of one state. -/
section
set_option linter.unusedVariables false
set_option linter.unusedSimpArgs false
namespace Go.Proofs.YtjpdmncafacmaaaGreatDoor
open Go.RowKit

/-- The first `f` cells of the row in block `br` are made. -/
def DI (wc wr : World) (br o L f : Nat) (row : List (List (List Nd))) : Prop :=
  GrewR wc wr (some br) ∧ (∀ j (h : j < row.length), j < f → ∃ v, wr.cell? ⟨br, o + j, none⟩ = some v ∧ AltsR (fun b => wc.heap.size ≤ b ∧ b < wr.heap.size) wr (dualP row[j]) [v]) ∧ (∀ j, j < L → ∃ v, wr.cell? ⟨br, o + j, none⟩ = some v) ∧ Unf wr br
theorem DI.grew {wc wr w' : World} {br o L f : Nat} {row : List (List (List Nd))} (h : DI wc wr br o L f row) (hb : br < wc.heap.size) (hg : Grew wr w') : DI wc w' br o L f row := by
  obtain ⟨h1, h2, h3, h4⟩ := h
  have hs := h1.1.size
  refine ⟨grewR_trans h1 (grewR_weak hg), fun j hj hf => ?_, fun j hj => ?_, h4.move (frm_lt hg.1 br (by omega))⟩
  · obtain ⟨v, q1, q2⟩ := h2 j hj hf
    have hs2 := hg.1.size
    exact ⟨v, frm_cell hg.1 q1, moves_alts _ _ _ _ _ _ (fun b hb => ⟨hb.1, by omega⟩) (fun b hb => frm_lt hg.1 b hb.2) q2⟩
  · obtain ⟨v, q1⟩ := h3 j hj
    exact ⟨v, frm_cell hg.1 q1⟩
theorem DI.put {wc wr w5 : World} {br o L f : Nat} {row : List (List (List Nd))} {v : Value} (h : DI wc wr br o L f row) (hb : br < wc.heap.size) (hg : Grew wr w5) (hf : f < row.length) (hL : L = row.length) (hv : AltsR (fun b => wr.heap.size ≤ b ∧ b < w5.heap.size) w5 (dualP row[f]) [v]) :
    DI wc (w5.setCell ⟨br, o + f, none⟩ v) br o L (f + 1) row := by
  obtain ⟨h1, h2, h3, h4⟩ := h.grew hb hg
  have hs := h.1.1.size
  have hmv : ∀ q, q ≠ br → (w5.setCell ⟨br, o + f, none⟩ v).heap[q]? = w5.heap[q]? := fun q hq => Below.heap_setCell _ _ _ _ (by show q ≠ br; exact hq)
  refine ⟨grewR_set h1 _ _, fun j hj hjf => ?_, fun j hj => ?_, fun i => ?_⟩
  · by_cases hjj : j = f
    · subst hjj
      obtain ⟨u, hu⟩ := h3 j (by omega)
      refine ⟨v, World.cell?_setCell_same _ _ _ hu, ?_⟩
      exact moves_alts _ _ _ _ _ _ (fun b hb => ⟨by omega, by simpa using hb.2⟩) (fun b hb => hmv b (by omega)) hv
    · obtain ⟨u, q1, q2⟩ := h2 j hj (by omega)
      refine ⟨u, ?_, ?_⟩
      · rw [World.cell?_setCell_other _ _ _ _ (by intro e; injection e with e1 e2; omega)]
        exact q1
      · exact moves_alts _ _ _ _ _ _ (fun b hb => ⟨hb.1, by simpa using hb.2⟩) (fun b hb => hmv b (by omega)) q2
  · by_cases hjj : j = f
    · subst hjj
      obtain ⟨u, hu⟩ := h3 j hj
      exact ⟨v, World.cell?_setCell_same _ _ _ hu⟩
    · obtain ⟨u, q1⟩ := h3 j hj
      refine ⟨u, ?_⟩
      rw [World.cell?_setCell_other _ _ _ _ (by intro e; injection e with e1 e2; omega)]
      exact q1
  · rw [World.frozen?_setCell]
    exact h4 i

set_option maxRecDepth 100000 in
set_option maxHeartbeats 2000000 in
theorem rdual1_calls (a : Au) (hok : a.ok = true) (row : List (List (List Nd))) (hrow : a.moves = [row]) (hL0 : 0 < row.length) (hB : ∀ l ∈ row, l.length ≤ 100000 ∧ DualBd l ∧ (dualP l).length ≤ 12) (w : World) (r m : Value) (hA : rdO AuR w a [r, .int .i64 a.start, m]) :
    Calls Tryz.prog 36 #[.agg #[r, .int .i64 a.start, m]] w fun e w' => ∃ r' m', e = .returned (.tuple #[.agg #[r', .int .i64 a.start, m'], .int .i64 0]) ∧ Grew w w' ∧ rdO AuR w' ⟨a.ranks, a.start, [row.map dualP]⟩ [r', .int .i64 a.start, m'] := by
  obtain ⟨hR, hMv, hs1, hs2⟩ := AuR.parts hA
  obtain ⟨A, c, rfl, hc, hlm⟩ := hR.val
  obtain ⟨B, d, rfl, hd, hlm2⟩ := hMv.val
  have hml : a.moves.length = 1 := by rw [hrow]; rfl
  have hm0 : a.moves[0]'(by omega) = row := by simp [hrow]
  have hrl : row.length ≤ 24 := ((ok_rows hok).2 row (by rw [hrow]; simp)).1
  obtain ⟨bB, oB, p0, rfl, hbB, hpB, hpt⟩ := hMv.at1 0 (by omega)
  rw [hm0] at hpt
  obtain ⟨Ao, co, rfl⟩ := row_slice hpt
  have hRow := RowS.sl hpt
  have hbB' : bB < w.heap.size := hbB
  have hpB0 : w.cell? ⟨bB, oB, none⟩ = some (.slice Ao row.length co) := by simpa using hpB
  obtain ⟨w2, hw2⟩ : ∃ w2, w2 = (w.alloc (.cells #[.slice A a.ranks.length c, .int .i64 a.start, .slice (some ⟨bB, oB, none⟩) a.moves.length d] 25)).alloc (.cells #[.slice none 0 0, .int .i64 0, .slice none 0 0] 25) := ⟨_, rfl⟩
  have hG2 : Grew w w2 := by rw [hw2]; exact grew_then_alloc (grew_alloc _ _) _
  have xa : ThreeAt w2 w.heap.size (.slice A a.ranks.length c) (.int .i64 a.start) (.slice (some ⟨bB, oB, none⟩) a.moves.length d) 25 := by
    rw [hw2]; exact (ThreeAt.new w _ _ _ _).frm (frm_alloc _ _)
  have xr : ThreeAt w2 (w.heap.size + 1) (.slice none 0 0) (.int .i64 0) (.slice none 0 0) 25 := by
    have h := ThreeAt.new (w.alloc (.cells #[.slice A a.ranks.length c, .int .i64 a.start, .slice (some ⟨bB, oB, none⟩) a.moves.length d] 25)) (.slice none 0 0) (.int .i64 0) (.slice none 0 0) 25
    rw [World.size_alloc] at h
    rw [hw2]; exact h
  have hIS : Calls Tryz.prog 8 #[.agg #[.slice A a.ranks.length c, .int .i64 a.start, .slice (some ⟨bB, oB, none⟩) a.moves.length d]] w2 (RetD w2 (.bool true)) := by
    have h := ris_calls a w2 _ _ (rdO_frm moves_au hG2.1 hA)
    rw [← ok_eq, hok] at h
    exact h
  have xa' := xa
  rw [hw2] at xa' hIS
  obtain ⟨xa0, xa1, xa2⟩ := xa'.cells
  have HIS := Lib.hid hIS
  have HW2 := Lib.hid hw2
  have HA := Lib.hid hA
  have HB := Lib.hid hB
  have HROW := Lib.hid hRow
  have HOK := Lib.hid hok
  have HMR := Lib.hid hrow
  clear hIS hw2 hA hB hR hMv hpt hRow hok hpB hm0 hrow
  rw [hml] at xa2 xa ⊢
  rw [hml] at HIS HW2 HA
  go_enter Tryz.func36, Tryz.ntmps36
  go_wp2_with fail
  refine HIS.out.mono ?_
  rw [← HW2.out]
  rintro e w3 ⟨rfl, hf3⟩
  have hG3 := grew_trans hG2 hf3
  obtain ⟨xa0, xa1, xa2⟩ := (xa.frm hf3.1).cells
  have HCP := Lib.hid (rcopy2_calls a HOK.out w3 _ _ (rdO_frm moves_au hG3.1 HA.out))
  dsimp only
  go_wp2_with fail
  refine HCP.out.mono ?_
  rintro e w4 ⟨r', m', n0, rfl, hf4, hW4, hn0, hO4, hR4⟩
  rcases hO4.cases with ⟨_, hnil⟩ | ⟨gm, cm, rfl, hcm, hgm0, hgm1⟩
  · rw [HMR.out] at hnil; cases hnil
  obtain ⟨Ar, cr, rfl⟩ : ∃ Ar cr, r' = .slice Ar a.ranks.length cr := by
    obtain ⟨v', hve, hsl⟩ := id hR4
    obtain ⟨A9, c9, rfl, _⟩ := hsl.val
    simp only [List.cons.injEq, and_true] at hve
    exact ⟨_, _, hve⟩
  rw [hml] at hcm ⊢
  have hrg := hO4.rowG 0 (by omega)
  obtain ⟨cs4, hcl4, hcc4, hrr4⟩ := hrg
  rw [show a.moves[0]'(by omega) = row by simp [HMR.out]] at hrr4
  obtain ⟨v4, hv4, hs4⟩ := hrr4
  subst hv4
  have hgc : w4.cell? ⟨gm, 0, none⟩ = some v4 := by simpa using hcc4 0 (by omega)
  obtain ⟨A4, c4, he4, hcc, hlm4, hp4⟩ := hs4
  obtain ⟨br, o, rfl, hbr, hcells⟩ := hp4 hL0
  subst he4
  obtain ⟨⟨hbr0', hbr1, hbr2⟩, hbrU⟩ := hbr
  have hbr0 : n0 ≤ br := hbr0'
  have hbrm : br ≠ gm := by intro e; subst e; exact hbr2 rfl
  have hfree : ∀ j, j < row.length → ∃ v, w4.cell? ⟨br, o + j, none⟩ = some v := by
    intro j hj
    obtain ⟨cs, q1, q2, q3⟩ := hcells j hj
    have := q2 0 (by omega)
    match cs, q1 with
    | [x], _ => exact ⟨x, by simpa using this⟩
  obtain ⟨wc, hwc⟩ : ∃ wc, wc = w4.alloc (.cells #[.slice Ar a.ranks.length cr, .int .i64 a.start, .slice (some ⟨gm, 0, none⟩) 1 cm] 25) := ⟨_, rfl⟩
  have hGc : Grew w4 wc := by rw [hwc]; exact grew_alloc _ _
  have xo : ThreeAt wc w4.heap.size (.slice Ar a.ranks.length cr) (.int .i64 a.start) (.slice (some ⟨gm, 0, none⟩) 1 cm) 25 := by rw [hwc]; exact ThreeAt.new w4 _ _ _ _
  have hGwc : Grew w wc := grew_trans (grew_trans hG3 hf4) hGc
  have hszc : wc.heap.size = w4.heap.size + 1 := by rw [hwc]; simp
  have hcl : w4.heap.size < wc.heap.size := by omega
  have xaC := (xa.frm hf3.1).frm (frm_trans hf4.1 hGc.1)
  have xrC := (xr.frm hf3.1).frm (frm_trans hf4.1 hGc.1)
  have hgcC := frm_cell hGc.1 hgc
  have hs34 := hf4.1.size
  have hD0 : Hid (DI wc wc br o row.length 0 row) := ⟨grewR_refl _ _, fun j hj h => absurd h (Nat.not_lt_zero _), fun j hj => by obtain ⟨v, q⟩ := hfree j hj; exact ⟨v, frm_cell hGc.1 q⟩, hbrU.move (frm_lt hGc.1 br hbr1)⟩
  have HR4 : Hid (WR (RowS 1 IntR) (fun b => w3.heap.size ≤ b ∧ b < n0) wc a.ranks [.slice Ar a.ranks.length cr]) := moves_WR (moves_row moves_int) _ _ _ _ _ _ (fun b hb => hb) (fun b hb => frm_lt hGc.1 b (by omega)) hR4
  obtain ⟨xa0, xa1, xa2⟩ := xaC.cells
  have HWC := Lib.hid hwc
  rw [hwc] at xa0 xa1 xa2
  clear hwc hW4 hO4 hR4 hcc4 hcl4 hp4 hcells hfree hgc hszc
  dsimp only
  go_wp2_with fail
  rw [← HWC.out]
  clear xa0 xa1 xa2
  have hw1 := hG3.1.size
  have hxl := xa.lt
  have hxl3 := hf3.1.size
  have hxr2 := xr.lt
  go_loopw [18] (fun i wr => ∃ q : Nat, q ≤ 1 ∧ i = .int .i64 q ∧ Hid (DI wc wr br o row.length (if q = 0 then 0 else row.length) row)) (fun i _ => 1 - (intOf i).toNat)
  case atStart => exact ⟨0, Nat.zero_le _, rfl, hD0.out⟩
  case round =>
    obtain ⟨q, hq, rfl, hDI⟩ := hrel
    by_cases hq0 : q = 0
    · subst hq0
      have hDI0 : Hid (DI wc wr br o row.length 0 row) := hDI
      have hGR := hDI0.out.1
      have hpW : wr.cell? ⟨bB, oB, none⟩ = some (.slice Ao row.length co) := hGR.1.cell (frm_cell hGwc.1 hpB0) (by intro e; injection e with e; dsimp only at e; omega)
      obtain ⟨xa0, xa1, xa2⟩ := (xaC.move (hGR.1.block _ xaC.lt (by intro e; injection e with e; omega))).cells
      clear hpB0
      go_wp2_with fail
      go_loopw [25] (fun i wq => ∃ f : Nat, f ≤ row.length ∧ i = .int .i64 f ∧ Hid (DI wc wq br o row.length f row)) (fun i _ => row.length - (intOf i).toNat)
      case atStart => exact ⟨0, Nat.zero_le _, rfl, hDI0.out⟩
      case round =>
        obtain ⟨f, hf, rfl, hDF⟩ := hrel
        have hGF := hDF.out.1
        by_cases hlt : f < row.length
        · obtain ⟨b3, o3, q0, h3e, hb3, hq0, hqt⟩ := HROW.out.at1 f hlt
          subst h3e
          have hb3' : b3 < w.heap.size := hb3
          have hq0W : wr.cell? ⟨b3, o3 + f, none⟩ = some q0 := hGF.1.cell (frm_cell hGwc.1 hq0) (by intro e; injection e with e; dsimp only at e; omega)
          obtain ⟨A3, c3, rfl⟩ := row_slice hqt
          have hmvF : ∀ q, q < wc.heap.size → q ≠ br → wr.heap[q]? = wc.heap[q]? := fun q hq hne => hGF.1.block q hq (by intro e; injection e with e; exact hne e)
          obtain ⟨xo0, xo1, xo2⟩ := (xo.move (hmvF _ hcl (by omega))).cells
          have hgcF : wr.cell? ⟨gm, 0, none⟩ = some (.slice (some ⟨br, o, none⟩) row.length c4) := (World.cell?_of_block (hmvF gm (by omega) (by omega))).trans hgcC
          obtain ⟨hl1, hl2, hl3⟩ := HB.out _ (List.getElem_mem hlt)
          have hsl : SlO wr 1 (rdO AltR) row[f] (.slice A3 (row[f]).length c3) := by
            have h := RowS.sl hqt
            have hws := hGF.1.size
            have hwcs := hGwc.1.size
            exact Sl.move h (fun b hb => by have hb' : b < w.heap.size := hb; omega) (fun b hb => by have hb' : b < w.heap.size := hb; exact (hmvF b (by omega) (by omega)).trans (frm_lt hGwc.1 b hb')) fun x _ cs hx => moves_alt _ _ _ _ _ _ (fun b hb => by have hb' : b < w.heap.size := hb; omega) (fun b hb => by have hb' : b < w.heap.size := hb; exact (hmvF b (by omega) (by omega)).trans (frm_lt hGwc.1 b hb')) hx
          have HDC := Lib.hid (dual1_calls row[f] wr.drew _ (hsl.frm (grew_drew _).1 (stays_rd moves_alt)) hl1 hl2)
          obtain ⟨u0, hu0⟩ := hDF.out.2.2.1 f hlt
          have hfz : wr.frozen? ⟨br, o + f, none⟩ = false := hDF.out.2.2.2 _
          have HPUT := Lib.hid (fun (w5 : World) (v : Value) (hg : Grew wr w5) (hv : AltsR (fun b => wr.heap.size ≤ b ∧ b < w5.heap.size) w5 (dualP row[f]) [v]) => hDF.out.put (by omega : br < wc.heap.size) hg hlt rfl hv)
          generalize hdl : dualP row[f] = dl at *
          have hrl3 : (row[f]).length ≤ 100000 := hl1
          generalize (row[f]).length = ln at *
          have hfL : (f : Int) < row.length := by omega
          have hf0 : (0 : Int) ≤ f := by omega
          have hwr := hGF.1.size
          have hu0' : wr.drew.cell? ⟨br, o + f, none⟩ = some u0 := hu0
          have hfz' : wr.drew.frozen? ⟨br, o + f, none⟩ = false := hfz
          have hbrd : br < wr.drew.heap.size := by show br < wr.heap.size; omega
          have HK0 : Hid (wr.drew.cell? ⟨w4.heap.size, 2, none⟩ = some (.slice (some ⟨gm, 0, none⟩) 1 cm) ∧ wr.drew.cell? ⟨gm, 0, none⟩ = some (.slice (some ⟨br, o, none⟩) row.length c4)) := ⟨xo2, hgcF⟩
          have HK5 : Hid (∀ w5, Grew wr.drew w5 → (w5.cell? ⟨w4.heap.size, 2, none⟩ = some (.slice (some ⟨gm, 0, none⟩) 1 cm) ∧ w5.cell? ⟨gm, 0, none⟩ = some (.slice (some ⟨br, o, none⟩) row.length c4)) ∧ w5.cell? ⟨br, o + f, none⟩ = some u0 ∧ w5.frozen? ⟨br, o + f, none⟩ = false) := fun w5 hg => ⟨⟨frm_cell hg.1 xo2, frm_cell hg.1 hgcF⟩, frm_cell hg.1 hu0, frm_frozen hg.1 hbrd hfz⟩
          have HKS : Hid (∀ (w5 : World) (u : Value), (w5.cell? ⟨w4.heap.size, 2, none⟩ = some (.slice (some ⟨gm, 0, none⟩) 1 cm) ∧ w5.cell? ⟨gm, 0, none⟩ = some (.slice (some ⟨br, o, none⟩) row.length c4)) → ((w5.setCell ⟨br, o + f, none⟩ u).cell? ⟨w4.heap.size, 2, none⟩ = some (.slice (some ⟨gm, 0, none⟩) 1 cm) ∧ (w5.setCell ⟨br, o + f, none⟩ u).cell? ⟨gm, 0, none⟩ = some (.slice (some ⟨br, o, none⟩) row.length c4))) := fun w5 u h => ⟨by rw [World.cell?_setCell_other _ _ _ _ (by intro e; injection e with e _; omega)]; exact h.1, by rw [World.cell?_setCell_other _ _ _ _ (by intro e; injection e with e _; omega)]; exact h.2⟩
          go_wp2_with fail
          go_region_held3 (fun wx => wx.cell? ⟨w4.heap.size, 2, none⟩ = some (.slice (some ⟨gm, 0, none⟩) 1 cm) ∧ wx.cell? ⟨gm, 0, none⟩ = some (.slice (some ⟨br, o, none⟩) row.length c4)) (first | exact HK0.out | assumption | exact HKS.out _ _ (by assumption)) ((go_at_call 81; refine HDC.out.mono ?_; rintro e5 v5 ⟨z5, rfl, hg5, hz5⟩; obtain ⟨A5, c5, rfl, _⟩ := hz5.val; obtain ⟨hS5, hc5, hf5⟩ := HK5.out _ hg5))
          have hD6 := HPUT.out v5 _ (grew_trans (grew_drew _) hg5) ⟨_, rfl, hz5⟩
          have hS6 := HKS.out v5 (.slice A5 dl.length c5) hS5
          have hc6 : (v5.setCell ⟨br, o + f, none⟩ (.slice A5 dl.length c5)).cell? ⟨br, o + f, none⟩ = some (.slice A5 dl.length c5) := World.cell?_setCell_same _ _ _ hc5
          have HD6 := Lib.hid hD6
          have h12 : ¬ ((12 : Int) < dl.length) := by omega
          clear hD6 hq0W hgcF xo0 xo1 xo2 hu0 hfz hu0' hfz' hc5 hf5 hS5
          obtain ⟨s60, s61⟩ := hS6
          rename_i hheld
          clear hheld
          go_wp2_with fail
          generalize v5.setCell ⟨br, o + f, none⟩ (.slice A5 dl.length c5) = w6 at *
          exact ⟨⟨f + 1, by omega, by go_num, HD6.out⟩, by simp [intOf]; omega⟩
        · obtain rfl : f = row.length := by omega
          go_wp2_with fail
          exact ⟨⟨1, Nat.le_refl _, by go_num, hDF⟩, by simp [intOf]⟩
    · obtain rfl : q = 1 := by omega
      have hDI1 : Hid (DI wc wr br o row.length row.length row) := hDI
      have hGR := hDI1.out.1
      have hmv : ∀ q, q < wc.heap.size → q ≠ br → wr.heap[q]? = wc.heap[q]? := fun q hq hne => hGR.1.block q hq (by intro e; injection e with e; exact hne e)
      obtain ⟨xo0, xo1, xo2⟩ := (xo.move (hmv _ hcl (by omega))).cells
      have xr9 := xrC.move (hmv _ xrC.lt (by omega))
      obtain ⟨xr0, xr1, xr2⟩ := xr9.cells
      have xf0 := xr9.free 0
      have xf1 := xr9.free 1
      have xf2 := xr9.free 2
      go_wp2_with fail
      refine bodyPost_ret (v := .tuple #[.agg #[.slice Ar a.ranks.length cr, .int .i64 a.start, .slice (some ⟨gm, 0, none⟩) 1 cm], .int .i64 0]) (by simp [results, Tryz.results36, go_sem, xr0, xr1, xr2, xf0, xf1, xf2]) rfl ⟨_, _, rfl, ?_, ?_⟩
      · have hGw : Grew w wr := ⟨frm_new hGwc.1 (show w.heap.size ≤ br by omega) hGR.1, Nat.le_trans hGwc.2 hGR.2⟩
        exact grew_set_new (grew_set_new (grew_set_new hGw (by omega) _ _) (by omega) _ _) (by omega) _ _
      · have hrs := hGR.1.size
        have hset : ∀ q, q ≠ w.heap.size + 1 → (((wr.setCell ⟨w.heap.size + 1, 0, none⟩ (.slice Ar a.ranks.length cr)).setCell ⟨w.heap.size + 1, 1, none⟩ (.int .i64 a.start)).setCell ⟨w.heap.size + 1, 2, none⟩ (.slice (some ⟨gm, 0, none⟩) 1 cm)).heap[q]? = wr.heap[q]? := fun q hq => by
          rw [Below.heap_setCell _ _ _ _ (by show q ≠ w.heap.size + 1; exact hq), Below.heap_setCell _ _ _ _ (by show q ≠ w.heap.size + 1; exact hq), Below.heap_setCell _ _ _ _ (by show q ≠ w.heap.size + 1; exact hq)]
        refine ⟨_, _, rfl, ?_, ⟨_, rfl, _, cm, rfl, hcm, by simp, fun _ => ⟨gm, 0, rfl, by simp; omega, fun i hi => ?_⟩⟩, hs1, hs2⟩
        · refine moves_row moves_int _ _ _ _ _ _ (fun b hb => by have := hb.1; simp; omega) (fun b hb => ?_) HR4.out
          have h1 := hb.1
          rw [hset b (by omega)]
          exact hmv b (by omega) (by omega)
        · have hi0 : i = 0 := by simp at hi; exact hi
          subst hi0
          refine ⟨[.slice (some ⟨br, o, none⟩) row.length c4], rfl, fun j hj => ?_, _, rfl, _, c4, by simp, by simpa using hcc, by simpa using hlm4, fun _ => ⟨br, o, rfl, by simp; omega, fun i hi => ?_⟩⟩
          · obtain rfl : j = 0 := by omega
            show World.cell? _ ⟨gm, 0, none⟩ = some _
            rw [← hgcC]
            exact World.cell?_of_block ((hset gm (by omega)).trans (hmv gm (by omega) (by omega)))
          · have hi' : i < row.length := by simpa using hi
            obtain ⟨v, q1, q2⟩ := hDI1.out.2.1 i hi' hi'
            refine ⟨[v], rfl, fun j hj => ?_, ?_⟩
            · obtain rfl : j = 0 := by omega
              show World.cell? _ ⟨br, o + i * 1 + 0, none⟩ = some _
              rw [show o + i * 1 + 0 = o + i by omega, ← q1]
              exact World.cell?_of_block (hset br (by omega))
            · show AltsR _ _ (row.map dualP)[i] [v]
              rw [List.getElem_map]
              exact moves_alts _ _ _ _ _ _ (fun b hb => by simp; exact hb.2) (fun b hb => hset b (by omega)) q2
end Go.Proofs.YtjpdmncafacmaaaGreatDoor
end
/- The reference's Same. -/
section
set_option linter.unusedVariables false
set_option linter.unusedSimpArgs false
namespace Go.Proofs.YtjpdmncafacmaaaGreatDoor
open Go.RowKit

def sameA (a b : Au) : Bool := a.okR && b.okR && decide (a.ranks = b.ranks) && decide (a.start = b.start) && decide (a.moves = b.moves)
theorem okR_len {a : Au} (h : a.okR = true) : ∀ m ∈ a.moves, m.length = a.ranks.length := by
  intro m hm
  unfold Au.okR at h
  rw [Bool.and_eq_true] at h
  have := List.all_eq_true.1 h.2 m hm
  unfold ruleR at this
  rw [Bool.and_eq_true, decide_eq_true_eq] at this
  exact this.1

set_option maxRecDepth 100000 in
set_option maxHeartbeats 2000000 in
theorem rsame_calls (a b : Au) (w : World) (r m r' m' : Value) (ha : rdO AuR w a [r, .int .i64 a.start, m]) (hb : rdO AuR w b [r', .int .i64 b.start, m']) :
    Calls Tryz.prog 25 #[.agg #[r, .int .i64 a.start, m], .agg #[r', .int .i64 b.start, m']] w (RetD w (.bool (sameA a b))) := by
  obtain ⟨hR, hM, s1, s2⟩ := AuR.parts ha
  obtain ⟨hR', hM', s3, s4⟩ := AuR.parts hb
  have HA := Lib.hid ha
  have HB := Lib.hid hb
  clear ha hb
  obtain ⟨A, c, rfl, hc, hlm⟩ := hR.val
  obtain ⟨B, d, rfl, hd, hlm2⟩ := hM.val
  obtain ⟨A', c', rfl, hc', hlm'⟩ := hR'.val
  obtain ⟨B', d', rfl, hd', hlm2'⟩ := hM'.val
  have hA0 : AuS w ((w.alloc (.cells #[.slice A a.ranks.length c, .int .i64 a.start, .slice B a.moves.length d] 25)).alloc (.cells #[.slice A' b.ranks.length c', .int .i64 b.start, .slice B' b.moves.length d'] 25)) (.slice A a.ranks.length c) (.slice B a.moves.length d) a.start := (AuS.new _ _ _ _ _).step (grew_alloc _ _)
  have hB0 : AuS (w.alloc (.cells #[.slice A a.ranks.length c, .int .i64 a.start, .slice B a.moves.length d] 25)) ((w.alloc (.cells #[.slice A a.ranks.length c, .int .i64 a.start, .slice B a.moves.length d] 25)).alloc (.cells #[.slice A' b.ranks.length c', .int .i64 b.start, .slice B' b.moves.length d'] 25)) (.slice A' b.ranks.length c') (.slice B' b.moves.length d') b.start := AuS.new _ _ _ _ _
  obtain ⟨_, y0, y1, y2⟩ := hB0
  obtain ⟨hG, x0, x1, x2⟩ := id hA0
  rw [World.size_alloc] at y0 y1 y2
  go_enter Tryz.func25, Tryz.ntmps25
  go_wp2_with fail
  refine (ris_calls a _ _ _ (rdO_frm moves_au hG.1 HA.out)).mono ?_
  rintro e w1 ⟨rfl, hf1⟩
  have hG1 := grew_trans hG hf1
  have hA1 := hA0.step hf1
  have y0' := frm_cell hf1.1 y0
  have y1' := frm_cell hf1.1 y1
  have y2' := frm_cell hf1.1 y2
  obtain ⟨_, x0', x1', x2'⟩ := id hA1
  clear x1 x2 x0 y0 y1 y2
  cases hao : a.okR
  · have HQ : Hid (sameA a b = false) := by unfold Hid sameA; rw [hao]; rfl
    clear hao
    go_wp2_with fail
    refine bodyPost_ret (results_tmp rfl _ _ _) rfl ⟨?_, hG1⟩
    rw [HQ.out]
    rfl
  · have hla := Lib.hid (okR_len hao)
    have HQ1 : Hid (sameA a b = (b.okR && decide (a.ranks = b.ranks) && decide (a.start = b.start) && decide (a.moves = b.moves))) := by unfold Hid sameA; rw [hao, Bool.true_and]
    clear hao
    go_wp2_with fail
    refine (ris_calls b _ _ _ (rdO_frm moves_au hG1.1 HB.out)).mono ?_
    rintro e w2 ⟨rfl, hf2⟩
    have hG2 := grew_trans hG1 hf2
    have hA2 := hA1.step hf2
    have y0'' := frm_cell hf2.1 y0'
    have y1'' := frm_cell hf2.1 y1'
    have y2'' := frm_cell hf2.1 y2'
    obtain ⟨_, x0'', x1'', x2''⟩ := id hA2
    cases hbo : b.okR
    · have HQ : Hid (sameA a b = false) := by unfold Hid; rw [HQ1.out, hbo]; rfl
      clear hbo
      go_wp2_with fail
      refine bodyPost_ret (results_tmp rfl _ _ _) rfl ⟨?_, hG2⟩
      rw [HQ.out]
      rfl
    · have hlb := Lib.hid (okR_len hbo)
      have HQ2 : Hid (sameA a b = (decide (a.ranks = b.ranks) && decide (a.start = b.start) && decide (a.moves = b.moves))) := by unfold Hid; rw [HQ1.out, hbo, Bool.true_and]
      clear hbo
      go_wp2_with fail
      refine (rsameR_calls a.ranks b.ranks w2 _ _ (hR.frm hG2.1 (stays_rd moves_int)) (hR'.frm hG2.1 (stays_rd moves_int))).mono ?_
      rintro e w3 ⟨rfl, hf3⟩
      have hG3 := grew_trans hG2 hf3
      have hA3 := hA2.step hf3
      have z0 := frm_cell hf3.1 y0''
      have z1 := frm_cell hf3.1 y1''
      have z2 := frm_cell hf3.1 y2''
      obtain ⟨_, v0, v1, v2⟩ := id hA3
      by_cases hz : a.ranks = b.ranks
      · have HQ3 : Hid (sameA a b = (decide (a.start = b.start) && decide (a.moves = b.moves))) := by unfold Hid; rw [HQ2.out, decide_eq_true hz, Bool.true_and]
        have HZ := Lib.hid hz
        rw [decide_eq_true hz]
        clear hz
        by_cases hs : a.start = b.start
        · have hs' : (a.start != b.start) = false := by simp [hs]
          have HQ4 : Hid (sameA a b = decide (a.moves = b.moves)) := by unfold Hid; rw [HQ3.out, decide_eq_true hs, Bool.true_and]
          clear hs
          by_cases hl : a.moves.length = b.moves.length
          · have hl' : ((a.moves.length : Int) != (b.moves.length : Int)) = false := by simp [hl]
            have HL := Lib.hid hl
            clear hl
            go_wp2_with fail
            go_loopw [42] (fun i wr => ∃ k : Nat, k ≤ a.moves.length ∧ i = .int .i64 k ∧ (AuS w wr (.slice A a.ranks.length c) (.slice B a.moves.length d) a.start ∧ wr.cell? ⟨w.heap.size + 1, 2, none⟩ = some (.slice B' b.moves.length d')) ∧ Hid (sameA a b = decide (a.moves.drop k = b.moves.drop k))) (fun i _ => a.moves.length - (intOf i).toNat)
            case atStart => exact ⟨0, Nat.zero_le _, rfl, ⟨hA3, z2⟩, HQ4⟩
            case round =>
              clear v0 v1 v2 z0 z1 z2 x0' x1' x2' y0' y1' y2' x0'' x1'' x2'' y0'' y1'' y2'' hA0 hA1 hA2
              obtain ⟨k, hk, rfl, ⟨hA4, z2⟩, HC⟩ := hrel
              obtain ⟨hG4, v0, v1, v2⟩ := id hA4
              by_cases hlt : k < a.moves.length
              · have hlt' : k < b.moves.length := by rw [← HL.out]; exact hlt
                obtain ⟨b1, o1, p0, rfl, hb1, hp0, hpt⟩ := (hM.frm hG4.1 (stays_rd moves_rule)).at1 k hlt
                obtain ⟨b2, o2, q0, rfl, hb2, hq0, hqt⟩ := (hM'.frm hG4.1 (stays_rd moves_rule)).at1 k hlt'
                have hd := Lib.hid (drop_eq_drop a.moves b.moves k hlt hlt')
                have l1 := hla.out _ (List.getElem_mem hlt)
                have l2 := hlb.out _ (List.getElem_mem hlt')
                rw [← HZ.out] at l2
                generalize a.moves[k] = ra at *
                generalize b.moves[k] = rb at *
                obtain ⟨B1, d1, rfl, hd1, hm1⟩ := RowS.val hpt
                obtain ⟨B2, d2, rfl, hd2, hm2⟩ := RowS.val hqt
                have hRA := RowS.sl hpt
                have hRB := RowS.sl hqt
                have HC2 : Hid (sameA a b = (decide (ra = rb) && decide (a.moves.drop (k + 1) = b.moves.drop (k + 1)))) := by unfold Hid; rw [HC.out, hd.out]
                have L1 := Lib.hid l1
                have L2 := Lib.hid l2
                clear l1 l2 HC hd
                go_wp2_with fail
                clear v0 v1 v2
                go_loopw [48] (fun i w' => ∃ j : Nat, j ≤ a.ranks.length ∧ i = .int .i64 j ∧ Grew wr w' ∧ (AuS w w' (.slice A a.ranks.length c) (.slice (some ⟨b1, o1, none⟩) a.moves.length d) a.start ∧ w'.cell? ⟨w.heap.size + 1, 2, none⟩ = some (.slice (some ⟨b2, o2, none⟩) b.moves.length d')) ∧ Hid (sameA a b = (decide (ra.drop j = rb.drop j) && decide (a.moves.drop (k + 1) = b.moves.drop (k + 1))))) (fun i _ => a.ranks.length - (intOf i).toNat)
                case atStart => exact ⟨0, Nat.zero_le _, rfl, grew_refl _, ⟨hA4, z2⟩, HC2⟩
                case round =>
                  clear z2 hA4 hpt hqt
                  obtain ⟨j, hj, rfl, hfj, ⟨hA4, z2⟩, HC⟩ := hrel
                  obtain ⟨hG4, v0, v1, v2⟩ := id hA4
                  by_cases hjt : j < a.ranks.length
                  · have j1 : j < ra.length := by rw [L1.out]; exact hjt
                    have j2 : j < rb.length := by rw [L2.out]; exact hjt
                    obtain ⟨b3, o3, p1, rfl, hb3, hp1, hpt⟩ := (hRA.frm hfj.1 (stays_rd moves_alts)).at1 j j1
                    obtain ⟨b4, o4, q1, rfl, hb4, hq1, hqt⟩ := (hRB.frm hfj.1 (stays_rd moves_alts)).at1 j j2
                    have hp0' := frm_cell hfj.1 hp0
                    have hq0' := frm_cell hfj.1 hq0
                    have hd := Lib.hid (drop_eq_drop ra rb j j1 j2)
                    generalize ra[j] = x at *
                    generalize rb[j] = y at *
                    have hkS : ∀ w1 w2 : World, Grew w1 w2 → (Grew wr w1 ∧ w1.cell? ⟨w.heap.size, 2, none⟩ = some (.slice (some ⟨b1, o1, none⟩) a.moves.length d) ∧ w1.cell? ⟨w.heap.size + 1, 2, none⟩ = some (.slice (some ⟨b2, o2, none⟩) b.moves.length d') ∧ w1.cell? ⟨b1, o1 + k, none⟩ = some (.slice (some ⟨b3, o3, none⟩) ra.length d1) ∧ w1.cell? ⟨b2, o2 + k, none⟩ = some (.slice (some ⟨b4, o4, none⟩) rb.length d2) ∧ w1.cell? ⟨b3, o3 + j, none⟩ = some p1 ∧ w1.cell? ⟨b4, o4 + j, none⟩ = some q1) → (Grew wr w2 ∧ w2.cell? ⟨w.heap.size, 2, none⟩ = some (.slice (some ⟨b1, o1, none⟩) a.moves.length d) ∧ w2.cell? ⟨w.heap.size + 1, 2, none⟩ = some (.slice (some ⟨b2, o2, none⟩) b.moves.length d') ∧ w2.cell? ⟨b1, o1 + k, none⟩ = some (.slice (some ⟨b3, o3, none⟩) ra.length d1) ∧ w2.cell? ⟨b2, o2 + k, none⟩ = some (.slice (some ⟨b4, o4, none⟩) rb.length d2) ∧ w2.cell? ⟨b3, o3 + j, none⟩ = some p1 ∧ w2.cell? ⟨b4, o4 + j, none⟩ = some q1) := fun w1 w2 hf h => ⟨grew_trans h.1 hf, frm_cell hf.1 h.2.1, frm_cell hf.1 h.2.2.1, frm_cell hf.1 h.2.2.2.1, frm_cell hf.1 h.2.2.2.2.1, frm_cell hf.1 h.2.2.2.2.2.1, frm_cell hf.1 h.2.2.2.2.2.2⟩
                    have hk0 : ∀ w', w' = wr.drew → (Grew wr w' ∧ w'.cell? ⟨w.heap.size, 2, none⟩ = some (.slice (some ⟨b1, o1, none⟩) a.moves.length d) ∧ w'.cell? ⟨w.heap.size + 1, 2, none⟩ = some (.slice (some ⟨b2, o2, none⟩) b.moves.length d') ∧ w'.cell? ⟨b1, o1 + k, none⟩ = some (.slice (some ⟨b3, o3, none⟩) ra.length d1) ∧ w'.cell? ⟨b2, o2 + k, none⟩ = some (.slice (some ⟨b4, o4, none⟩) rb.length d2) ∧ w'.cell? ⟨b3, o3 + j, none⟩ = some p1 ∧ w'.cell? ⟨b4, o4 + j, none⟩ = some q1) := by
                      rintro w' rfl
                      exact ⟨grew_drew _, v2, z2, hp0', hq0', hp1, hq1⟩
                    have ih := Lib.hid fun (w' : World) (hf : Grew wr w' ∧ w'.cell? ⟨w.heap.size, 2, none⟩ = some (.slice (some ⟨b1, o1, none⟩) a.moves.length d) ∧ w'.cell? ⟨w.heap.size + 1, 2, none⟩ = some (.slice (some ⟨b2, o2, none⟩) b.moves.length d') ∧ w'.cell? ⟨b1, o1 + k, none⟩ = some (.slice (some ⟨b3, o3, none⟩) ra.length d1) ∧ w'.cell? ⟨b2, o2 + k, none⟩ = some (.slice (some ⟨b4, o4, none⟩) rb.length d2) ∧ w'.cell? ⟨b3, o3 + j, none⟩ = some p1 ∧ w'.cell? ⟨b4, o4 + j, none⟩ = some q1) => rsameM_calls x y w' p1 q1 (RowS.sl (rdO_frm moves_alts hf.1.1 hpt)) (RowS.sl (rdO_frm moves_alts hf.1.1 hqt))
                    have HK := Lib.hid hkS
                    have HK0 := Lib.hid hk0
                    clear hkS hk0
                    have e1 : (0 : Int) ≤ (k : Int) := by omega
                    have e2 : (k : Int) < a.moves.length := by omega
                    have e3 : (k : Int) < b.moves.length := by omega
                    have e4 : (0 : Int) ≤ (j : Int) := by omega
                    have e5 : (j : Int) < ra.length := by omega
                    have e6 : (j : Int) < rb.length := by omega
                    go_wp2_with fail
                    go_region_held3 (fun w' => Grew wr w' ∧ w'.cell? ⟨w.heap.size, 2, none⟩ = some (.slice (some ⟨b1, o1, none⟩) a.moves.length d) ∧ w'.cell? ⟨w.heap.size + 1, 2, none⟩ = some (.slice (some ⟨b2, o2, none⟩) b.moves.length d') ∧ w'.cell? ⟨b1, o1 + k, none⟩ = some (.slice (some ⟨b3, o3, none⟩) ra.length d1) ∧ w'.cell? ⟨b2, o2 + k, none⟩ = some (.slice (some ⟨b4, o4, none⟩) rb.length d2) ∧ w'.cell? ⟨b3, o3 + j, none⟩ = some p1 ∧ w'.cell? ⟨b4, o4 + j, none⟩ = some q1) (first | exact HK0.out _ rfl | exact HK.out _ _ (by assumption) (by assumption)) ((go_at_call 63; refine (ih.out _ (by assumption)).mono ?_; rintro e w' ⟨rfl, hfw⟩))
                    rename_i hHeld
                    have hf := hHeld.1
                    have hG5 := grew_trans hG4 hf
                    by_cases hz : x = y
                    · have HD : Hid (sameA a b = (decide (ra.drop (j + 1) = rb.drop (j + 1)) && decide (a.moves.drop (k + 1) = b.moves.drop (k + 1)))) := by
                        unfold Hid
                        rw [HC.out, hd.out, decide_eq_true hz, Bool.true_and]
                      rw [decide_eq_true hz]
                      clear hz
                      have hA5 := hA4.step hf
                      have z5 := frm_cell hf.1 z2
                      have hfz := grew_trans hfj hf
                      go_wp2_with fail
                      exact ⟨⟨j + 1, by omega, by go_num, hfz, ⟨hA5, z5⟩, HD⟩, by simp [intOf]; omega⟩
                    · have HD : Hid (sameA a b = false) := by
                        unfold Hid
                        rw [HC.out, hd.out, decide_eq_false hz]
                        rfl
                      rw [decide_eq_false hz]
                      clear hz
                      go_wp2_with fail
                      refine bodyPost_ret (results_tmp rfl _ _ _) rfl ⟨?_, hG5⟩
                      rw [HD.out]
                      rfl
                  · have HD : Hid (sameA a b = decide (a.moves.drop (k + 1) = b.moves.drop (k + 1))) := by
                      unfold Hid
                      rw [HC.out, List.drop_eq_nil_of_le (by rw [L1.out]; omega), List.drop_eq_nil_of_le (by rw [L2.out]; omega)]
                      simp
                    go_wp2_with fail
                    exact ⟨⟨k + 1, by omega, by go_num, ⟨hA4, z2⟩, HD⟩, by simp [intOf]; omega⟩
              · have HQ : Hid (sameA a b = true) := by
                  unfold Hid
                  rw [HC.out, List.drop_eq_nil_of_le (by omega), List.drop_eq_nil_of_le (by rw [← HL.out]; omega)]
                  simp
                go_wp2_with fail
                refine bodyPost_ret (results_tmp rfl _ _ _) rfl ⟨?_, hG4⟩
                rw [HQ.out]
                rfl
          · have hl' : ((a.moves.length : Int) != (b.moves.length : Int)) = true := by rw [bne_iff_ne]; omega
            have HQ : Hid (sameA a b = false) := by unfold Hid; rw [HQ4.out]; exact decide_eq_false fun e => hl (by rw [e])
            clear hl
            go_wp2_with fail
            refine bodyPost_ret (results_tmp rfl _ _ _) rfl ⟨?_, hG3⟩
            rw [HQ.out]
            rfl
        · have hs' : (a.start != b.start) = true := by simp [hs]
          have HQ : Hid (sameA a b = false) := by unfold Hid; rw [HQ3.out, decide_eq_false hs, Bool.false_and]
          clear hs
          go_wp2_with fail
          refine bodyPost_ret (results_tmp rfl _ _ _) rfl ⟨?_, hG3⟩
          rw [HQ.out]
          rfl
      · have HQ : Hid (sameA a b = false) := by unfold Hid; rw [HQ2.out, decide_eq_false hz, Bool.false_and, Bool.false_and]
        rw [decide_eq_false hz]
        clear hz
        go_wp2_with fail
        refine bodyPost_ret (results_tmp rfl _ _ _) rfl ⟨?_, hG3⟩
        rw [HQ.out]
        rfl
end Go.Proofs.YtjpdmncafacmaaaGreatDoor
end
/- The laws' own comparison of what two sides return. -/
section
set_option linter.unusedVariables false
set_option linter.unusedSimpArgs false
namespace Go.Proofs.YtjpdmncafacmaaaGreatDoor
open Go.RowKit

set_option maxRecDepth 100000 in
set_option maxHeartbeats 1000000 in
/-- Both sides return no error, and automata that are read. -/
theorem is0_calls (a b : Au) (w : World) (r m r' m' : Value) (ha : rdO AuR w a [r, .int .i64 a.start, m]) (hb : rdO AuR w b [r', .int .i64 b.start, m']) :
    Calls Tryz.prog 19 #[.agg #[r, .int .i64 a.start, m], .int .i64 0, .agg #[r', .int .i64 b.start, m'], .int .i64 0] w (RetD w (.bool (sameA a b))) := by
  have HA := Lib.hid ha
  have HB := Lib.hid hb
  clear ha hb
  have hA0 : AuS w ((w.alloc (.cells #[r, .int .i64 a.start, m] 25)).alloc (.cells #[r', .int .i64 b.start, m'] 25)) r m a.start := (AuS.new _ _ _ _ _).step (grew_alloc _ _)
  have hB0 : AuS (w.alloc (.cells #[r, .int .i64 a.start, m] 25)) ((w.alloc (.cells #[r, .int .i64 a.start, m] 25)).alloc (.cells #[r', .int .i64 b.start, m'] 25)) r' m' b.start := AuS.new _ _ _ _ _
  obtain ⟨_, y0, y1, y2⟩ := hB0
  obtain ⟨hG, x0, x1, x2⟩ := id hA0
  rw [World.size_alloc] at y0 y1 y2
  go_enter Tryz.func19, Tryz.ntmps19
  go_wp2_with fail
  refine (rsame_calls a b _ _ _ _ _ (rdO_frm moves_au hG.1 HA.out) (rdO_frm moves_au hG.1 HB.out)).mono ?_
  rintro e w1 ⟨rfl, hf1⟩
  have hG1 := grew_trans hG hf1
  clear x0 x1 x2 y0 y1 y2
  obtain ⟨v, HV⟩ : ∃ v, Hid (sameA a b = v) := ⟨_, by unfold Hid; rfl⟩
  rw [show (Value.bool (sameA a b)) = .bool v by rw [HV.out]]
  cases v
  · go_wp2_with fail
    exact bodyPost_ret (results_tmp rfl _ _ _) rfl ⟨by rw [HV.out]; rfl, hG1⟩
  · go_wp2_with fail
    exact bodyPost_ret (results_tmp rfl _ _ _) rfl ⟨by rw [HV.out]; rfl, hG1⟩
end Go.Proofs.YtjpdmncafacmaaaGreatDoor
end
/- The laws' own comparison, with errors. -/
section
set_option linter.unusedVariables false
set_option linter.unusedSimpArgs false
namespace Go.Proofs.YtjpdmncafacmaaaGreatDoor
open Go.RowKit

set_option maxRecDepth 100000 in
set_option maxHeartbeats 1000000 in
/-- Both sides return one error, and nothing. -/
theorem isE_calls (er : Int) (her : er ≠ 0) (w : World) (r m r' m' : Value) (ha : rdO AuR w Au.zero [r, .int .i64 0, m]) (hb : rdO AuR w Au.zero [r', .int .i64 0, m']) :
    Calls Tryz.prog 19 #[.agg #[r, .int .i64 0, m], .int .i64 er, .agg #[r', .int .i64 0, m'], .int .i64 er] w (RetD w (.bool true)) := by
  obtain ⟨hR, hM, _, _⟩ := AuR.parts (a := Au.zero) ha
  obtain ⟨A, c, rfl, _⟩ := hR.val
  obtain ⟨B, d, rfl, _⟩ := hM.val
  have hA0 : AuS w ((w.alloc (.cells #[.slice A 0 c, .int .i64 0, .slice B 0 d] 25)).alloc (.cells #[r', .int .i64 0, m'] 25)) (.slice A 0 c) (.slice B 0 d) 0 := (AuS.new _ _ _ _ _).step (grew_alloc _ _)
  obtain ⟨hG, x0, x1, x2⟩ := id hA0
  have e1 : (er == er) = true := by simp
  have e2 : (er == 0) = false := by simp [her]
  have e3 : (er != 0) = true := by simp [her]
  clear ha hb hR hM her hA0
  show Calls Tryz.prog 19 #[.agg #[.slice A 0 c, .int .i64 0, .slice B 0 d], .int .i64 er, .agg #[r', .int .i64 0, m'], .int .i64 er] w (RetD w (.bool true))
  go_enter Tryz.func19, Tryz.ntmps19
  go_wp2_with fail
  exact bodyPost_ret (results_tmp rfl _ _ _) rfl ⟨rfl, hG⟩
/-- Both sides return the same automaton and error. -/
theorem isV_calls (V : Au) (er : Int) (h0 : er = 0 → V.okR = true) (h1 : er ≠ 0 → V = Au.zero) (w : World) (r m r' m' : Value) (ha : rdO AuR w V [r, .int .i64 V.start, m]) (hb : rdO AuR w V [r', .int .i64 V.start, m']) :
    Calls Tryz.prog 19 #[.agg #[r, .int .i64 V.start, m], .int .i64 er, .agg #[r', .int .i64 V.start, m'], .int .i64 er] w (RetD w (.bool true)) := by
  by_cases he : er = 0
  · have hs : sameA V V = true := by
      unfold sameA
      rw [h0 he]
      simp
    have h := is0_calls V V w r m r' m' ha hb
    rw [hs] at h
    rw [he]
    exact h
  · have hz := h1 he
    subst hz
    exact isE_calls er he w r m r' m' ha hb
end Go.Proofs.YtjpdmncafacmaaaGreatDoor
end
/- Both sides make the same of two automata: plain law. -/
section
set_option linter.unusedVariables false
set_option linter.unusedSimpArgs false
namespace Go.Proofs.YtjpdmncafacmaaaGreatDoor

theorem later_cmp (n : Int) (x y : Nd) : Nd.cmp (later n x) (later n y) = Nd.cmp x y := by
  unfold Nd.cmp later
  by_cases h : x.1 = y.1
  · rw [if_neg (by simpa using h), if_neg (by simpa using h)]; simp only []; omega
  · rw [if_pos h, if_pos h]
theorem cmpL_map {α : Type} {f : α → α → Int} (g : α → α) (h : ∀ x y, f (g x) (g y) = f x y) : ∀ xs ys : List α, cmpL f (xs.map g) (ys.map g) = cmpL f xs ys
  | [], [] => rfl
  | [], _ :: _ => rfl
  | _ :: _, [] => rfl
  | x :: xs, y :: ys => by
    simp only [List.map_cons]
    unfold cmpL
    rw [h, cmpL_map g h xs ys]
theorem rises_map {α : Type} {f : α → α → Int} (g : α → α) (h : ∀ x y, f (g x) (g y) = f x y) {l : List α} (hl : Rises f l) : Rises f (l.map g) := by
  unfold Rises
  rw [List.pairwise_map]
  exact hl.imp fun hxy => by rw [h]; exact hxy
/-- The alternatives of a valid automaton are in order, each of its needs too. -/
def altsRise (l : List (List Nd)) : Prop := Rises (cmpL Nd.cmp) l ∧ ∀ x ∈ l, Rises Nd.cmp x
theorem ok_rise {a : Au} (h : a.ok = true) : ∀ row ∈ a.moves, ∀ alts ∈ row, altsRise alts := by
  intro row hrow alts halts
  obtain ⟨_, _, _, _, _, h6⟩ := ok_parts h
  obtain ⟨hlen, hs⟩ := h6 row hrow
  obtain ⟨f, hf, rfl⟩ := List.getElem_of_mem halts
  obtain ⟨_, q2, q3⟩ := symOk_parts (hs f hf (by omega))
  exact ⟨(rise_iff ord_alt _).1 q2, fun x hx => (rise_iff ord_nd _).1 (q3 x hx).2.1⟩
theorem mvd_id {l : List (List Nd)} (h : altsRise l) : mvd id l = l := by
  unfold mvd
  conv => rhs; rw [← List.map_id l]
  apply List.map_congr_left
  intro x hx
  rw [List.map_id]
  exact setL_self ord_nd (h.2 x hx)
theorem mvd_later (n : Int) {l : List (List Nd)} (h : altsRise l) : mvd (later n) l = l.map (·.map (later n)) := by
  unfold mvd
  apply List.map_congr_left
  intro x hx
  exact setL_self ord_nd (rises_map _ (later_cmp n) (h.2 x hx))
theorem later_rise (n : Int) {l : List (List Nd)} (h : altsRise l) : altsRise (l.map (·.map (later n))) :=
  ⟨rises_map _ (cmpL_map _ (later_cmp n)) h.1, fun x hx => by
    obtain ⟨y, hy, rfl⟩ := List.mem_map.1 hx
    exact rises_map _ (later_cmp n) (h.2 y hy)⟩
theorem toL_later {a b : Au} {x : Nd} (h : 0 ≤ x.2 ∧ x.2 < b.moves.length) : toL (toB a b) x = later a.n x := by
  unfold toL later toB
  have hlt : x.2.toNat < b.moves.length := by omega
  rw [List.getD_eq_getElem?_getD, List.getElem?_eq_getElem (by simpa using hlt), Option.getD_some]
  simp only [List.getElem_map, List.getElem_range]
  rw [Prod.mk.injEq]
  exact ⟨rfl, by omega⟩
theorem rmv_later {a b : Au} {l : List (List Nd)} (h : altsRise l) (hb : ∀ x ∈ l, ∀ y ∈ x, 0 ≤ y.2 ∧ y.2 < b.moves.length) : rmv (toL (toB a b)) l = mvd (later a.n) l := by
  have h1 : (l.map fun x => ndSet (x.map (toL (toB a b)))) = mvd (later a.n) l := by
    unfold mvd
    apply List.map_congr_left
    intro x hx
    congr 1
    apply List.map_congr_left
    exact fun y hy => toL_later (hb x hx y hy)
  unfold rmv
  rw [h1, mvd_later _ h]
  exact setL_self ord_alt (later_rise _ h).1
theorem uni_mem : ∀ (a b : List Nd) (z : Nd), z ∈ uni a b ↔ z ∈ a ∨ z ∈ b
  | [], b, z => by unfold uni; simp
  | x :: a, [], z => by unfold uni; simp
  | x :: a, y :: b, z => by
    unfold uni
    by_cases h1 : Nd.sgn x y < 0
    · rw [if_pos h1, List.mem_cons, uni_mem a (y :: b) z, List.mem_cons, List.mem_cons, or_assoc]
    · rw [if_neg h1]
      by_cases h2 : 0 < Nd.sgn x y
      · rw [if_pos h2, List.mem_cons, uni_mem (x :: a) b z]
        simp only [List.mem_cons]
        constructor
        · rintro (h | (h | h) | h) <;> simp [h]
        · rintro ((h | h) | h | h) <;> simp [h]
      · rw [if_neg h2, List.mem_cons, uni_mem a b z]
        have e : x = y := (sgn_zero_eq x y).1 (by omega)
        subst e
        simp only [List.mem_cons]
        constructor
        · rintro (h | h | h) <;> simp [h]
        · rintro ((h | h) | h | h) <;> simp [h]
termination_by a b => a.length + b.length
theorem uni_rises : ∀ (a b : List Nd), Rises Nd.cmp a → Rises Nd.cmp b → Rises Nd.cmp (uni a b)
  | [], b, _, hb => by unfold uni; exact hb
  | x :: a, [], ha, _ => by unfold uni; exact ha
  | x :: a, y :: b, ha, hb => by
    have ha' := List.pairwise_cons.1 ha
    have hb' := List.pairwise_cons.1 hb
    unfold uni
    by_cases h1 : Nd.sgn x y < 0
    · rw [if_pos h1]
      refine List.pairwise_cons.2 ⟨fun z hz => ?_, uni_rises a (y :: b) ha'.2 hb⟩
      have hxy := (sgn_lt x y).1 h1
      rcases (uni_mem _ _ _).1 hz with h | h
      · exact ha'.1 z h
      · rcases List.mem_cons.1 h with rfl | h
        · exact hxy
        · exact ord_nd.lt_trans hxy (hb'.1 z h)
    · rw [if_neg h1]
      by_cases h2 : 0 < Nd.sgn x y
      · rw [if_pos h2]
        refine List.pairwise_cons.2 ⟨fun z hz => ?_, uni_rises (x :: a) b ha hb'.2⟩
        have hyx : Nd.cmp y x < 0 := by
          have h3 := (nd_gt x y).1 h2
          have := ord_nd.anti x y
          omega
        rcases (uni_mem _ _ _).1 hz with h | h
        · rcases List.mem_cons.1 h with rfl | h
          · exact hyx
          · exact ord_nd.lt_trans hyx (ha'.1 z h)
        · exact hb'.1 z h
      · rw [if_neg h2]
        have e : x = y := (sgn_zero_eq x y).1 (by omega)
        subst e
        refine List.pairwise_cons.2 ⟨fun z hz => ?_, uni_rises a b ha'.2 hb'.2⟩
        rcases (uni_mem _ _ _).1 hz with h | h
        · exact ha'.1 z h
        · exact hb'.1 z h
termination_by a b => a.length + b.length
theorem uni_set {a b : List Nd} (ha : Rises Nd.cmp a) (hb : Rises Nd.cmp b) : uni a b = ndSet (a ++ b) :=
  rises_unique ord_nd (uni_rises a b ha hb) (setL_rises ord_nd _) fun y => by rw [uni_mem, setL_mem ord_nd, List.mem_append]

theorem alts_mem {a : Au} (h : a.ok = true) {f : Nat} (hf : f < a.ranks.length) : ∃ row ∈ a.moves, a.alts a.start.toNat f ∈ row := by
  obtain ⟨_, _, _, _, hq, h6⟩ := ok_parts h
  have hl := (h6 _ (List.getElem_mem hq)).1
  exact ⟨_, List.getElem_mem hq, by rw [alts_eq hq (by omega)]; exact List.getElem_mem _⟩
theorem joinAt_eq (and : Bool) {a b : Au} (ha : a.ok = true) (hb : b.ok = true) (hr : a.ranks = b.ranks) {f : Nat} (hf : f < a.ranks.length) :
    rJoinAt and a b f = joinAt (if and then stAnd else stOr) a b f := by
  obtain ⟨ra, hra, hma⟩ := alts_mem ha hf
  obtain ⟨rb, hrb, hmb⟩ := alts_mem hb (f := f) (by rw [← hr]; exact hf)
  have h1 := ok_rise ha ra hra _ hma
  have h2 := ok_rise hb rb hrb _ hmb
  have h3 := ok_state hb rb hrb _ hmb
  unfold rJoinAt joinAt rSecond
  rw [rmv_later h2 h3, mvd_id h1, mvd_later _ h2]
  have h4 := later_rise a.n h2
  generalize (b.alts b.start.toNat f).map (·.map (later a.n)) = y at *
  generalize a.alts a.start.toNat f = x at *
  cases and
  · rfl
  · show altSet (x.flatMap fun l => y.map (uni l)) = altSet (stAnd x y)
    unfold stAnd
    congr 1
    have : ∀ l ∈ x, y.map (uni l) = y.map fun m => ndSet (l ++ m) := fun l hl => List.map_congr_left fun m hm => uni_set (h1.2 l hl) (h4.2 m hm)
    clear h1 h4 hma
    induction x with
    | nil => rfl
    | cons l x ih =>
      rw [List.flatMap_cons, List.flatMap_cons, this l (by simp), ih fun m hm => this m (by simp [hm])]
theorem joinA_eq (and : Bool) {a b : Au} (ha : a.ok = true) (hb : b.ok = true) (hr : a.ranks = b.ranks) : rJoinA and a b = joinA (if and then stAnd else stOr) a b := by
  unfold rJoinA joinA joinFirst
  have h1 : a.moves.map (·.map (mvd id)) = a.moves := by
    conv => rhs; rw [← List.map_id a.moves]
    apply List.map_congr_left
    intro row hrow
    show row.map (mvd id) = row
    conv => rhs; rw [← List.map_id row]
    exact List.map_congr_left fun alts halts => mvd_id (ok_rise ha row hrow alts halts)
  have h2 : b.moves.map (·.map (rmv (toL (toB a b)))) = b.moves.map (·.map (mvd (later a.n))) := by
    apply List.map_congr_left
    intro row hrow
    exact List.map_congr_left fun alts halts => rmv_later (ok_rise hb row hrow alts halts) (ok_state hb row hrow alts halts)
  have h3 : (List.range a.ranks.length).map (rJoinAt and a b) = (List.range a.ranks.length).map (joinAt (if and then stAnd else stOr) a b) :=
    List.map_congr_left fun f hf => joinAt_eq and ha hb hr (List.mem_range.1 hf)
  rw [h1, h2, h3]
theorem joinE_eq (and : Bool) (a b : Au) : rJoinE and a b = joinE (if and then stAnd else stOr) a b := by
  unfold rJoinE joinE pairE
  rw [← ok_eq, ← ok_eq]
  cases ha : a.ok
  · simp
  · cases hb : b.ok
    · simp
    · by_cases hr : a.ranks = b.ranks
      · simp only [hr, if_true, ← ok_eq]
        rw [joinA_eq and ha hb hr]
        simp
      · simp [hr]
theorem joinV_eq (and : Bool) (a b : Au) : rJoinV and a b = joinV (if and then stAnd else stOr) a b := by
  unfold rJoinV joinV
  rw [joinE_eq]
  by_cases h : joinE (if and then stAnd else stOr) a b = 0
  · rw [if_pos h, if_pos h]
    have hp : pairE a b = 0 := by
      unfold joinE at h
      by_cases hp : pairE a b = 0
      · exact hp
      · rw [if_neg hp] at h
        exact absurd h hp
    unfold pairE at hp
    cases ha : a.ok
    · simp [ha] at hp
    · cases hb : b.ok
      · simp [ha, hb] at hp
      · by_cases hr : a.ranks = b.ranks
        · exact joinA_eq and ha hb hr
        · simp [ha, hb, hr] at hp
  · rw [if_neg h, if_neg h]
end Go.Proofs.YtjpdmncafacmaaaGreatDoor
end
