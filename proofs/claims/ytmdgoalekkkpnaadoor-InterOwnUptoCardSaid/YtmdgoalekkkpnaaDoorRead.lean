/- The reader of types: take, read, Get. -/
import Derived.Test.YtmdgoalekkkpnaaDoorProg
import Derived.Test.YtmdgoalekkkpnaaDoorOwn
import Derived.Test.YtmdgoalekkkpnaaDoorParse
set_option linter.unusedVariables false
set_option linter.unusedSimpArgs false
namespace Go.Proofs.YtmdgoalekkkpnaaDoor
open Go.RowKit

/-- A reader's block: the text that is left, and whether it is bad. -/
def RdAt (w : World) (g : Nat) (s : ByteArray) (bad : Bool) : Prop := w.heap[g]? = some (.cells #[.string s, .bool bad] 60 (0, 0))
theorem RdAt.lt {w : World} {g : Nat} {s : ByteArray} {b : Bool} (h : RdAt w g s b) : g < w.heap.size := (Array.getElem?_eq_some_iff.1 h).1
theorem RdAt.cells {w : World} {g : Nat} {s : ByteArray} {b : Bool} (h : RdAt w g s b) : w.cell? ⟨g, 0, none⟩ = some (.string s) ∧ w.cell? ⟨g, 1, none⟩ = some (.bool b) ∧ w.frozen? ⟨g, 0, none⟩ = false ∧ w.frozen? ⟨g, 1, none⟩ = false := by
  unfold RdAt at h
  simp [World.cell?, World.frozen?, h]
theorem RdAt.set0 {w : World} {g : Nat} {s : ByteArray} {b : Bool} (h : RdAt w g s b) (s' : ByteArray) : RdAt (w.setCell ⟨g, 0, none⟩ (.string s')) g s' b := by
  unfold RdAt at h ⊢
  simp [World.setCell, Array.getElem?_modify, h]
theorem RdAt.set1 {w : World} {g : Nat} {s : ByteArray} {b : Bool} (h : RdAt w g s b) (b' : Bool) : RdAt (w.setCell ⟨g, 1, none⟩ (.bool b')) g s b' := by
  unfold RdAt at h ⊢
  simp [World.setCell, Array.getElem?_modify, h]
theorem RdAt.move {w w' : World} {g : Nat} {s : ByteArray} {b : Bool} (h : RdAt w g s b) (hw : w'.heap[g]? = w.heap[g]?) : RdAt w' g s b := hw.trans h


/-- A text out of its letters. -/
def bs (l : List UInt8) : ByteArray := ⟨l.toArray⟩
theorem bs_size (l : List UInt8) : (bs l).size = l.length := by
  show l.toArray.size = _
  simp
theorem bs_toList (l : List UInt8) : (bs l).data.toList = l := by simp [bs]
theorem bs_of (s : ByteArray) : s = bs s.data.toList := by simp [bs]
theorem toList_loop (s : ByteArray) : ∀ n i r, s.size - i = n → ByteArray.toList.loop s i r = r.reverse ++ s.data.toList.drop i := by
  intro n
  have hsz : s.data.toList.length = s.size := by simp
  induction n with
  | zero =>
    intro i r h
    rw [ByteArray.toList.loop, if_neg (by omega), List.drop_eq_nil_of_le (by omega)]
    simp
  | succ n ih =>
    intro i r h
    have hi : i < s.size := by omega
    rw [ByteArray.toList.loop, if_pos hi, ih _ _ (by omega), List.drop_eq_getElem_cons (i := i) (by omega), List.reverse_cons, List.append_assoc, List.singleton_append]
    congr 2
    show s.data[i]! = _
    rw [getElem!_pos _ _ (by simpa using hi)]
    simp
theorem toList_eq (s : ByteArray) : s.toList = s.data.toList := by
  rw [ByteArray.toList, toList_loop s _ 0 [] rfl]
  simp
theorem bs_list (l : List UInt8) : (bs l).toList = l := by rw [toList_eq, bs_toList]
theorem bs_tail (c : UInt8) (l : List UInt8) : (bs (c :: l)).extract 1 (bs (c :: l)).size = bs l := by
  rw [bs_size, bs_of (ByteArray.extract _ _ _), ByteArray.data_extract]
  simp [bs]
theorem bs_head (c : UInt8) (l : List UInt8) (h : 0 < (bs (c :: l)).size) : (bs (c :: l))[0] = c := rfl

theorem take_yes (c : UInt8) (l : List UInt8) (q : Int) (hq : q = c.toNat) (w : World) (g : Nat) (hr : RdAt w g (bs (c :: l)) false) :
    Calls Tryd.prog 75 #[.pointer (some ⟨g, 0, none⟩), .int .u8 q] w fun e w' => e = .returned (.bool true) ∧ w.grownBy w' (some g) ∧ RdAt w' g (bs l) false := by
  obtain ⟨h1, h2, h3, h4⟩ := hr.cells
  have hs : 0 < (bs (c :: l)).size := by simp [bs_size]
  have hh : ((bs (c :: l))[0].toNat : Int) = q := by rw [bs_head, hq]
  have hn : ¬ (bs (c :: l)).toList = [] := by simp [bs_list]
  have hn2 : (bs (c :: l)).toList.isEmpty = false := by simp [bs_list]
  have ht := bs_tail c l
  have HR := Lib.hid hr
  clear hq hr
  generalize bs (c :: l) = s at *
  go_enter Tryd.func75, Tryd.ntmps75
  go_wp2_with fail
  exact bodyPost_ret (results_tmp rfl _ _ _) rfl ⟨rfl, frm_set (frm_refl _ _) _ _, HR.out.set0 _⟩

theorem take_no (c : UInt8) (l : List UInt8) (bad : Bool) (q : Int) (hq : q = c.toNat) (hb : bad = true ∨ l.head? ≠ some c) (w : World) (g : Nat) (hr : RdAt w g (bs l) bad) :
    Calls Tryd.prog 75 #[.pointer (some ⟨g, 0, none⟩), .int .u8 q] w fun e w' => e = .returned (.bool false) ∧ w = w' := by
  obtain ⟨h1, h2, h3, h4⟩ := hr.cells
  cases bad with
  | true =>
    clear hb hq hr
    go_enter Tryd.func75, Tryd.ntmps75
    go_wp2_with fail
    exact bodyPost_ret (results_tmp rfl _ _ _) rfl ⟨rfl, rfl⟩
  | false =>
    simp only [Bool.false_eq_true, false_or] at hb
    cases l with
    | nil =>
      have hn : (bs []).toList = [] := by simp [bs_list]
      have hn2 : (bs []).toList.isEmpty = true := by simp [bs_list]
      clear hb hq hr
      generalize bs [] = s at *
      go_enter Tryd.func75, Tryd.ntmps75
      go_wp2_with fail
      all_goals exact bodyPost_ret (results_tmp rfl _ _ _) rfl ⟨rfl, rfl⟩
    | cons d l =>
      have hs : 0 < (bs (d :: l)).size := by simp [bs_size]
      have hh : (((bs (d :: l))[0].toNat : Int) != q) = true := by
        rw [bs_head, hq, bne_iff_ne]
        intro e
        have : d.toNat = c.toNat := by omega
        exact hb (by simp [UInt8.toNat_inj.1 this])
      have hn : ¬ (bs (d :: l)).toList = [] := by simp [bs_list]
      have hn2 : (bs (d :: l)).toList.isEmpty = false := by simp [bs_list]
      clear hb hq hr
      generalize bs (d :: l) = s at *
      go_enter Tryd.func75, Tryd.ntmps75
      go_wp2_with fail
      exact bodyPost_ret (results_tmp rfl _ _ _) rfl ⟨rfl, rfl⟩
end Go.Proofs.YtmdgoalekkkpnaaDoor
