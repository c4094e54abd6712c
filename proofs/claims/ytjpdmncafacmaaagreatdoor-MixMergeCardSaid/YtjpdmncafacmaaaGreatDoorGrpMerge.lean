/- GrpMerge: parts of the walks, one section each: the texts AlikeW, RefCopy3, RefPlainD, RefPlainW, RefRes, RefMergeW, LMerge, LawMixMerge. -/
import Derived.Test.YtjpdmncafacmaaaGreatDoorGrpMrg
import Derived.Test.YtjpdmncafacmaaaGreatDoorRefMvs
import Derived.Test.YtjpdmncafacmaaaGreatDoorSameL
import Derived.Test.YtjpdmncafacmaaaGreatDoorGrpC
import Derived.Test.YtjpdmncafacmaaaGreatDoorRefCopy
import Derived.Test.YtjpdmncafacmaaaGreatDoorRefBothD
import Derived.Test.YtjpdmncafacmaaaGreatDoorGrpHit
import Derived.Test.YtjpdmncafacmaaaGreatDoorAuLaw
import Derived.Test.YtjpdmncafacmaaaGreatDoorRefBothR
import Derived.Test.YtjpdmncafacmaaaGreatDoorRows1
import Derived.Test.YtjpdmncafacmaaaGreatDoorJoinW
import Derived.Test.YtjpdmncafacmaaaGreatDoorGrpD
import Derived.Test.YtjpdmncafacmaaaGreatDoorCards
import Derived.Test.YtjpdmncafacmaaaGreatDoorTie
import Derived.WalkKit
import Derived.ProofKit
import Derived.OpenShut
import Derived.ShutString
import Derived.ChangeOld
import Derived.Below
import Derived.SizedLaws
import Derived.Carry
import Derived.Deep.DeepHandedRow
import Derived.Deep.CondSized
import Derived.Lib.LaidTab
import Derived.Stop.LaidErr
import Derived.SevenTiedAt
/- The reference's alike. -/
section
set_option linter.unusedVariables false
set_option linter.unusedSimpArgs false
namespace Go.Proofs.YtjpdmncafacmaaaGreatDoor
open Go.RowKit

set_option maxRecDepth 100000 in
set_option maxHeartbeats 2000000 in
theorem alike_calls (a : Au) (hok : a.ok = true) (p q : Nat) (hp : p < a.moves.length) (hq : q < a.moves.length) (tl : List Int) (htl : tl.length = a.moves.length) (w : World) (r m u : Value) (ha : rdO AuR w a [r, .int .i64 a.start, m]) (hu : SlO w 1 (rdO IntR) tl u) :
    Calls Tryz.prog 56 #[.agg #[r, .int .i64 a.start, m], .int .i64 p, .int .i64 q, u] w (RetD w (.bool (decide (rowC a tl p = rowC a tl q)))) := by
  obtain ⟨hR, hMv, hs1, hs2⟩ := AuR.parts ha
  obtain ⟨A, c, rfl, hc, hlm⟩ := hR.val
  obtain ⟨B, d, rfl, hd, hlm2⟩ := hMv.val
  obtain ⟨_, hm1, hm6, _, _, hrows⟩ := ok_parts hok
  have hr24 := (ranksOk_parts (ok_parts hok).1).1
  obtain ⟨w2, hw2⟩ : ∃ w2, w2 = w.alloc (.cells #[.slice A a.ranks.length c, .int .i64 a.start, .slice B a.moves.length d] 25) := ⟨_, rfl⟩
  have hG2 : Grew w w2 := by rw [hw2]; exact grew_alloc _ _
  have xa : ThreeAt w2 w.heap.size (.slice A a.ranks.length c) (.int .i64 a.start) (.slice B a.moves.length d) 25 := by
    rw [hw2]; exact ThreeAt.new w _ _ _ _
  have HMVS : Hid (∀ q (hq : q < a.moves.length) (wx : World) (p0 : Value), Grew w wx → rdO RuleR w a.moves[q] [p0] → Calls Tryz.prog 57 #[p0, u] wx fun e w' => ∃ A c, e = .returned (.slice A a.ranks.length c) ∧ Grew wx w' ∧ SlO w' 1 (rdO AltsR) (rowC a tl q) (.slice A a.ranks.length c)) := fun q hq wx p0 hx hp => by
    have hb : ∀ l ∈ a.moves[q], ∀ x ∈ l, ∀ y ∈ x, 0 ≤ y.2 ∧ y.2 < tl.length := fun l hl x hx y hy => by
      have h := ok_state hok _ (List.getElem_mem hq) l hl x hx y hy
      rw [htl]
      exact h
    have hrl := (hrows _ (List.getElem_mem hq)).1
    have hsh := ok_short hok
    have hro := hsh.2 _ (List.getElem_mem hq)
    have hk := ok_rows hok
    have hke := (hk.2 _ (List.getElem_mem hq)).2
    have hrow : a.moves.getD q [] = a.moves[q] := by simp [hq]
    refine (rmoves_calls a.moves[q] tl wx p0 u (rdO_frm moves_rule hx.1 hp) (hu.frm hx.1 (stays_rd moves_int)) hb (by omega) (fun l hl => ⟨by have := (hke l hl).1; omega, fun x hxl => by have := ((hke l hl).2 x hxl).1; omega⟩)).mono ?_
    rintro e w' ⟨z, rfl, hg, ho⟩
    have hlen : (a.moves[q].map (rmv (toL tl))).length = a.ranks.length := by rw [List.length_map, hrl]
    have hsl := ho.sl moves_alts (S := fun b => b < w'.heap.size) (by rw [hlen]; omega) (fun b _ h => h) (fun b _ h => h)
    obtain ⟨A', c', rfl, _⟩ := ho.val
    rw [hlen] at hsl ⊢
    refine ⟨A', c', rfl, hg, ?_⟩
    unfold rowC
    rw [hrow]
    exact hsl
  obtain ⟨b1, o1, p0, rfl, hb1, hp0', hpt⟩ := hMv.at1 p hp
  obtain ⟨b2, o2, q0, he2, hb2, hq0', hqt⟩ := hMv.at1 q hq
  injection he2 with he2
  injection he2 with e1 e2 _
  subst e1 e2
  have hp0 := frm_cell hG2.1 hp0'
  have hq0 := frm_cell hG2.1 hq0'
  have HX := Lib.hid (HMVS.out p hp w2 p0 hG2 hpt)
  have HY : Hid (∀ wx, Grew w wx → Calls Tryz.prog 57 #[q0, u] wx fun e w' => ∃ A c, e = .returned (.slice A a.ranks.length c) ∧ Grew wx w' ∧ SlO w' 1 (rdO AltsR) (rowC a tl q) (.slice A a.ranks.length c)) := fun wx hx => HMVS.out q hq wx q0 hx hqt
  obtain ⟨B1, e3, rfl, _⟩ := (RowS.sl hpt).val
  obtain ⟨B2, e4, rfl, _⟩ := (RowS.sl hqt).val
  obtain ⟨D, ed, rfl, _⟩ := hu.val
  have hlX : (rowC a tl p).length = a.ranks.length := by
    unfold rowC
    rw [List.length_map, show a.moves.getD p [] = a.moves[p] by simp [hp], (hrows _ (List.getElem_mem hp)).1]
  have hlY : (rowC a tl q).length = a.ranks.length := by
    unfold rowC
    rw [List.length_map, show a.moves.getD q [] = a.moves[q] by simp [hq], (hrows _ (List.getElem_mem hq)).1]
  have hip : (p : Int) < a.moves.length := by omega
  have hiq : (q : Int) < a.moves.length := by omega
  have HW2 := Lib.hid hw2
  have HLX := Lib.hid hlX
  have HLY := Lib.hid hlY
  generalize rowC a tl p = X at *
  generalize rowC a tl q = Y at *
  have hlp := (hrows _ (List.getElem_mem hp)).1
  have hlq := (hrows _ (List.getElem_mem hq)).1
  rw [hlp] at hp0 HX
  rw [hlq] at hq0 HY
  obtain ⟨xa0, xa1, xa2⟩ := xa.cells
  have hp0w := hp0
  rw [hw2] at xa0 xa1 xa2 hp0 HX
  clear HMVS
  rw [htl] at HX HY ⊢
  clear hw2 hpt hqt hp0' hq0' hlX hlY hlp hlq ha hu hMv hrows hok htl
  go_enter Tryz.func56, Tryz.ntmps56
  go_wp2_with fail
  refine HX.out.mono ?_
  rw [← HW2.out]
  rintro e w3 ⟨A3, c3, rfl, hf3, hX⟩
  clear xa0 xa1 xa2
  obtain ⟨xa0, xa1, xa2⟩ := (xa.frm hf3.1).cells
  have hq03 := frm_cell hf3.1 hq0
  have hG3 := grew_trans hG2 hf3
  dsimp only
  go_wp2_with fail
  refine (HY.out _ hG3).mono ?_
  rintro e w4 ⟨A4, c4, rfl, hf4, hY⟩
  clear xa0 xa1 xa2
  obtain ⟨xa0, xa1, xa2⟩ := ((xa.frm hf3.1).frm hf4.1).cells
  have hG4 := grew_trans hG3 hf4
  have hX4 := hX.frm hf4.1 (stays_rd moves_alts)
  have HX4 := Lib.hid hX4
  have HY4 := Lib.hid hY
  clear hX hX4 hY hp0 hp0w hq0 hq03
  dsimp only
  go_wp2_with fail
  go_loopw [29] (fun i wr => ∃ k : Nat, k ≤ a.ranks.length ∧ i = .int .i64 k ∧ Grew w4 wr ∧ Hid (decide (X = Y) = decide (X.drop k = Y.drop k))) (fun i _ => a.ranks.length - (intOf i).toNat)
  case atStart => exact ⟨0, Nat.zero_le _, rfl, grew_refl _, rfl⟩
  case round =>
    obtain ⟨k, hk, rfl, hfr, HC⟩ := hrel
    by_cases hlt : k < a.ranks.length
    · obtain ⟨b5, o5, x0, rfl, hb5, hx0', hxt⟩ := HX4.out.at1 k (by rw [HLX.out]; exact hlt)
      obtain ⟨b6, o6, y0, rfl, hb6, hy0', hyt⟩ := HY4.out.at1 k (by rw [HLY.out]; exact hlt)
      have hx0 := frm_cell hfr.1 hx0'
      have hy0 := frm_cell hfr.1 hy0'
      have hd := Lib.hid (drop_eq_drop X Y k (by rw [HLX.out]; exact hlt) (by rw [HLY.out]; exact hlt))
      have ih : Hid (∀ wx, Grew wr wx → Calls Tryz.prog 63 #[x0, y0] wx (RetD wx (.bool (decide (X[k]'(by rw [HLX.out]; exact hlt) = Y[k]'(by rw [HLY.out]; exact hlt)))))) := fun wx hx =>
        rsameM_calls _ _ wx _ _ (RowS.sl (rdO_frm moves_alts (grew_trans hfr hx).1 hxt)) (RowS.sl (rdO_frm moves_alts (grew_trans hfr hx).1 hyt))
      generalize X[k]'(by rw [HLX.out]; exact hlt) = x at *
      generalize Y[k]'(by rw [HLY.out]; exact hlt) = y at *
      have HK0 : Hid (Grew wr wr.drew ∧ wr.drew.cell? ⟨b5, o5 + k, none⟩ = some x0 ∧ wr.drew.cell? ⟨b6, o6 + k, none⟩ = some y0) := ⟨grew_drew _, hx0, hy0⟩
      have HKG : Hid (∀ wx wy, Grew wr wx ∧ wx.cell? ⟨b5, o5 + k, none⟩ = some x0 ∧ wx.cell? ⟨b6, o6 + k, none⟩ = some y0 → Grew wx wy → Grew wr wy ∧ wy.cell? ⟨b5, o5 + k, none⟩ = some x0 ∧ wy.cell? ⟨b6, o6 + k, none⟩ = some y0) := fun wx wy h hf => ⟨grew_trans h.1 hf, frm_cell hf.1 h.2.1, frm_cell hf.1 h.2.2⟩
      have hki : (k : Int) < a.ranks.length := by omega
      clear hx0' hy0' hxt hyt
      go_wp2_with fail
      go_region_held3 (fun wx => Grew wr wx ∧ wx.cell? ⟨b5, o5 + k, none⟩ = some x0 ∧ wx.cell? ⟨b6, o6 + k, none⟩ = some y0) (first | exact HK0.out | exact HKG.out _ _ (by assumption) (by assumption)) ((go_at_call 63; refine (ih.out _ (And.left (by assumption))).mono ?_; rintro e w' ⟨rfl, hfw⟩))
      rename_i hHeld
      have hf := hHeld.1
      by_cases hz : x = y
      · have HD : Hid (decide (X = Y) = decide (X.drop (k + 1) = Y.drop (k + 1))) := by
          unfold Hid
          rw [HC.out, hd.out, decide_eq_true hz, Bool.true_and]
        rw [decide_eq_true hz]
        clear hz
        go_wp2_with fail
        exact ⟨⟨k + 1, by omega, by go_num, grew_trans hfr hf, HD⟩, by simp [intOf]; omega⟩
      · have HD : Hid (decide (X = Y) = false) := by
          unfold Hid
          rw [HC.out, hd.out, decide_eq_false hz]
          rfl
        rw [decide_eq_false hz]
        clear hz
        go_wp2_with fail
        exact bodyPost_ret (results_tmp rfl _ _ _) rfl ⟨by rw [HD.out]; rfl, grew_trans hG4 (grew_trans hfr hf)⟩
    · have HD : Hid (decide (X = Y) = true) := by
        unfold Hid
        rw [HC.out, List.drop_eq_nil_of_le (by rw [HLX.out]; omega), List.drop_eq_nil_of_le (by rw [HLY.out]; omega)]
        simp
      go_wp2_with fail
      exact bodyPost_ret (results_tmp rfl _ _ _) rfl ⟨by rw [HD.out]; rfl, grew_trans hG4 hfr⟩
end Go.Proofs.YtjpdmncafacmaaaGreatDoor
end
/- The reference's Copy of automata: each row in a block of its own. -/
section
set_option linter.unusedVariables false
set_option linter.unusedSimpArgs false
namespace Go.Proofs.YtjpdmncafacmaaaGreatDoor
open Go.RowKit

/-- A row in a block of its own, that may be written; what it holds lies elsewhere. -/
def RowX : RdS (List (List (List Nd))) := fun S w row cs => ∃ v, cs = [v] ∧ ((v = .slice none 0 0 ∧ row = []) ∨ ∃ g c, v = .slice (some ⟨g, 0, none⟩) row.length c ∧ row.length ≤ c ∧ row.length ≤ 100000 ∧ S g ∧ Unf w g ∧ RowG 1 (WR AltsR) (fun b => S b ∧ b ≠ g) w g row)
theorem moves_rowX : Moves RowX := by
  intro S S' w w' x cs hS hw h
  obtain ⟨v, hv, h⟩ := h
  refine ⟨v, hv, ?_⟩
  rcases h with h | ⟨g, c, h1, h2, h3, h4, h5, h6⟩
  · exact .inl h
  · exact .inr ⟨g, c, h1, h2, h3, hS g h4, h5.move (hw g h4), h6.move (moves_WR moves_alts) (fun b hb => ⟨hS b hb.1, hb.2⟩) (fun b hb => hw b hb.1) (hw g h4)⟩
/-- A row, and the bounds of the blocks that it lies in. -/
abbrev Tag := List (List (List Nd)) × Nat × Nat
def RowT : RdS Tag := fun S w x cs => RowX (fun b => S b ∧ x.2.1 ≤ b ∧ b < x.2.2) w x.1 cs
theorem moves_rowT : Moves RowT := fun S S' w w' x cs hS hw h => moves_rowX _ _ _ _ _ _ (fun b hb => ⟨hS b hb.1, hb.2⟩) (fun b hb => hw b hb.1) h
structure TagOk (n0 n : Nat) (ts : List Tag) (rows : List (List (List (List Nd)))) : Prop where
  rows : ts.map (·.1) = rows
  low : ∀ t ∈ ts, n0 ≤ t.2.1 ∧ t.2.2 ≤ n
  apart : ts.Pairwise fun x y => x.2.2 ≤ y.2.1
theorem TagOk.nil (n0 n : Nat) : TagOk n0 n [] [] := ⟨rfl, by simp, .nil⟩
theorem TagOk.app {n0 n n' a b : Nat} {ts : List Tag} {rows : List (List (List (List Nd)))} {row : List (List (List Nd))} (h : TagOk n0 n ts rows) (h1 : n ≤ a) (h2 : n0 ≤ a) (h3 : a ≤ n' ∧ b ≤ n') : TagOk n0 n' (ts ++ [(row, a, b)]) (rows ++ [row]) := by
  refine ⟨by rw [List.map_append, h.rows]; rfl, fun t ht => ?_, ?_⟩
  · rcases List.mem_append.1 ht with ht | ht
    · have := h.low t ht
      omega
    · obtain rfl := List.mem_singleton.1 ht
      exact ⟨h2, h3.2⟩
  · rw [List.pairwise_append]
    refine ⟨h.apart, by simp, fun x hx y hy => ?_⟩
    obtain rfl := List.mem_singleton.1 hy
    have := (h.low x hx).2
    show x.2.2 ≤ a
    omega
theorem rowT_own {w : World} {n0 : Nat} {v : Value} {row : List (List (List Nd))} {T : TypeId} (h : Own (WR AltsR) w n0 T 1 (fun b => n0 ≤ b) v row) (hl : row.length ≤ 100000) : RowT (fun b => n0 ≤ b ∧ b < w.heap.size) w (row, n0, w.heap.size) [v] := by
  refine ⟨v, rfl, ?_⟩
  have hu := h.unf
  rcases h.cases with h1 | ⟨g, c, rfl, h2, h3, h4⟩
  · exact .inl h1
  · exact .inr ⟨g, c, rfl, h2, hl, ⟨⟨h3, h4⟩, h3, h4⟩, hu g rfl, h.rowG.move (moves_WR moves_alts) (fun b hb => ⟨⟨⟨hb.1, hb.2.1⟩, hb.1, hb.2.1⟩, fun e => hb.2.2 (by rw [e]; rfl)⟩) (fun _ _ => rfl) rfl⟩
/-- An automaton under way; its rows' bounds are told. -/
def OutT (w : World) (g n0 : Nat) (r : Value) (st : Int) (mv : Value) (ts : List Tag) : Prop :=
  ThreeAt w g r (.int .i64 st) mv 25 ∧ g < n0 ∧ n0 ≤ w.heap.size ∧ Own RowT w n0 49 1 (fun b => n0 ≤ b) mv ts
theorem OutT.grew {w w' : World} {g n0 : Nat} {r : Value} {st : Int} {mv : Value} {xs : List Tag} (h : OutT w g n0 r st mv xs) (hf : Grew w w') : OutT w' g n0 r st mv xs :=
  ⟨h.1.frm hf.1, h.2.1, Nat.le_trans h.2.2.1 hf.1.size, h.2.2.2.kept moves_rowT hf.1 (ownNone _) (by simp)⟩
/-- As RetU2; each row lies apart from the others. -/
def RetU3 (w : World) (a : Au) (e : Ending) (w' : World) : Prop :=
  ∃ r m n0 ts, e = .returned (.agg #[r, .int .i64 a.start, m]) ∧ Grew w w' ∧ w.heap.size ≤ n0 ∧ TagOk n0 w'.heap.size ts a.moves ∧
    Own RowT w' n0 49 1 (fun b => n0 ≤ b) m ts ∧ WR (RowS 1 IntR) (fun b => w.heap.size ≤ b ∧ b < n0) w' a.ranks [r]
set_option maxRecDepth 100000 in
set_option maxHeartbeats 2000000 in
theorem rcopy3_calls (a : Au) (hok : a.ok = true) (w : World) (r m : Value) (h : rdO AuR w a [r, .int .i64 a.start, m]) :
    Calls Tryz.prog 20 #[.agg #[r, .int .i64 a.start, m]] w (RetU3 w a) := by
  obtain ⟨hR, hM, hs1, hs2⟩ := AuR.parts h
  obtain ⟨A, c, rfl, hc, hlm⟩ := hR.val
  obtain ⟨B, d, rfl, hd, hlm2⟩ := hM.val
  have hla := (ok_rows hok).1
  have hlr := (ranksOk_parts (ok_parts hok).1).1
  have HOK := Lib.hid hok
  have HM := Lib.hid hM
  have HR := Lib.hid hR
  clear hok h hM hR
  obtain ⟨w2, hw2⟩ : ∃ w2, w2 = ((w.alloc (.cells #[.slice A a.ranks.length c, .int .i64 a.start, .slice B a.moves.length d] 25)).alloc (.cells #[.slice none 0 0, .int .i64 0, .slice none 0 0] 25)).alloc (.cells #[.slice none 0 0, .int .i64 a.start, .slice none 0 0] 25) := ⟨_, rfl⟩
  have hG2 : Grew w w2 := by rw [hw2]; exact grew_then_alloc (grew_then_alloc (grew_alloc _ _) _) _
  have xa : ThreeAt w2 w.heap.size (.slice A a.ranks.length c) (.int .i64 a.start) (.slice B a.moves.length d) 25 := by
    rw [hw2]; exact ((ThreeAt.new w _ _ _ _).frm (frm_alloc _ _)).frm (frm_alloc _ _)
  have xr : ThreeAt w2 (w.heap.size + 1) (.slice none 0 0) (.int .i64 0) (.slice none 0 0) 25 := by
    have h := ThreeAt.new (w.alloc (.cells #[.slice A a.ranks.length c, .int .i64 a.start, .slice B a.moves.length d] 25)) (.slice none 0 0) (.int .i64 0) (.slice none 0 0) 25
    rw [World.size_alloc] at h
    rw [hw2]; exact h.frm (frm_alloc _ _)
  have xo : ThreeAt w2 (w.heap.size + 2) (.slice none 0 0) (.int .i64 a.start) (.slice none 0 0) 25 := by
    have h := ThreeAt.new ((w.alloc (.cells #[.slice A a.ranks.length c, .int .i64 a.start, .slice B a.moves.length d] 25)).alloc (.cells #[.slice none 0 0, .int .i64 0, .slice none 0 0] 25)) (.slice none 0 0) (.int .i64 a.start) (.slice none 0 0) 25
    rw [World.size_alloc, World.size_alloc] at h
    rw [hw2]; exact h
  have HW2 := Lib.hid hw2
  clear hw2
  go_enter Tryz.func20, Tryz.ntmps20
  repeat ((fail_if_success at_builtin); first | go_values | go_skip | go_guarded | go_step | go_upon)
  rw [← HW2.out]
  have hS2 : Sl (fun b => b < w.heap.size) w2 1 (IntR (fun b => b < w.heap.size) w2) a.ranks (.slice A a.ranks.length c) :=
    Sl.move HR.out (fun b hb => hb) (frm_lt hG2.1) fun x _ cs h => moves_int _ _ _ _ _ _ (fun b hb => hb) (frm_lt hG2.1) h
  have hsz2 : w.heap.size + 2 < w2.heap.size := xo.lt
  obtain ⟨v3, w3, hrun, hO3, hg3, hp3⟩ := Own.app_sl moves_int elem_int (Own.nil IntR w2 w2.heap.size 3 1 (fun _ => True)) 22 hS2 (fun b hb => ⟨trivial, by omega, fun e => by cases e⟩) (fun x cs h u hu => by
    obtain ⟨rfl, _⟩ := h
    simp only [List.mem_cons, List.not_mem_nil, or_false] at hu
    subst hu
    rfl) (by simp; omega) (by omega) (Nat.le_refl _)
  refine append_list _ _ rfl rfl rfl rfl hrun ?_
  have hG23 : Grew w2 w3 := ⟨frm_weak hg3.1, hg3.2⟩
  rw [List.nil_append] at hO3
  obtain ⟨Ar, cr, rfl, hcr⟩ := hO3.val
  replace xa := xa.frm hG23.1
  replace xr := xr.frm hG23.1
  replace xo := xo.frm hG23.1
  have hs23 := hG23.1.size
  have hXO := xo.set0 (.slice Ar a.ranks.length cr)
  have hG3 : Grew w (w3.setCell ⟨w.heap.size + 2, 0, none⟩ (.slice Ar a.ranks.length cr)) := grew_set_new (grew_trans hG2 hG23) (by omega) _ _
  have hset : ∀ q, q ≠ w.heap.size + 2 → (w3.setCell ⟨w.heap.size + 2, 0, none⟩ (.slice Ar a.ranks.length cr)).heap[q]? = w3.heap[q]? := fun q hq => Below.heap_setCell _ _ _ _ hq
  have hW3 := (own_int (ok' := fun _ => False) hO3).slW moves_int (by omega) (S := fun b => w2.heap.size ≤ b ∧ b < w3.heap.size) (fun b h _ => h.elim) (fun b hb => hO3.lt b hb)
  have hW4 : WR (RowS 1 IntR) (fun b => w.heap.size + 2 < b ∧ b < w3.heap.size) (w3.setCell ⟨w.heap.size + 2, 0, none⟩ (.slice Ar a.ranks.length cr)) a.ranks [.slice Ar a.ranks.length cr] :=
    moves_WR (moves_row moves_int) _ _ _ _ _ _ (fun b hb => ⟨by omega, hb.2⟩) (fun b hb => hset b (by omega)) hW3
  have xa4 := xa.move (hset _ (by omega))
  have xr4 := xr.move (hset _ (by omega))
  have hfz := xo.free 0
  obtain ⟨ho0, ho1, ho2⟩ := xo.cells
  have hO4 : OutT (w3.setCell ⟨w.heap.size + 2, 0, none⟩ (.slice Ar a.ranks.length cr)) (w.heap.size + 2) w3.heap.size (.slice Ar a.ranks.length cr) a.start (.slice none 0 0) [] :=
    ⟨hXO, by omega, by simp, Own.nil _ _ _ _ _ _⟩
  have hn3 : (w3.setCell ⟨w.heap.size + 2, 0, none⟩ (.slice Ar a.ranks.length cr)).heap.size = w3.heap.size := by simp
  generalize hw4 : w3.setCell ⟨w.heap.size + 2, 0, none⟩ (.slice Ar a.ranks.length cr) = w4 at *
  have HW4 := Lib.hid hW4
  have HO4 := Lib.hid hO4
  have HG3 := Lib.hid hG3
  obtain ⟨n0, hn0⟩ : ∃ n0, n0 = w3.heap.size := ⟨_, rfl⟩
  rw [← hn0] at hn3
  have hng : w.heap.size + 2 < n0 := by omega
  have HXA := Lib.hid xa4
  have HXR := Lib.hid xr4
  have HO4 : Hid (OutT w4 (w.heap.size + 2) n0 (.slice Ar a.ranks.length cr) a.start (.slice none 0 0) []) := by rw [hn0]; exact hO4
  have HW5 : Hid (WR (RowS 1 IntR) (fun b => w.heap.size + 2 < b ∧ b < n0) w4 a.ranks [.slice Ar a.ranks.length cr]) := by rw [hn0]; exact hW4
  obtain ⟨ha0, ha1, ha2⟩ := xa4.cells
  clear hW4 hO4 hG3 hXO hset hW3 hS2 hrun hO3 hp3 xa xr xo xa4 xr4 hn0 HW4
  go_wp2_with fail
  clear hfz ho0 ho1 ho2 hw4
  go_loopw [24] (fun i wr => ∃ k : Nat, k ≤ a.moves.length ∧ i = .int .i64 k ∧ GrewG (w.heap.size + 2) n0 w4 wr ∧ ∃ mv ts, TagOk n0 wr.heap.size ts (a.moves.take k) ∧ OutT wr (w.heap.size + 2) n0 (.slice Ar a.ranks.length cr) a.start mv ts) (fun i _ => a.moves.length - (intOf i).toNat)
  case atStart => exact ⟨0, Nat.zero_le _, rfl, .refl _ _ _, _, [], .nil _ _, HO4.out⟩
  case round =>
    obtain ⟨k, hk, rfl, hfr, mv, ts, hts, hO⟩ := hrel
    have hGr : Grew w wr := GrewG.grew HG3.out (by omega) (by omega) hfr
    by_cases hlt : k < a.moves.length
    · obtain ⟨b, o, p0, rfl, hb, hp0', hpt⟩ := HM.out.at1 k hlt
      have hp0 := frm_cell hGr.1 hp0'
      have HT := Lib.hid (List.take_succ_eq_append_getElem hlt)
      have hlk : (a.moves.take k).length = k := by rw [List.length_take]; omega
      have HTS := Lib.hid hts
      have htl : ts.length = k := by rw [← hlk, ← hts.1, List.length_map]
      have HL := Lib.hid htl
      have HRr := Lib.hid ((ok_rows HOK.out).2 _ (List.getElem_mem hlt))
      have hrl := HRr.out.1
      generalize a.moves[k] = row at *
      have hRow := row_val hpt
      obtain ⟨A2, c2, rfl, hc2, hm2⟩ := hRow.val
      have HRow := Lib.hid hRow
      have HO := Lib.hid hO
      have hlg := hO.1.lt
      have hnw := hO.2.2.1
      have HGr := Lib.hid hGr
      clear hO hlk hpt hRow hp0' hGr hts htl
      go_wp2_with fail
      obtain ⟨wo, hwo⟩ : ∃ wo : World, wo = wr := ⟨_, rfl⟩
      subst hwo
      go_loopw [6, 30] (fun u i wq => ∃ j : Nat, j ≤ row.length ∧ i = .int .i64 j ∧ Grew wo wq ∧ Own (WR AltsR) wq wo.heap.size 50 1 (fun b => wo.heap.size ≤ b) u (row.take j)) (fun _ i _ => row.length - (intOf i).toNat)
      case atStart => exact ⟨0, Nat.zero_le _, rfl, grew_refl _, Own.nil _ _ _ _ _ _⟩
      case round =>
        obtain ⟨j, hj, rfl, hfq, hQ⟩ := hrel
        obtain ⟨Aq, cq, he, hcq⟩ := hQ.val
        have hlj : (row.take j).length = j := by rw [List.length_take]; omega
        rw [hlj] at he hcq
        subst he
        by_cases hltj : j < row.length
        · obtain ⟨b3, o3, q0, rfl, hb3, hq0', hqt⟩ := HRow.out.at1 j hltj
          have hq0 := frm_cell (grew_trans HGr.out hfq).1 hq0'
          have HT2 := Lib.hid (List.take_succ_eq_append_getElem hltj)
          obtain ⟨hal1, hal2⟩ := HRr.out.2 _ (List.getElem_mem hltj)
          generalize row[j] = alts at *
          have hAl := row_val hqt
          obtain ⟨A3, c3, rfl, hc3, hm3⟩ := hAl.val
          have HAl := Lib.hid hAl
          have HAL2 := Lib.hid hal2
          have HQ := Lib.hid hQ
          have HLJ := Lib.hid hlj
          have HFQ := Lib.hid hfq
          clear hqt hAl hq0' hQ hlj hal2 hfq
          go_wp2_with fail
          obtain ⟨wi, hwi⟩ : ∃ wi : World, wi = wr := ⟨_, rfl⟩
          subst hwi
          go_loopw [9, 36] (fun u i wz => ∃ l : Nat, l ≤ alts.length ∧ i = .int .i64 l ∧ Grew wi wz ∧ Own (WR AltR) wz wi.heap.size 76 1 (fun b => wi.heap.size ≤ b) u (alts.take l)) (fun _ i _ => alts.length - (intOf i).toNat)
          case atStart => exact ⟨0, Nat.zero_le _, rfl, grew_refl _, Own.nil _ _ _ _ _ _⟩
          case round =>
            obtain ⟨l, hl, rfl, hfz, hZ⟩ := hrel
            obtain ⟨Az, cz, he, hcz⟩ := hZ.val
            have hll : (alts.take l).length = l := by rw [List.length_take]; omega
            rw [hll] at he hcz
            subst he
            by_cases hltl : l < alts.length
            · obtain ⟨b4, o4, z0, rfl, hb4, hz0', hzt⟩ := HAl.out.at1 l hltl
              have hGz := grew_trans (grew_trans HGr.out HFQ.out) hfz
              have hz0 := frm_cell hGz.1 hz0'
              have HT3 := Lib.hid (List.take_succ_eq_append_getElem hltl)
              have hnl := (HAL2.out _ (List.getElem_mem hltl)).1
              generalize alts[l] = x at *
              have hX := row_val hzt
              obtain ⟨A4, c4, rfl, hc4, hm4⟩ := hX.val
              have HX := Lib.hid hX
              have HZ := Lib.hid hZ
              have HLL := Lib.hid hll
              clear hzt hX hz0' hZ hll
              repeat ((fail_if_success at_builtin); first | go_values | go_skip | go_guarded | go_step | go_upon)
              have hO5 := Own.empty NdR wr 80 2 (fun _ => True) (Nat.le_refl wr.heap.size)
              have hGz5 := grew_then_alloc hGz (.cells #[] 80)
              have hS5 : Sl (fun b => b < w.heap.size) (wr.alloc (.cells #[] 80)) 2 (NdR (fun b => b < w.heap.size) (wr.alloc (.cells #[] 80))) x (.slice A4 x.length c4) :=
                Sl.move HX.out (fun b hb => hb) (frm_lt hGz5.1) fun x _ cs h => moves_nd _ _ _ _ _ _ (fun b hb => hb) (frm_lt hGz5.1) h
              have hszr := hGz.1.size
              obtain ⟨v6, w6, hrun, hO6, hg6, hp6⟩ := Own.app_sl moves_nd elem_nd hO5 76 hS5 (fun b hb => ⟨trivial, by simp; omega, fun e => by
                have e2 : some b = some wr.heap.size := e
                injection e2 with e2
                omega⟩) (fun x cs h => one_nd h) (by simp; omega) (by omega) (by simp)
              refine append_list _ _ rfl rfl rfl rfl hrun ?_
              have hG6 : Grew wr w6 := grew_new (grew_alloc wr _) (Nat.le_refl _) hg6
              rw [List.nil_append] at hO6
              have hl6 := hO6.lt
              have hW6 : WR AltR (fun b => wr.heap.size ≤ b ∧ b < w6.heap.size) w6 x [v6] := Own.slW (r := NdR) moves_nd (ok := fun _ => False) (show Own (WR NdR) w6 wr.heap.size _ 2 (fun _ => False) v6 x from hO6) (by omega) (fun b h _ => h.elim) (fun b hb => hl6 b hb)
              obtain ⟨A6, c6, rfl, hc6⟩ := hO6.val
              have HW6 := Lib.hid hW6
              have HL6 := Lib.hid hl6
              clear hrun hO6 hO5 hS5 hW6 hl6 hp6
              repeat ((fail_if_success at_builtin); first | go_values | go_skip | go_guarded | go_step | go_upon)
              have hf7 : Grew wr (w6.alloc (.cells #[.slice A6 x.length c6] 76)) := grew_then_alloc hG6 _
              have hO7 := HZ.out.kept (moves_WR moves_alt) hf7.1 (ownNone _) (by simp)
              have htw := OneAt.new w6 (.slice A6 x.length c6) 76
              have hlen := HLL.out
              have hs6 := hG6.1.size
              have hsi := hfz.1.size
              have hltO := HZ.out.lt
              refine Own.app1 (moves_WR moves_alt) elem_alt hO7 rfl _ _ rfl rfl rfl x [.slice A6 x.length c6] rfl (one_at htw) ?_ ?_ (by rw [hlen]; omega) (by omega) (by simp; omega) ?_
              · intro u hu
                simp at hu
                subst hu
                rfl
              · refine moves_WR moves_alt _ _ _ _ _ _ (fun q hq => ⟨by omega, by simp; omega, fun e => ?_⟩) (fun q hq => Below.heap_alloc _ _ _ (by omega)) HW6.out
                have := (hltO q e.symm).2
                omega
              intro v8 w8 hO8 hg8 hp8
              have hfr8 : Grew wi w8 := grew_own (grew_trans hfz hf7) (fun b hb => (hltO b hb).1) hg8.1 hg8.2
              rw [← HT3.out] at hO8
              obtain ⟨A8, c8, he8, hcc8⟩ := hO8.val
              have HO8 := Lib.hid hO8
              clear hO8 hO7 htw hltO
              rw [show (alts.take (l + 1)).length = l + 1 by rw [List.length_take]; omega] at he8
              subst he8
              go_wp2_with fail
              exact ⟨⟨l + 1, by omega, by go_num, hfr8, HO8.out⟩, by simp [intOf]; omega⟩
            · obtain rfl : l = alts.length := by omega
              rw [List.take_length] at hZ
              have hsi := hfz.1.size
              have hWz := hZ.slW moves_alt (by omega) (S := fun b => wi.heap.size ≤ b ∧ b < wr.heap.size) (fun b h1 h2 => ⟨h1, h2⟩) (fun b hb => hZ.lt b hb)
              have HWz := Lib.hid hWz
              clear hZ hll hWz
              repeat ((fail_if_success at_builtin); first | go_values | go_skip | go_guarded | go_step | go_upon)
              have hf5 : Grew wi (wr.alloc (.cells #[.slice Az alts.length cz] 50)) := grew_then_alloc hfz _
              have hO5 := HQ.out.kept (moves_WR moves_alts) hf5.1 (ownNone _) (by simp)
              have htw := OneAt.new wr (.slice Az alts.length cz) 50
              have hlen := HLJ.out
              have hso := HFQ.out.1.size
              have hltO := HQ.out.lt
              refine Own.app1 (moves_WR moves_alts) elem_alts hO5 rfl _ _ rfl rfl rfl alts [.slice Az alts.length cz] rfl (one_at htw) ?_ ?_ (by rw [hlen]; omega) (by omega) (by simp; omega) ?_
              · intro u hu
                simp at hu
                subst hu
                rfl
              · refine moves_WR moves_alts _ _ _ _ _ _ (fun q hq => ⟨by omega, by simp; omega, fun e => ?_⟩) (fun q hq => Below.heap_alloc _ _ _ (by omega)) HWz.out
                have := (hltO q e.symm).2
                omega
              intro v7 w7 hO7 hg7 hp7
              have hfr7 : Grew wo w7 := grew_own (grew_trans HFQ.out hf5) (fun b hb => (hltO b hb).1) hg7.1 hg7.2
              rw [← HT2.out] at hO7
              obtain ⟨A7, c7, he7, hcc7⟩ := hO7.val
              have HO7 := Lib.hid hO7
              clear hO7 hO5 htw hltO
              rw [show (row.take (j + 1)).length = j + 1 by rw [List.length_take]; omega] at he7
              subst he7
              go_wp2_with fail
              exact ⟨⟨j + 1, by omega, by go_num, hfr7, HO7.out⟩, by simp [intOf]; omega⟩
        · obtain rfl : j = row.length := by omega
          rw [List.take_length] at hQ
          have hO1 := HO.out.grew hfq
          obtain ⟨hc0, hc1, hc2'⟩ := hO1.1.cells
          obtain ⟨Am, cm, hme, hmc⟩ := hO1.2.2.2.val
          rw [HL.out] at hme hmc
          subst hme
          have hsq := hfq.1.size
          have hWq := rowT_own hQ (Nat.le_trans hrl (by omega))
          have HWq := Lib.hid hWq
          have HO1 := Lib.hid hO1
          clear hWq hQ hO1 hlj
          repeat ((fail_if_success at_builtin); first | go_values | go_skip | go_guarded | go_step | go_upon)
          have hf5 : Grew wr (wr.alloc (.cells #[.slice Aq row.length cq] 49)) := grew_alloc _ _
          have hO5 := (HO1.out.grew hf5)
          have htw := OneAt.new wr (.slice Aq row.length cq) 49
          have hlen := HL.out
          have hltO := hO5.2.2.2.lt
          have hltO1 := HO1.out.2.2.2.lt
          refine Own.app1 moves_rowT elem_rule hO5.2.2.2 rfl _ _ rfl rfl rfl (row, wo.heap.size, wr.heap.size) [.slice Aq row.length cq] rfl (one_at htw) ?_ ?_ (by rw [hlen]; omega) (by omega) (by simp; omega) ?_
          · intro u hu
            simp at hu
            subst hu
            rfl
          · refine moves_rowT _ _ _ _ _ _ (fun q hq => ⟨by omega, by simp; omega, fun e => ?_⟩) (fun q hq => Below.heap_alloc _ _ _ (by omega)) HWq.out
            have hO2 := HO.out.2.2.2.lt q e.symm
            omega
          intro v7 w7 hO7 hg7 hp7
          have hTS7 : TagOk n0 w7.heap.size (ts ++ [(row, wo.heap.size, wr.heap.size)]) (a.moves.take (k + 1)) := by
            rw [HT.out]
            exact HTS.out.app (by omega) (by omega) (by have := hg7.1.size; simp at this; omega)
          have HTS7 := Lib.hid hTS7
          clear hTS7
          have hT7 : ThreeAt w7 (w.heap.size + 2) (.slice Ar a.ranks.length cr) (.int .i64 a.start) (.slice Am k cm) 25 := hO5.1.move (hg7.1.block _ (by simp; omega) (fun e => by have := (hltO _ e.symm).1; omega))
          have hG7 : GrewG (w.heap.size + 2) n0 wo w7 := (GrewG.of (grew_trans hfq hf5) (by omega)).trans (.ofR hg7 (by simp; omega) (fun q hq => by have := (hltO q hq).1; omega))
          obtain ⟨A7, c7, he7, hcc7⟩ := hO7.val
          rw [show (ts ++ [(row, wo.heap.size, wr.heap.size)]).length = k + 1 by rw [List.length_append, HL.out]; rfl] at he7
          have hT8 := hT7.set2 v7
          have hO8 := hO7.kept moves_rowT (w' := w7.setCell ⟨w.heap.size + 2, 2, none⟩ v7) (row := some (w.heap.size + 2)) (frm_set (frm_refl _ _) _ _) (.inr fun e => by have := (hO7.lt _ e).1; omega) (fun q hq e => by injection e with e; omega)
          have HG8 := Lib.hid (hfr.trans (hG7.set 2 v7))
          obtain ⟨hd0, hd1, hd2⟩ := hT7.cells
          have hfz7 := hT7.free 2
          have HO8 := Lib.hid (show OutT (w7.setCell ⟨w.heap.size + 2, 2, none⟩ v7) (w.heap.size + 2) n0 (.slice Ar a.ranks.length cr) a.start v7 (ts ++ [(row, wo.heap.size, wr.heap.size)]) from ⟨hT8, by omega, by have := hg7.1.size; simp at this ⊢; omega, hO8⟩)
          clear hO7 hO5 htw hltO hO8 hT8 hT7 hG7
          subst he7
          go_wp2_with fail
          exact ⟨⟨k + 1, by omega, by go_num, HG8.out, _, _, by simpa using HTS7.out, HO8.out⟩, by simp [intOf]; omega⟩
    · obtain rfl : k = a.moves.length := by omega
      rw [List.take_length] at hts
      obtain ⟨hO1, _, hnw, hO2⟩ := hO
      have htl : ts.length = a.moves.length := by rw [← hts.1, List.length_map]
      have hrk9 : WR (RowS 1 IntR) (fun q => w.heap.size + 2 < q ∧ q < n0) wr a.ranks [.slice Ar a.ranks.length cr] :=
        moves_WR (moves_row moves_int) _ _ _ _ _ _ (fun q hq => hq) (fun q hq => hfr.block q (by omega) (by omega)) HW5.out
      obtain ⟨Am, cm, hme, hmc⟩ := hO2.val
      rw [htl] at hme
      subst hme
      obtain ⟨he0, he1, he2⟩ := hO1.cells
      have xr9 := HXR.out.move (hfr.block _ (by omega) (by omega))
      obtain ⟨hx0, hx1, hx2⟩ := xr9.cells
      have hxf0 := xr9.free 0
      have hxf1 := xr9.free 1
      have hxf2 := xr9.free 2
      have HO2 := Lib.hid hO2
      have HTS := Lib.hid hts
      have hlt2 := hO2.lt
      have HRK := Lib.hid hrk9
      clear hrk9 hO2 hO1 xr9 hts
      go_wp2_with fail
      refine bodyPost_ret (v := .agg #[.slice Ar a.ranks.length cr, .int .i64 a.start, .slice Am a.moves.length cm]) (by simp [results, Tryz.results20, go_sem, hx0, hx1, hx2, hxf0, hxf1, hxf2]) rfl ⟨_, _, n0, ts, rfl, ?_, by omega, ?_, ?_, ?_⟩
      · exact grew_set_new (grew_set_new (grew_set_new hGr (by omega) _ _) (by omega) _ _) (by omega) _ _
      · simpa using HTS.out
      · exact HO2.out.kept moves_rowT (w' := ((wr.setCell ⟨w.heap.size + 1, 0, none⟩ (.slice Ar a.ranks.length cr)).setCell ⟨w.heap.size + 1, 1, none⟩ (.int .i64 a.start)).setCell ⟨w.heap.size + 1, 2, none⟩ (.slice Am a.moves.length cm)) (row := some (w.heap.size + 1))
          (frm_set (frm_set (frm_set (frm_refl _ _) _ _) _ _) _ _) (.inr fun e => by have := hlt2 _ e; omega) (fun b hb e => by injection e with e; omega)
      · refine moves_WR (moves_row moves_int) _ _ _ _ _ _ (fun q hq => ⟨by omega, by omega⟩) (fun q hq => ?_) HRK.out
        rw [Below.heap_setCell _ _ _ _ (by show q ≠ w.heap.size + 1; omega), Below.heap_setCell _ _ _ _ (by show q ≠ w.heap.size + 1; omega), Below.heap_setCell _ _ _ _ (by show q ≠ w.heap.size + 1; omega)]
end Go.Proofs.YtjpdmncafacmaaaGreatDoor
end
/- Rows made smallest in place: what lies where. -/
section
set_option linter.unusedVariables false
set_option linter.unusedSimpArgs false
namespace Go.Proofs.YtjpdmncafacmaaaGreatDoor
open Go.RowKit

/-- Where the rows of an automaton lie: each in a block of its own. -/
structure RowsAt (w : World) (gm n0 : Nat) (rb : Nat → Nat) (n L : Nat) : Prop where
  head : ∀ p, p < n → ∃ A c, w.cell? ⟨gm, p, none⟩ = some (.slice A L c) ∧ L ≤ c ∧ (0 < L → A = some ⟨rb p, 0, none⟩)
  low : ∀ p, p < n → 0 < L → n0 ≤ rb p ∧ rb p ≠ gm
  inj : ∀ p p', p < n → p' < n → 0 < L → rb p = rb p' → p = p'
/-- Blocks that are no row's. -/
def Off (rb : Nat → Nat) (n L : Nat) (b : Nat) : Prop := ∀ p, p < n → 0 < L → rb p ≠ b
/-- The rows before `q`, and `f` cells of that, are made smallest. -/
structure PI (n0 : Nat) (wc wr : World) (rb : Nat → Nat) (n L : Nat) (M : Nat → Nat → List (List Nd)) (q f : Nat) : Prop where
  grew : GrewP (Off rb n L) wc wr
  cell : ∀ p j, p < n → j < L → ∃ v, wr.cell? ⟨rb p, j, none⟩ = some v ∧ AltsR (fun b => n0 ≤ b ∧ b < wr.heap.size ∧ Off rb n L b) wr (if p < q ∨ p = q ∧ j < f then smallest (M p j) else M p j) [v]
  free : ∀ p, p < n → 0 < L → Unf wr (rb p)
section
variable {n0 : Nat} {wc wr : World} {rb : Nat → Nat} {n L : Nat} {M : Nat → Nat → List (List Nd)} {q f : Nat}
theorem PI.lt (h : PI n0 wc wr rb n L M q f) : ∀ p, p < n → 0 < L → rb p < wr.heap.size := by
  intro p hp hL
  obtain ⟨v, hv, _⟩ := h.cell p 0 hp hL
  exact World.block_lt_of_cell? _ _ hv
theorem PI.more (h : PI n0 wc wr rb n L M q f) {w' : World} (hg : Grew wr w') : PI n0 wc w' rb n L M q f := by
  refine ⟨h.grew.step hg, fun p j hp hj => ?_, fun p hp hL => (h.free p hp hL).move (frm_lt hg.1 _ (h.lt p hp hL))⟩
  obtain ⟨v, h1, h2⟩ := h.cell p j hp hj
  exact ⟨v, frm_cell hg.1 h1, moves_alts _ _ _ _ _ _ (fun b hb => ⟨hb.1, Nat.lt_of_lt_of_le hb.2.1 hg.1.size, hb.2.2⟩) (fun b hb => frm_lt hg.1 b hb.2.1) h2⟩
theorem PI.put (h : PI n0 wc wr rb n L M q f) {w5 : World} {v : Value} (hg : Grew wr w5) (hq : q < n) (hf : f < L) (inj : ∀ p p', p < n → p' < n → 0 < L → rb p = rb p' → p = p')
    (hv : AltsR (fun b => n0 ≤ b ∧ b < w5.heap.size ∧ Off rb n L b) w5 (smallest (M q f)) [v]) : PI n0 wc (w5.setCell ⟨rb q, f, none⟩ v) rb n L M q (f + 1) := by
  have h5 := h.more hg
  have hL : 0 < L := by omega
  have hmv : ∀ b, Off rb n L b → (w5.setCell ⟨rb q, f, none⟩ v).heap[b]? = w5.heap[b]? := fun b hb => Below.heap_setCell _ _ _ _ (by show b ≠ rb q; exact fun e => hb q hq hL e.symm)
  refine ⟨h5.grew.set _ _ (fun hb => hb q hq hL rfl), fun p j hp hj => ?_, fun p hp hL => (h5.free p hp hL).set _ _⟩
  by_cases hpq : p = q ∧ j = f
  · obtain ⟨rfl, rfl⟩ := hpq
    obtain ⟨u, hu, _⟩ := h5.cell p j hp hj
    refine ⟨v, World.cell?_setCell_same _ _ _ hu, ?_⟩
    rw [if_pos (.inr ⟨rfl, by omega⟩)]
    exact moves_alts _ _ _ _ _ _ (fun b hb => ⟨hb.1, by simpa using hb.2.1, hb.2.2⟩) (fun b hb => hmv b hb.2.2) hv
  · obtain ⟨u, hu, hr⟩ := h5.cell p j hp hj
    refine ⟨u, ?_, ?_⟩
    · rw [World.cell?_setCell_other _ _ _ _ (by
        intro e
        injection e with e1 e2
        exact hpq ⟨(inj q p hq hp hL (by simpa using e1)).symm, by simpa using e2.symm⟩)]
      exact hu
    · have he : (if p < q ∨ p = q ∧ j < f + 1 then smallest (M p j) else M p j) = (if p < q ∨ p = q ∧ j < f then smallest (M p j) else M p j) := by
        by_cases h1 : p < q
        · simp [h1]
        · by_cases h2 : p = q
          · have h3 : j ≠ f := fun e => hpq ⟨h2, e⟩
            have h4 : j < f + 1 ↔ j < f := by omega
            simp [h1, h2, h4]
          · simp [h1, h2]
      rw [he]
      exact moves_alts _ _ _ _ _ _ (fun b hb => ⟨hb.1, by simpa using hb.2.1, hb.2.2⟩) (fun b hb => hmv b hb.2.2) hr
theorem PI.next (h : PI n0 wc wr rb n L M q L) : PI n0 wc wr rb n L M (q + 1) 0 := by
  refine ⟨h.grew, fun p j hp hj => ?_, h.free⟩
  obtain ⟨v, h1, h2⟩ := h.cell p j hp hj
  refine ⟨v, h1, ?_⟩
  have he : (p < q + 1 ∨ p = q + 1 ∧ j < 0) ↔ (p < q ∨ p = q ∧ j < L) := by omega
  simp only [he]
  exact h2
theorem PI.rebase (h : PI n0 wc wr rb n L M q f) : PI n0 wr wr rb n L M q f := ⟨.refl _ _, h.cell, h.free⟩
theorem RowsAt.move {gm : Nat} (h : RowsAt wc gm n0 rb n L) (hw : wr.heap[gm]? = wc.heap[gm]?) : RowsAt wr gm n0 rb n L := by
  refine ⟨fun p hp => ?_, h.low, h.inj⟩
  obtain ⟨A, c, h1, h2⟩ := h.head p hp
  exact ⟨A, c, (World.cell?_of_block hw).trans h1, h2⟩
end
theorem rows_start {w : World} {gm n0 cm L : Nat} {T : TypeId} {a : Au} {ts : List Tag} (hL : ∀ row ∈ a.moves, row.length = L) (hO : Own RowT w n0 T 1 (fun b => n0 ≤ b) (.slice (some ⟨gm, 0, none⟩) ts.length cm) ts)
    (hT : TagOk n0 w.heap.size ts a.moves) : ∃ rb, RowsAt w gm n0 rb a.moves.length L ∧ PI n0 w w rb a.moves.length L a.alts 0 0 := by
  have hlen : ts.length = a.moves.length := by rw [← hT.rows, List.length_map]
  have hG := hO.rowG
  have key : ∀ p, ∃ g, ∀ hp : p < ts.length, ∃ A c, w.cell? ⟨gm, p, none⟩ = some (.slice A L c) ∧ L ≤ c ∧ (0 < L → A = some ⟨g, 0, none⟩ ∧ n0 ≤ g ∧ g ≠ gm ∧ ts[p].2.1 ≤ g ∧ g < ts[p].2.2 ∧ Unf w g ∧
      RowG 1 (WR AltsR) (fun b => ts[p].2.1 ≤ b ∧ b < ts[p].2.2 ∧ b < w.heap.size ∧ b ≠ g) w g ts[p].1) := by
    intro p
    by_cases hp : p < ts.length
    · obtain ⟨cs, hl, hc, v, rfl, hx⟩ := hG p hp
      have hc0 : w.cell? ⟨gm, p, none⟩ = some v := by simpa using hc 0 (by omega)
      have hrl : ts[p].1.length = L := hL _ (by rw [← hT.rows]; exact List.mem_map.2 ⟨_, List.getElem_mem hp, rfl⟩)
      rcases hx with ⟨rfl, h0⟩ | ⟨g, c, rfl, h2, h3, h4, h5, h6⟩
      · refine ⟨0, fun _ => ⟨none, 0, ?_, ?_, fun h => ?_⟩⟩
        · rw [hc0]
          rw [h0] at hrl
          simp at hrl
          subst hrl
          rfl
        · rw [h0] at hrl; simp at hrl; omega
        · rw [h0] at hrl; simp at hrl; omega
      · refine ⟨g, fun _ => ⟨_, c, by rw [hc0, hrl], by omega, fun h => ⟨rfl, h4.1.1, ?_, h4.2.1, h4.2.2, h5, ?_⟩⟩⟩
        · intro e
          exact h4.1.2.2 (by rw [e]; rfl)
        · exact h6.move (moves_WR moves_alts) (fun b hb => ⟨hb.1.2.1, hb.1.2.2, hb.1.1.2.1, hb.2⟩) (fun _ _ => rfl) rfl
    · exact ⟨0, fun h => absurd h hp⟩
  obtain ⟨rb, hrb⟩ := Classical.axiomOfChoice key
  have hap := List.pairwise_iff_getElem.1 hT.apart
  have hoff : ∀ p p' (hp : p < ts.length) (hp' : p' < ts.length), 0 < L → p ≠ p' → ∀ b, ts[p].2.1 ≤ b → b < ts[p].2.2 → rb p' ≠ b := by
    intro p p' hp hp' hL0 hne b hb1 hb2 e
    obtain ⟨A, c, _, _, h⟩ := hrb p' hp'
    obtain ⟨_, _, _, h1, h2, _⟩ := h hL0
    rcases Nat.lt_or_gt_of_ne hne with h3 | h3
    · have := hap p p' hp hp' h3
      omega
    · have := hap p' p hp' hp h3
      omega
  refine ⟨rb, ⟨fun p hp => ?_, fun p hp hL0 => ?_, fun p p' hp hp' hL0 e => ?_⟩, ⟨.refl _ _, fun p j hp hj => ?_, fun p hp hL0 => ?_⟩⟩
  · obtain ⟨A, c, h1, h2, h3⟩ := hrb p (by omega)
    exact ⟨A, c, h1, h2, fun h => (h3 h).1⟩
  · obtain ⟨A, c, h1, h2, h3⟩ := hrb p (by omega)
    exact ⟨(h3 hL0).2.1, (h3 hL0).2.2.1⟩
  · by_cases hne : p = p'
    · exact hne
    · obtain ⟨A, c, h1, h2, h3⟩ := hrb p (by omega)
      obtain ⟨_, _, _, h4, h5, _⟩ := h3 hL0
      exact absurd e.symm (hoff p p' (by omega) (by omega) hL0 hne _ h4 h5)
  · have hp' : p < ts.length := by omega
    obtain ⟨A, c, h1, h2, h3⟩ := hrb p hp'
    obtain ⟨_, _, _, h4, h5, _, h6⟩ := h3 (by omega)
    have hrw : ts[p].1 = a.moves[p] := by
      have : (ts.map (·.1))[p]'(by simpa using hp') = a.moves[p] := by simp only [hT.rows]
      rw [← this, List.getElem_map]
    have hrl : (a.moves[p]).length = L := hL _ (List.getElem_mem hp)
    have hj' : j < ts[p].1.length := by rw [hrw, hrl]; exact hj
    obtain ⟨cs, hl, hc, hr⟩ := h6 j hj'
    obtain ⟨v, rfl⟩ : ∃ v, cs = [v] := by
      match cs, hl with
      | [v], _ => exact ⟨v, rfl⟩
    refine ⟨v, by simpa using hc 0 (by omega), ?_⟩
    rw [if_neg (by omega), show a.alts p j = ts[p].1[j] by rw [alts_eq hp (by omega)]; simp [hrw]]
    refine moves_alts _ _ _ _ _ _ (fun b hb => ⟨by have := (hT.low _ (List.getElem_mem hp')).1; omega, hb.2.2.1, fun p' hp2 hL0 => ?_⟩) (fun _ _ => rfl) (WR.rd moves_alts hr)
    by_cases hne : p = p'
    · subst hne
      exact fun e => hb.2.2.2 e.symm
    · exact hoff p p' hp' (by omega) hL0 hne b hb.1 hb.2.1
  · obtain ⟨A, c, h1, h2, h3⟩ := hrb p (by omega)
    exact (h3 hL0).2.2.2.2.2.1
theorem rows_done {wc wr : World} {gm n0 L cm : Nat} {a : Au} {rb : Nat → Nat} (hL : ∀ row ∈ a.moves, row.length = L) (hL1 : L ≤ 100000) (hn : a.moves.length ≤ 100) (hcm : a.moves.length ≤ cm) (hR : RowsAt wr gm n0 rb a.moves.length L) (h : PI n0 wc wr rb a.moves.length L a.alts a.moves.length 0) (hgm : n0 ≤ gm ∧ gm < wr.heap.size) :
    MovesR (fun b => n0 ≤ b ∧ b < wr.heap.size) wr (a.moves.map (·.map smallest)) [.slice (some ⟨gm, 0, none⟩) a.moves.length cm] := by
  refine ⟨_, rfl, _, cm, by simp, by simpa using hcm, by simp; omega, fun _ => ⟨gm, 0, rfl, hgm, fun p hp' => ?_⟩⟩
  have hp : p < a.moves.length := by simpa using hp'
  obtain ⟨A, c, h1, h2, h3⟩ := hR.head p hp
  have hrl : (a.moves[p]).length = L := hL _ (List.getElem_mem hp)
  refine ⟨[.slice A L c], rfl, fun j hj => ?_, ?_⟩
  · obtain rfl : j = 0 := by omega
    simpa using h1
  rw [List.getElem_map]
  refine ⟨_, rfl, A, c, by simp [hrl], by simpa [hrl] using h2, by simp; omega, fun h0 => ?_⟩
  have hL0 : 0 < L := by simpa [hrl] using h0
  have hA := h3 hL0
  refine ⟨rb p, 0, hA, ⟨(hR.low p hp hL0).1, h.lt p hp hL0⟩, fun j hj' => ?_⟩
  have hj : j < L := by simpa [hrl] using hj'
  obtain ⟨v, q1, q2⟩ := h.cell p j hp hj
  refine ⟨[v], rfl, fun i hi => ?_, ?_⟩
  · obtain rfl : i = 0 := by omega
    simpa using q1
  rw [if_pos (.inl hp), alts_eq hp (by omega)] at q2
  rw [List.getElem_map]
  exact moves_alts _ _ _ _ _ _ (fun b hb => ⟨hb.1, hb.2.1⟩) (fun _ _ => rfl) q2
end Go.Proofs.YtjpdmncafacmaaaGreatDoor
end
/- The reference's Plain: each list of alternatives made smallest in place. -/
section
set_option linter.unusedVariables false
set_option linter.unusedSimpArgs false
namespace Go.Proofs.YtjpdmncafacmaaaGreatDoor
open Go.RowKit

/-- An automaton and an error are returned, to be read. -/
def RetQ (w : World) (a : Au) (er : Int) (e : Ending) (w' : World) : Prop :=
  ∃ r m, e = .returned (.tuple #[.agg #[r, .int .i64 a.start, m], .int .i64 er]) ∧ Grew w w' ∧ rdO AuR w' a [r, .int .i64 a.start, m]
/-- The same, read in the call's own blocks. -/
def RetS (w : World) (a : Au) (er : Int) (e : Ending) (w' : World) : Prop :=
  ∃ r m, e = .returned (.tuple #[.agg #[r, .int .i64 a.start, m], .int .i64 er]) ∧ Grew w w' ∧ AuR (Fresh w w') w' a [r, .int .i64 a.start, m]
theorem auQ_slices {w : World} {V : Au} {r m : Value} (h : rdO AuR w V [r, .int .i64 V.start, m]) : ∃ A n c B p d, r = .slice A n c ∧ m = .slice B p d := by
  obtain ⟨r', m', he, ⟨v1, h1, s1⟩, ⟨v2, h2, s2⟩, _⟩ := h
  obtain ⟨A1, c1, rfl, _⟩ := s1.val
  obtain ⟨A2, c2, rfl, _⟩ := s2.val
  simp only [List.cons.injEq, and_true, true_and] at he h1 h2
  rw [h1] at he
  rw [h2] at he
  exact ⟨_, _, _, _, _, _, he.1, he.2⟩
set_option maxRecDepth 100000 in
set_option maxHeartbeats 2000000 in
theorem rplainS_calls (a : Au) (w : World) (r m : Value) (hA : rdO AuR w a [r, .int .i64 a.start, m]) :
    Calls Tryz.prog 55 #[.agg #[r, .int .i64 a.start, m]] w (RetS w (plainV a) (plainE a)) := by
  obtain ⟨hR, hMv, hs1, hs2⟩ := AuR.parts hA
  obtain ⟨A, c, rfl, hc, hlm⟩ := hR.val
  obtain ⟨B, d, rfl, hd, hlm2⟩ := hMv.val
  obtain ⟨w2, hw2⟩ : ∃ w2, w2 = (w.alloc (.cells #[.slice A a.ranks.length c, .int .i64 a.start, .slice B a.moves.length d] 25)).alloc (.cells #[.slice none 0 0, .int .i64 0, .slice none 0 0] 25) := ⟨_, rfl⟩
  have hG2 : Grew w w2 := by rw [hw2]; exact grew_then_alloc (grew_alloc _ _) _
  have xa : ThreeAt w2 w.heap.size (.slice A a.ranks.length c) (.int .i64 a.start) (.slice B a.moves.length d) 25 := by
    rw [hw2]; exact (ThreeAt.new w _ _ _ _).frm (frm_alloc _ _)
  have xr : ThreeAt w2 (w.heap.size + 1) (.slice none 0 0) (.int .i64 0) (.slice none 0 0) 25 := by
    have h := ThreeAt.new (w.alloc (.cells #[.slice A a.ranks.length c, .int .i64 a.start, .slice B a.moves.length d] 25)) (.slice none 0 0) (.int .i64 0) (.slice none 0 0) 25
    rw [World.size_alloc] at h
    rw [hw2]; exact h
  have hIS : Calls Tryz.prog 8 #[.agg #[.slice A a.ranks.length c, .int .i64 a.start, .slice B a.moves.length d]] w2 (RetD w2 (.bool a.ok)) := by
    have h := ris_calls a w2 _ _ (rdO_frm moves_au hG2.1 hA)
    rw [← ok_eq] at h
    exact h
  have xa' := xa
  rw [hw2] at xa' hIS
  obtain ⟨xa0, xa1, xa2⟩ := xa'.cells
  have HIS := Lib.hid hIS
  have HW2 := Lib.hid hw2
  have HA := Lib.hid hA
  clear hIS hw2 hA hR hMv
  go_enter Tryz.func55, Tryz.ntmps55
  go_wp2_with fail
  refine HIS.out.mono ?_
  rw [← HW2.out]
  rintro e w3 ⟨rfl, hf3⟩
  have hG3 := grew_trans hG2 hf3
  have hs3 := (xr.frm hf3.1).lt
  cases hok : a.ok
  · have xo := xr.frm hf3.1
    obtain ⟨xo0, xo1, xo2⟩ := xo.cells
    have xf0 := xo.free 0
    have xf1 := xo.free 1
    have xf2 := xo.free 2
    have HJ : Hid (plainE a = 10 ∧ plainV a = Au.zero) := by
      unfold Hid plainE plainV
      rw [hok]
      exact ⟨rfl, rfl⟩
    clear hok
    dsimp only
    go_wp2_with fail
    refine bodyPost_ret (v := .tuple #[.agg #[.slice none 0 0, .int .i64 0, .slice none 0 0], .int .i64 10]) (by simp [results, Tryz.results55, go_sem, xo0, xo1, xo2, xf0, xf1, xf2]) rfl ⟨.slice none 0 0, .slice none 0 0, ?_, ?_, ?_⟩
    · rw [HJ.out.1, HJ.out.2]; rfl
    · exact grew_set_new (grew_set_new (grew_set_new hG3 (by omega) _ _) (by omega) _ _) (by omega) _ _
    · rw [HJ.out.2]
      exact au_zero _ _
  obtain ⟨xa0, xa1, xa2⟩ := (xa.frm hf3.1).cells
  have hla := (ok_rows hok).1
  have hlr := (ranksOk_parts (ok_parts hok).1).1
  have h1m := (ok_parts hok).2.1
  have hLr : ∀ row ∈ a.moves, row.length = a.ranks.length := fun row h => ((ok_parts hok).2.2.2.2.2 row h).1
  have HLr := Lib.hid hLr
  have HOK := Lib.hid hok
  have HCP := Lib.hid (rcopy3_calls a hok w3 _ _ (rdO_frm moves_au hG3.1 HA.out))
  clear hok hLr
  dsimp only
  go_wp2_with fail
  refine HCP.out.mono ?_
  rintro e w4 ⟨r', m', n0, ts, rfl, hf4, hn0, hT4, hO4, hR4⟩
  have hlts : ts.length = a.moves.length := by rw [← hT4.rows, List.length_map]
  rcases hO4.cases with ⟨_, hnil⟩ | ⟨gm, cm, rfl, hcm, hgm0, hgm1⟩
  · rw [hnil] at hlts; simp at hlts; omega
  obtain ⟨Ar, cr, rfl⟩ : ∃ Ar cr, r' = .slice Ar a.ranks.length cr := by
    obtain ⟨v', hve, hsl⟩ := id hR4
    obtain ⟨A9, c9, rfl, _⟩ := hsl.val
    simp only [List.cons.injEq, and_true] at hve
    exact ⟨_, _, hve⟩
  obtain ⟨rb, hRA4, hPI4⟩ := rows_start HLr.out hO4 hT4
  rw [hlts] at hcm ⊢
  obtain ⟨wc, hwc⟩ : ∃ wc, wc = w4.alloc (.cells #[.slice Ar a.ranks.length cr, .int .i64 a.start, .slice (some ⟨gm, 0, none⟩) a.moves.length cm] 25) := ⟨_, rfl⟩
  have hGc : Grew w4 wc := by rw [hwc]; exact grew_alloc _ _
  have xo : ThreeAt wc w4.heap.size (.slice Ar a.ranks.length cr) (.int .i64 a.start) (.slice (some ⟨gm, 0, none⟩) a.moves.length cm) 25 := by rw [hwc]; exact ThreeAt.new w4 _ _ _ _
  have hGwc : Grew w wc := grew_trans (grew_trans hG3 hf4) hGc
  have hszc : wc.heap.size = w4.heap.size + 1 := by rw [hwc]; simp
  have hcl : w4.heap.size < wc.heap.size := by omega
  have hRA : RowsAt wc gm n0 rb a.moves.length a.ranks.length := hRA4.move (frm_lt hGc.1 gm hgm1)
  have hlt4 := hPI4.lt
  have HPI : Hid (PI n0 wc wc rb a.moves.length a.ranks.length a.alts 0 0) := (hPI4.more hGc).rebase
  have xaC := (xa.frm hf3.1).frm (frm_trans hf4.1 hGc.1)
  have xrC := (xr.frm hf3.1).frm (frm_trans hf4.1 hGc.1)
  have hs34 := hf4.1.size
  have HR4 : Hid (WR (RowS 1 IntR) (fun b => w3.heap.size ≤ b ∧ b < n0) wc a.ranks [.slice Ar a.ranks.length cr]) := moves_WR (moves_row moves_int) _ _ _ _ _ _ (fun b hb => hb) (fun b hb => frm_lt hGc.1 b (by omega)) hR4
  -- blocks that no row uses stay as they are
  have HOff : Hid (∀ b, (b < n0 ∨ b = gm ∨ w4.heap.size ≤ b) → Off rb a.moves.length a.ranks.length b) := by
    intro b hb p hp hL e
    have h1 := hRA4.low p hp hL
    have h2 := hlt4 p hp hL
    omega
  have HKEEP : Hid (∀ wr q f, PI n0 wc wr rb a.moves.length a.ranks.length a.alts q f → ∀ b, b < wc.heap.size → (b < n0 ∨ b = gm ∨ w4.heap.size ≤ b) → wr.heap[b]? = wc.heap[b]?) := fun wr q f h b hb hb2 => h.grew.block b hb (HOff.out b hb2)
  have HRA := Lib.hid hRA
  have HWC := Lib.hid hwc
  obtain ⟨xa0, xa1, xa2⟩ := xaC.cells
  rw [hwc] at xa0 xa1 xa2
  clear hwc hO4 hT4 hR4 hPI4 hRA4 hRA hlt4 hszc
  dsimp only
  go_wp2_with fail
  rw [← HWC.out]
  clear xa0 xa1 xa2
  have hxr2 := xr.lt
  have hxl3 := hf3.1.size
  go_loopw [18] (fun i wr => ∃ q : Nat, q ≤ a.moves.length ∧ i = .int .i64 q ∧ Hid (PI n0 wc wr rb a.moves.length a.ranks.length a.alts q 0)) (fun i _ => a.moves.length - (intOf i).toNat)
  case atStart => exact ⟨0, Nat.zero_le _, rfl, HPI.out⟩
  case round =>
    obtain ⟨q, hq, rfl, hP⟩ := hrel
    by_cases hltq : q < a.moves.length
    · obtain ⟨Aq, cq, hgq', hcq, hAq⟩ := HRA.out.head q hltq
      have hgq : wr.cell? ⟨gm, q, none⟩ = some (.slice Aq a.ranks.length cq) := (World.cell?_of_block (HKEEP.out wr q 0 hP.out gm (by omega) (by omega))).trans hgq'
      go_wp2_with fail
      go_loopw [25] (fun i wq => ∃ f : Nat, f ≤ a.ranks.length ∧ i = .int .i64 f ∧ Hid (PI n0 wc wq rb a.moves.length a.ranks.length a.alts q f)) (fun i _ => a.ranks.length - (intOf i).toNat)
      case atStart => exact ⟨0, Nat.zero_le _, rfl, hP.out⟩
      case round =>
        obtain ⟨f, hf, rfl, hF⟩ := hrel
        by_cases hlt : f < a.ranks.length
        · obtain rfl := hAq (by omega)
          obtain ⟨v3, hv3, hr3⟩ := hF.out.cell q f hltq hlt
          rw [if_neg (by omega)] at hr3
          obtain ⟨A3, c3, rfl⟩ := row_slice hr3
          have hgqF : wr.cell? ⟨gm, q, none⟩ = some (.slice (some ⟨rb q, 0, none⟩) a.ranks.length cq) := (World.cell?_of_block (HKEEP.out wr q f hF.out gm (by omega) (by omega))).trans hgq'
          obtain ⟨xo0, xo1, xo2⟩ := (xo.move (HKEEP.out wr q f hF.out _ hcl (by omega))).cells
          have hrl : (a.alts q f).length ≤ 12 := by
            rw [alts_eq hltq (by rw [HLr.out _ (List.getElem_mem hltq)]; exact hlt)]
            exact (((ok_rows HOK.out).2 _ (List.getElem_mem hltq)).2 _ (List.getElem_mem _)).1
          have hrbl : rb q < wr.heap.size := hF.out.lt q hltq (by omega)
          have hfz : wr.frozen? ⟨rb q, f, none⟩ = false := hF.out.free q hltq (by omega) _
          have HLT := Lib.hid hF.out.lt
          have HDC := Lib.hid (smallest_calls (a.alts q f) wr.drew (.slice A3 (a.alts q f).length c3) (S := fun b => n0 ≤ b ∧ b < wr.heap.size ∧ Off rb a.moves.length a.ranks.length b) (fun b hb => hb.2.1) (row_val (moves_alts _ _ _ _ _ _ (fun b hb => hb) (fun _ _ => rfl) hr3)) (by omega))
          have HPUT := Lib.hid (fun (w5 : World) (v : Value) (hg : Grew wr w5) (hv : AltsR (fun b => n0 ≤ b ∧ b < w5.heap.size ∧ Off rb a.moves.length a.ranks.length b) w5 (smallest (a.alts q f)) [v]) => hF.out.put hg hltq hlt HRA.out.inj hv)
          have hsl := smallTo_len (a.alts q f) (a.alts q f).length
          have HSL : Hid ((smallest (a.alts q f)).length ≤ 12) := Nat.le_trans hsl hrl
          clear hsl hr3
          generalize smallest (a.alts q f) = dl at *
          generalize (a.alts q f).length = ln at *
          have hrbd : rb q < wr.drew.heap.size := hrbl
          have HK0 : Hid (wr.drew.cell? ⟨w4.heap.size, 2, none⟩ = some (.slice (some ⟨gm, 0, none⟩) a.moves.length cm) ∧ wr.drew.cell? ⟨gm, q, none⟩ = some (.slice (some ⟨rb q, 0, none⟩) a.ranks.length cq)) := ⟨xo2, hgqF⟩
          have HK5 : Hid (∀ w5, Grew wr.drew w5 → (w5.cell? ⟨w4.heap.size, 2, none⟩ = some (.slice (some ⟨gm, 0, none⟩) a.moves.length cm) ∧ w5.cell? ⟨gm, q, none⟩ = some (.slice (some ⟨rb q, 0, none⟩) a.ranks.length cq)) ∧ w5.cell? ⟨rb q, f, none⟩ = some (.slice A3 ln c3) ∧ w5.frozen? ⟨rb q, f, none⟩ = false) := fun w5 hg => ⟨⟨frm_cell hg.1 xo2, frm_cell hg.1 hgqF⟩, frm_cell hg.1 hv3, frm_frozen hg.1 hrbd hfz⟩
          have hne1 : rb q ≠ gm := (HRA.out.low q hltq (by omega)).2
          have hne2 : rb q ≠ w4.heap.size := fun e => HOff.out w4.heap.size (.inr (.inr (Nat.le_refl _))) q hltq (by omega) e
          have HKS : Hid (∀ (w5 : World) (u : Value), (w5.cell? ⟨w4.heap.size, 2, none⟩ = some (.slice (some ⟨gm, 0, none⟩) a.moves.length cm) ∧ w5.cell? ⟨gm, q, none⟩ = some (.slice (some ⟨rb q, 0, none⟩) a.ranks.length cq)) → ((w5.setCell ⟨rb q, f, none⟩ u).cell? ⟨w4.heap.size, 2, none⟩ = some (.slice (some ⟨gm, 0, none⟩) a.moves.length cm) ∧ (w5.setCell ⟨rb q, f, none⟩ u).cell? ⟨gm, q, none⟩ = some (.slice (some ⟨rb q, 0, none⟩) a.ranks.length cq))) := fun w5 u h => ⟨by rw [World.cell?_setCell_other _ _ _ _ (by intro e; injection e with e _; exact hne2 e)]; exact h.1, by rw [World.cell?_setCell_other _ _ _ _ (by intro e; injection e with e _; exact hne1 e)]; exact h.2⟩
          have hfL : (f : Int) < a.ranks.length := by omega
          have hf0 : (0 : Int) ≤ f := by omega
          have hqL : (q : Int) < a.moves.length := by omega
          have hq0 : (0 : Int) ≤ q := by omega
          go_wp2_with fail
          go_region_held3 (fun wx => wx.cell? ⟨w4.heap.size, 2, none⟩ = some (.slice (some ⟨gm, 0, none⟩) a.moves.length cm) ∧ wx.cell? ⟨gm, q, none⟩ = some (.slice (some ⟨rb q, 0, none⟩) a.ranks.length cq)) (first | exact HK0.out | assumption | exact HKS.out _ _ (by assumption)) ((go_at_call 96; refine HDC.out.mono ?_; rintro e5 v5 ⟨z5, rfl, hg5, hO5⟩; obtain ⟨A5, c5, rfl, _⟩ := hO5.val; obtain ⟨hS5, hc5, hf5⟩ := HK5.out _ hg5))
          have hs5 : wr.heap.size ≤ v5.heap.size := hg5.1.size
          have hz5 := hO5.sl moves_alt (S := fun b => n0 ≤ b ∧ b < v5.heap.size ∧ Off rb a.moves.length a.ranks.length b) (by have := HSL.out; omega) (fun b hb h => ⟨hb.1, h, hb.2.2⟩) (fun b hb h => ⟨by have h' : wr.heap.size ≤ b := hb; have := hF.out.grew.size; omega, h, fun p hp hL e => by have h' : wr.heap.size ≤ b := hb; have := HLT.out p hp hL; omega⟩)
          have HD6 := Lib.hid (HPUT.out v5 _ (grew_trans (grew_drew _) hg5) ⟨_, rfl, hz5⟩)
          have hS6 := HKS.out v5 (.slice A5 dl.length c5) hS5
          clear hz5 hO5 hc5 hf5 hS5 hv3 hgqF xo0 xo1 xo2 hfz
          rename_i hheld
          clear hheld
          go_wp2_with fail
          generalize v5.setCell ⟨rb q, f, none⟩ (.slice A5 dl.length c5) = w6 at *
          exact ⟨⟨f + 1, by omega, by go_num, HD6.out⟩, by simp [intOf]; omega⟩
        · obtain rfl : f = a.ranks.length := by omega
          have HN := Lib.hid hF.out.next
          go_wp2_with fail
          exact ⟨⟨q + 1, by omega, by go_num, HN.out⟩, by simp [intOf]; omega⟩
    · obtain rfl : q = a.moves.length := by omega
      have HD := Lib.hid (rows_done HLr.out (by omega) (by omega) hcm (HRA.out.move (HKEEP.out wr _ 0 hP.out gm (by omega) (by omega))) hP.out ⟨hgm0, by have := hP.out.grew.size; omega⟩)
      have hsr := hP.out.grew.size
      obtain ⟨xo0, xo1, xo2⟩ := (xo.move (HKEEP.out wr _ 0 hP.out _ hcl (by omega))).cells
      have xr9 := xrC.move (HKEEP.out wr _ 0 hP.out _ xrC.lt (by omega))
      obtain ⟨xr0, xr1, xr2⟩ := xr9.cells
      have xf0 := xr9.free 0
      have xf1 := xr9.free 1
      have xf2 := xr9.free 2
      have HGW : Hid (Grew w wr) := GrewP.grew hGwc (fun b hb => HOff.out b (by omega)) hP.out.grew
      have HR9 : Hid (RowS 1 IntR (fun b => w3.heap.size ≤ b ∧ b < n0) wr a.ranks [.slice Ar a.ranks.length cr]) := moves_row moves_int _ _ _ _ _ _ (fun b hb => hb) (fun b hb => HKEEP.out wr _ 0 hP.out b (by omega) (by omega)) (WR.rd (moves_row moves_int) HR4.out)
      have HJ : Hid (plainE a = 0 ∧ plainV a = plainA a) := by
        unfold Hid plainE plainV
        rw [HOK.out]
        exact ⟨rfl, rfl⟩
      go_wp2_with fail
      refine bodyPost_ret (v := .tuple #[.agg #[.slice Ar a.ranks.length cr, .int .i64 a.start, .slice (some ⟨gm, 0, none⟩) a.moves.length cm], .int .i64 0]) (by simp [results, Tryz.results55, go_sem, xr0, xr1, xr2, xf0, xf1, xf2]) rfl ⟨.slice Ar a.ranks.length cr, .slice (some ⟨gm, 0, none⟩) a.moves.length cm, ?_, ?_, ?_⟩
      · rw [HJ.out.1, HJ.out.2]; rfl
      · exact grew_set_new (grew_set_new (grew_set_new HGW.out (by omega) _ _) (by omega) _ _) (by omega) _ _
      · rw [HJ.out.2]
        have hset : ∀ q, q ≠ w.heap.size + 1 → (((wr.setCell ⟨w.heap.size + 1, 0, none⟩ (.slice Ar a.ranks.length cr)).setCell ⟨w.heap.size + 1, 1, none⟩ (.int .i64 a.start)).setCell ⟨w.heap.size + 1, 2, none⟩ (.slice (some ⟨gm, 0, none⟩) a.moves.length cm)).heap[q]? = wr.heap[q]? := fun q hq => by
          rw [Below.heap_setCell _ _ _ _ (by show q ≠ w.heap.size + 1; exact hq), Below.heap_setCell _ _ _ _ (by show q ≠ w.heap.size + 1; exact hq), Below.heap_setCell _ _ _ _ (by show q ≠ w.heap.size + 1; exact hq)]
        refine ⟨_, _, rfl, ?_, ?_, hs1, hs2⟩
        · exact moves_row moves_int _ _ _ _ _ _ (fun b hb => ⟨by omega, by have := hb.1; simp; omega⟩) (fun b hb => hset b (by omega)) HR9.out
        · exact moves_moves _ _ _ _ _ _ (fun b hb => ⟨by omega, by have := hb.1; simp; omega⟩) (fun b hb => hset b (by omega)) HD.out
theorem rplain_calls (a : Au) (w : World) (r m : Value) (hA : rdO AuR w a [r, .int .i64 a.start, m]) :
    Calls Tryz.prog 55 #[.agg #[r, .int .i64 a.start, m]] w (RetQ w (plainV a) (plainE a)) := by
  refine (rplainS_calls a w r m hA).mono ?_
  rintro e w' ⟨r', m', rfl, hg, hr⟩
  exact ⟨r', m', rfl, hg, moves_au _ _ _ _ _ _ (fun b hb => hb.2) (fun _ _ => rfl) hr⟩
end Go.Proofs.YtjpdmncafacmaaaGreatDoor
end
/- The reference's result under way. -/
section
set_option linter.unusedVariables false
set_option linter.unusedSimpArgs false
namespace Go.Proofs.YtjpdmncafacmaaaGreatDoor
open Go.RowKit

/-! ### The result under way -/
def BQ (w8 : World) (g : Nat) (r : Value) (st : Int) (mv : Value) (acc : List (List (List (List Nd)))) (wr : World) : Prop :=
  GrewG g w8.heap.size w8 wr ∧ ThreeAt wr g r (.int .i64 st) mv 25 ∧ Own RuleR wr w8.heap.size 49 1 (fun q => w8.heap.size ≤ q) mv acc
theorem BQ.push {w8 wr w' : World} {g : Nat} {r : Value} {st : Int} {mv : Value} {acc : List (List (List (List Nd)))} (h : BQ w8 g r st mv acc wr) (hg8 : g < w8.heap.size)
    (hf : Grew wr w') (hacc : acc.length ≤ 1000) {A : Option Addr} {c : Nat} {row : List (List (List Nd))} (hr : RuleR (fun q => w8.heap.size ≤ q ∧ q < w'.heap.size ∧ some q ≠ mv.ownBlock) w' row [.slice A row.length c]) :
    w'.cell? ⟨g, 2, none⟩ = some mv ∧ ∃ A9 c9 w9, (Builtin.append_ #[23, 23] 23 #[mv, .slice (some ⟨w'.heap.size, 0, none⟩) 1 1]).run Tryz.prog (w'.alloc (.cells #[.slice A row.length c] 49)) = .ok (.slice A9 (acc.length + 1) c9) w9 ∧
      w9.cell? ⟨g, 2, none⟩ = some mv ∧ w9.frozen? ⟨g, 2, none⟩ = false ∧ BQ w8 g r st (.slice A9 (acc.length + 1) c9) (acc ++ [row]) (w9.setCell ⟨g, 2, none⟩ (.slice A9 (acc.length + 1) c9)) := by
  obtain ⟨hP, hT, hO⟩ := h
  have hs8 := hP.size
  have hsr := hf.1.size
  have hT' := hT.frm hf.1
  refine ⟨hT'.cells.2.2, ?_⟩
  have hf2 := grew_then_alloc hf (.cells #[.slice A row.length c] 49)
  have hO2 := hO.kept moves_rule hf2.1 (ownNone _) (by simp)
  have htw := OneAt.new w' (.slice A row.length c) 49
  have hltO := hO.lt
  obtain ⟨v9, w9, hrun, hO9, hg9, hp9⟩ := Own.app_run moves_rule elem_rule hO2 23 (g := w'.heap.size) row [.slice A row.length c] rfl (one_at htw) (by
      intro u hu
      simp at hu
      subst hu
      rfl) (moves_rule _ _ _ _ _ _ (fun q hq => ⟨hq.1, by simp; omega, hq.2.2⟩) (fun q hq => Below.heap_alloc _ _ _ hq.2.1) hr) (by omega) (by omega) (by simp; omega)
  obtain ⟨A9, c9, he9, _⟩ := hO9.val
  rw [List.length_append, List.length_singleton] at he9
  subst he9
  have hgm : mv.ownBlock ≠ some g := fun e => by
    have := (hltO g e).1
    omega
  have hT9 : ThreeAt w9 g r (.int .i64 st) mv 25 := (hT.frm hf2.1).move (hg9.1.block g (by simp; have := hT.lt; omega) (fun e => hgm e.symm))
  refine ⟨A9, c9, w9, hrun, hT9.cells.2.2, hT9.free 2, ?_, hT9.set2 _, ?_⟩
  · exact ((hP.trans (.of hf2 hs8)).trans (.ofR hg9 (by simp; omega) (fun q hq => (hltO q hq).1))).set 2 _
  · exact hO9.kept moves_rule (frm_set (frm_refl _ _) _ _) (.inr fun e => by have := (hO9.lt g e).1; omega) (fun q hq e => by injection e with e; omega)
theorem bq_row {w8 wr : World} {g : Nat} {r : Value} {st : Int} {mv : Value} {acc : List (List (List (List Nd)))} (h : BQ w8 g r st mv acc wr) (hg8 : g < w8.heap.size) (hacc : acc.length ≤ 1000)
    {row : List (List (List Nd))} {tl : List Int} {v u : Value} (hm0 : rdO RuleR wr row [v]) (hto : SlO wr 1 (rdO IntR) tl u) (hb : ∀ l ∈ row, ∀ x ∈ l, ∀ y ∈ x, 0 ≤ y.2 ∧ y.2 < tl.length) (hlm : row.length ≤ 1000) (hll : ∀ l ∈ row, l.length ≤ 1000 ∧ ∀ x ∈ l, x.length ≤ 900) :
    ∀ wx, Grew wr wx → Calls Tryz.prog 57 #[v, u] wx fun e w' => ∃ A c, e = .returned (.slice A row.length c) ∧ w'.cell? ⟨g, 2, none⟩ = some mv ∧
      ∃ A9 c9 w9, (Builtin.append_ #[23, 23] 23 #[mv, .slice (some ⟨w'.heap.size, 0, none⟩) 1 1]).run Tryz.prog (w'.alloc (.cells #[.slice A row.length c] 49)) = .ok (.slice A9 (acc.length + 1) c9) w9 ∧
      w9.cell? ⟨g, 2, none⟩ = some mv ∧ w9.frozen? ⟨g, 2, none⟩ = false ∧ BQ w8 g r st (.slice A9 (acc.length + 1) c9) (acc ++ [row.map (rmv (toL tl))]) (w9.setCell ⟨g, 2, none⟩ (.slice A9 (acc.length + 1) c9)) := by
  intro wx hx
  refine (rmoves_calls row tl wx v u (rdO_frm moves_rule hx.1 hm0) (hto.frm hx.1 (stays_rd moves_int)) hb hlm hll).mono ?_
  rintro e w' ⟨z, rfl, hg, ho⟩
  have hlen : (row.map (rmv (toL tl))).length = row.length := by simp
  have hs8 := h.1.size
  have hsx := hx.1.size
  have hlto := ho.lt
  have hltm := h.2.2.lt
  have hsl := ho.sl2 moves_alts (by omega) (S := fun q => w8.heap.size ≤ q ∧ q < w'.heap.size ∧ some q ≠ mv.ownBlock) (fun q h1 h2 => ⟨by omega, h2, fun e => by have := (hltm q e.symm).2; omega⟩) (fun q hq => by
    have := hlto q hq
    exact ⟨by omega, this.2, fun e => by have := (hltm q e.symm).2; omega⟩)
  obtain ⟨A, c, rfl, _⟩ := ho.val
  have hp := h.push hg8 (grew_trans hx hg) hacc (row := row.map (rmv (toL tl))) ⟨_, rfl, hsl⟩
  rw [hlen] at hp
  exact ⟨A, c, by rw [hlen], hp⟩
end Go.Proofs.YtjpdmncafacmaaaGreatDoor
end
/- The reference's Merge. -/
section
set_option linter.unusedVariables false
set_option linter.unusedSimpArgs false
namespace Go.Proofs.YtjpdmncafacmaaaGreatDoor
open Go.RowKit

/-- The first state alike from `p` on. -/
def fromC (a : Au) (tl : List Int) (q p : Nat) : Nat := ((List.range' p (q - p)).find? fun x => simC a tl x q).getD q
theorem fromC_end (a : Au) (tl : List Int) (q : Nat) : fromC a tl q q = q := by unfold fromC; simp
theorem fromC_step {a : Au} {tl : List Int} {q p : Nat} (h : p < q) : fromC a tl q p = if simC a tl p q then p else fromC a tl q (p + 1) := by
  unfold fromC
  obtain ⟨d, hd⟩ : ∃ d, q - p = d + 1 := ⟨q - p - 1, by omega⟩
  rw [hd, List.range'_succ, List.find?_cons, show q - (p + 1) = d by omega]
  cases simC a tl p q <;> rfl
theorem fromC_zero (a : Au) (tl : List Int) (q : Nat) : fromC a tl q 0 = fstC a tl q := by
  unfold fromC fstC
  rw [Nat.sub_zero, ← List.range_eq_range', List.range_succ, List.find?_append]
  cases h : (List.range q).find? fun x => simC a tl x q with
  | some p => rfl
  | none => simp [simC_refl]
theorem fromC_le (a : Au) (tl : List Int) (q p : Nat) : fromC a tl q p ≤ q := by
  unfold fromC
  cases h : (List.range' p (q - p)).find? fun x => simC a tl x q with
  | none => exact Nat.le_refl _
  | some x =>
    have := List.mem_of_find?_eq_some h
    rw [List.mem_range'] at this
    obtain ⟨i, hi, rfl⟩ := this
    show p + 1 * i ≤ q
    omega
theorem ints_slice {w : World} {g n : Nat} {xs : List Int} (h : IntsAt w g xs) (hn : n = xs.length) (hm : n ≤ 1000) (hb : ∀ x ∈ xs, 0 ≤ x ∧ x ≤ 1000) : SlO w 1 (rdO IntR) xs (.slice (some ⟨g, 0, none⟩) n n) :=
  h.sl hn (by omega) fun x hx => by have := hb x hx; omega
theorem range_map_at {α : Type} (f : Nat → α) (n q : Nat) (h : q < ((List.range n).map f).length) : ((List.range n).map f)[q] = f q := by simp
theorem tabI_get {n : Nat} (f : Nat → Nat) {q : Nat} (h : q < (tabI n f).length) : (tabI n f)[q] = (f q : Int) := range_map_at (fun q => (f q : Int)) n q h
theorem frs_step2 (n q : Nat) (f : Nat → Nat) : (List.range (q + 1)).filter (isF f) = (List.range q).filter (isF f) ++ if isF f q then [q] else [] := by
  rw [List.range_succ, List.filter_append]
  congr 1
  cases h : isF f q <;> simp [h]
theorem own_setI {w : World} {base e k g : Nat} {v : Value} {xs : List Int} (h : Own IntR w base e k (fun _ => True) v xs) (hg : g < base) (o : Nat) (u : Value) : Own IntR (w.setCell ⟨g, o, none⟩ u) base e k (fun _ => True) v xs := by
  obtain ⟨inner, ho, h1, hx⟩ := h
  refine ⟨inner, ho.kept (row := some g) (frm_set (frm_refl _ _) _ _) (.inr fun e => by have := (ho.lt g e).1; omega), h1, fun i hi => ?_⟩
  obtain ⟨cs, hl, hc, hr⟩ := hx i hi
  exact ⟨cs, hl, hc, hr⟩
theorem own_moveI {w w' : World} {base e k : Nat} {v : Value} {xs : List Int} (h : Own IntR w base e k (fun _ => True) v xs) (hv : ∀ g, v.ownBlock = some g → w'.heap[g]? = w.heap[g]?) : Own IntR w' base e k (fun _ => True) v xs := by
  obtain ⟨inner, ⟨hl, ho⟩, h1, hx⟩ := h
  refine ⟨inner, ⟨hl, ?_⟩, h1, fun i hi => ?_⟩
  · rcases ho with h | ⟨g, cap, cur, rfl, hb, hg, hrest⟩
    · exact .inl h
    · exact .inr ⟨g, cap, cur, rfl, hb, (hv g rfl).trans hg, hrest⟩
  · obtain ⟨cs, hl, hc, hr⟩ := hx i hi
    exact ⟨cs, hl, hc, hr⟩
theorem numF_ltn {n : Nat} {f : Nat → Nat} (hf : CanC n f) {q : Nat} (hq : q < n) : numF f q < n := by
  have hle := hf.le q
  have h1 := cntB_lt (isF f) (q := f q) (n := n) (by unfold isF; rw [hf.idem q hq]; simp) (by omega)
  have : cntB (isF f) n ≤ n := by
    unfold cntB
    exact Nat.le_trans (List.length_filter_le _ _) (by simp)
  unfold numF
  omega
theorem numF_fst {n : Nat} {f : Nat → Nat} (h : CanC n f) {q : Nat} (hq : q < n) : numF f (f q) = numF f q := by
  unfold numF
  rw [h.idem q hq]
theorem tabI_bd {n m : Nat} {f : Nat → Nat} (h : ∀ q, q < n → f q ≤ m) : ∀ x ∈ tabI n f, 0 ≤ x ∧ x ≤ m := fun x hx => by
  obtain ⟨q, hq, rfl⟩ := List.mem_map.1 (show x ∈ (List.range n).map fun q => (f q : Int) from hx)
  have := h q (List.mem_range.1 hq)
  omega
def rowR (a : Au) (tl : List Int) (q : Nat) : List (List (List Nd)) := (a.moves.getD q []).map (rmv (toL tl))
set_option maxRecDepth 100000 in
set_option maxHeartbeats 4000000 in
theorem rmerge_calls (a : Au) (w : World) (r m : Value) (ha : rdO AuR w a [r, .int .i64 a.start, m]) :
    Calls Tryz.prog 18 #[.agg #[r, .int .i64 a.start, m]] w (RetQ w (mergeV a) (mergeE a)) := by
  obtain ⟨w0, hw0⟩ : ∃ w0, w0 = (w.alloc (.cells #[r, .int .i64 a.start, m] 25)).alloc (.cells #[.slice none 0 0, .int .i64 0, .slice none 0 0] 25) := ⟨_, rfl⟩
  have hG0 : Grew w w0 := by rw [hw0]; exact grew_then_alloc (grew_alloc _ _) _
  have hs0 : w0.heap.size = w.heap.size + 2 := by rw [hw0]; simp
  have xa : ThreeAt w0 w.heap.size r (.int .i64 a.start) m 25 := by
    rw [hw0]; exact (ThreeAt.new w _ _ _ _).frm (frm_alloc _ _)
  have xo : ThreeAt w0 (w.heap.size + 1) (.slice none 0 0) (.int .i64 0) (.slice none 0 0) 25 := by
    have h := ThreeAt.new (w.alloc (.cells #[r, .int .i64 a.start, m] 25)) (.slice none 0 0) (.int .i64 0) (.slice none 0 0) 25
    rw [World.size_alloc] at h
    rw [hw0]; exact h
  have hP := rplainS_calls a w0 _ _ (rdO_frm moves_au hG0.1 ha)
  have xa' := xa
  rw [hw0] at xa' hP
  obtain ⟨ya0, ya1, ya2⟩ := xa'.cells
  have HP := Lib.hid hP
  have HW0 := Lib.hid hw0
  have HS0 := Lib.hid hs0
  clear hw0 hP xa' ha hs0
  go_enter Tryz.func18, Tryz.ntmps18
  go_wp2_with fail
  refine HP.out.mono ?_
  rw [← HW0.out]
  rintro e w1 ⟨r1, m1, rfl, hf1, hr1⟩
  obtain ⟨A, c, B, d, rfl, rfl⟩ : ∃ A c B d, r1 = .slice A (plainV a).ranks.length c ∧ m1 = .slice B (plainV a).moves.length d := by
    obtain ⟨r', m', he, ⟨v1, h1, s1⟩, ⟨v2, h2, s2⟩, _⟩ := hr1
    obtain ⟨A1, c1, rfl, _⟩ := s1.val
    obtain ⟨A2, c2, rfl, _⟩ := s2.val
    simp only [List.cons.injEq, and_true, true_and] at he h1 h2
    rw [h1] at he
    rw [h2] at he
    exact ⟨_, _, _, _, he.1, he.2⟩
  have xa1 := xa.frm hf1.1
  have xo1 := xo.frm hf1.1
  have hs1 := hf1.1.size
  clear ya0 ya1 ya2
  obtain ⟨xa0, xb0, xc0⟩ := xa1.cells
  have xf0 := xa1.free 0
  have xf1 := xa1.free 1
  have xf2 := xa1.free 2
  obtain ⟨w2, hw2⟩ : ∃ w2, w2 = ((w1.setCell ⟨w.heap.size, 0, none⟩ (.slice A (plainV a).ranks.length c)).setCell ⟨w.heap.size, 1, none⟩ (.int .i64 (plainV a).start)).setCell ⟨w.heap.size, 2, none⟩ (.slice B (plainV a).moves.length d) := ⟨_, rfl⟩
  have xa2 : ThreeAt w2 w.heap.size (.slice A (plainV a).ranks.length c) (.int .i64 (plainV a).start) (.slice B (plainV a).moves.length d) 25 := by
    rw [hw2]; exact ((xa1.set0 _).set1 _).set2 _
  have hwr2 : GrewR w1 w2 (some w.heap.size) := by
    rw [hw2]; exact grewR_set (grewR_set (grewR_set (grewR_refl _ _) _ _) _ _) _ _
  have xo2 : ThreeAt w2 (w.heap.size + 1) (.slice none 0 0) (.int .i64 0) (.slice none 0 0) 25 := xo1.move (hwr2.1.block _ xo1.lt (by simp))
  have hG2 : Grew w w2 := grew_new (grew_trans hG0 hf1) (Nat.le_refl _) hwr2
  have hs2 := hwr2.1.size
  dsimp only
  have HW2 := Lib.hid hw2
  have hse : w2.heap.size = w1.heap.size := by rw [hw2]; simp
  clear hw2
  cases hok : a.ok with
  | false =>
    have hE : plainE a = 10 := by unfold plainE; rw [hok]; rfl
    have HM : Hid (mergeE a = 10 ∧ mergeV a = Au.zero) := by
      unfold Hid mergeE mergeV
      rw [hok]
      exact ⟨rfl, rfl⟩
    obtain ⟨xo0, xo1', xo2'⟩ := xo2.cells
    have of0 := xo2.free 0
    have of1 := xo2.free 1
    have of2 := xo2.free 2
    rw [hE]
    rw [HW2.out] at xo0 xo1' xo2' of0 of1 of2
    clear hE hok hr1 hse
    go_wp2_with fail
    rw [← HW2.out] at xo0 xo1' xo2' of0 of1 of2 ⊢
    refine bodyPost_ret (v := .tuple #[.agg #[.slice none 0 0, .int .i64 0, .slice none 0 0], .int .i64 10]) (by simp [results, Tryz.results18, go_sem, xo0, xo1', xo2', of0, of1, of2]) rfl ⟨.slice none 0 0, .slice none 0 0, ?_, ?_, ?_⟩
    · rw [HM.out.1, HM.out.2]; rfl
    · first | exact hG2 | exact grew_set_new (grew_set_new (grew_set_new hG2 (by omega) _ _) (by omega) _ _) (by omega) _ _
    · rw [HM.out.2]
      exact au_zero _ _
  | true =>
    have hE : plainE a = 0 := by unfold plainE; rw [hok]; rfl
    have hV : plainV a = plainA a := by unfold plainV; rw [hok]; rfl
    have HM : Hid (mergeE a = 0 ∧ mergeV a = mergeA (plainA a)) := by
      unfold Hid mergeE mergeV
      rw [hok]
      exact ⟨rfl, rfl⟩
    have hbok : (plainA a).ok = true := plain_ok hok
    rw [hE]
    rw [hV] at hr1 xa2 HW2 ⊢
    clear hE hV hok
    generalize plainA a = b at *
    have hb2 : rdO AuR w2 b [.slice A b.ranks.length c, .int .i64 b.start, .slice B b.moves.length d] := by
      refine moves_au _ _ _ _ _ _ (fun q hq => ?_) (fun q hq => ?_) hr1
      · exact Nat.lt_of_lt_of_le hq.2 hs2
      · have := hq.1
        exact hwr2.1.block q hq.2 (by intro e; injection e with e; have := HS0.out; omega)
    have HB2 := Lib.hid hb2
    have HOK := Lib.hid hbok
    obtain ⟨hbR, hbM, hbs1, hbs2⟩ := AuR.parts hb2
    have HBM := Lib.hid hbM
    have HBR := Lib.hid hbR
    obtain ⟨_, hm1, hm6, hst0, hst1, hbrows⟩ := ok_parts hbok
    have hbr24 := (ranksOk_parts (ok_parts hbok).1).1
    obtain ⟨xq0, xq1, xq2⟩ := xa2.cells
    obtain ⟨w3, hw3⟩ : ∃ w3, w3 = w2.alloc (.cells (Array.replicate b.moves.length (.int .i64 0)) 3) := ⟨_, rfl⟩
    have hmk := mk_ints b.moves.length (by omega) w2
    rw [← hw3, hse] at hmk
    have hG23 : Grew w2 w3 := by rw [hw3]; exact grew_alloc _ _
    have hR3 : IntsAt w3 w1.heap.size (tabI b.moves.length (refC b 0)) := by
      have h := ints_made w2 b.moves.length
      rw [← hw3, hse] at h
      have e : tabI b.moves.length (refC b 0) = List.replicate b.moves.length 0 := by
        unfold tabI
        rw [show (fun q => ((refC b 0 q : Nat) : Int)) = fun _ => (0 : Int) from rfl, List.map_const', List.length_range]
      rw [e]
      exact h
    have HR3 := Lib.hid hR3
    rw [HW2.out] at xq0 xq1 xq2 hmk
    obtain ⟨xr0, xr1, xr2⟩ := (xa2.frm hG23.1).cells
    have hxa : Hid (∀ wx, Grew w2 wx → ThreeAt wx w.heap.size (.slice A b.ranks.length c) (.int .i64 b.start) (.slice B b.moves.length d) 25) := fun wx h => xa2.frm h.1
    have HSE := Lib.hid hse
    clear hr1 hb2 hbR hbM hR3 hw3 hbok hse
    go_wp2_with fail
    clear hmk xq0 xq1 xq2 xr0 xr1 xr2
    go_loopw [5, 31] (fun z i wr => ∃ (k gc : Nat), k ≤ b.moves.length ∧ i = .int .i64 k ∧ z = .slice (some ⟨gc, 0, none⟩) b.moves.length b.moves.length ∧ w1.heap.size ≤ gc ∧ Grew w2 wr ∧ Hid (IntsAt wr gc (tabI b.moves.length (refC b k)))) (fun _ i _ => b.moves.length - (intOf i).toNat)
    case atStart => exact ⟨0, w1.heap.size, Nat.zero_le _, rfl, rfl, Nat.le_refl _, hG23, HR3.out⟩
    case round =>
      obtain ⟨k, gc, hk, rfl, rfl, hgc, hfo, HIo⟩ := hrel
      obtain ⟨wo, hwo⟩ : ∃ wo : World, wo = wr := ⟨_, rfl⟩
      subst hwo
      have hgcl := ValsAt.lt HIo.out
      by_cases hlt : k < b.moves.length
      · obtain ⟨w5, hw5⟩ : ∃ w5, w5 = wo.alloc (.cells (Array.replicate b.moves.length (.int .i64 0)) 3) := ⟨_, rfl⟩
        have hmk := mk_ints b.moves.length (by omega) wo
        rw [← hw5] at hmk
        have hG5 : Grew wo w5 := by rw [hw5]; exact grew_alloc _ _
        have hI5 : IntsAt w5 wo.heap.size (tabU b.moves.length 0 (fun q => (refC b (k + 1) q : Int)) fun _ => 0) := by
          rw [tabU_zero, List.map_const', List.length_range]
          have h := ints_made wo b.moves.length
          rw [← hw5] at h
          exact h
        obtain ⟨xo5, xp5, xq5⟩ := (hxa.out wo hfo).cells
        obtain ⟨xo6, xp6, xq6⟩ := ((hxa.out wo hfo).frm hG5.1).cells
        have HI5 := Lib.hid hI5
        have hs5 : w5.heap.size = wo.heap.size + 1 := by rw [hw5]; simp
        clear hw5 hI5
        go_wp2_with fail
        clear xo5 xp5 xq5 xo6 xp6 xq6 hmk
        go_loopw [40] (fun i wq => ∃ q : Nat, q ≤ b.moves.length ∧ i = .int .i64 q ∧ Grew wo wq ∧ Hid (IntsAt wq wo.heap.size (tabU b.moves.length q (fun q => (refC b (k + 1) q : Int)) fun _ => 0))) (fun i _ => b.moves.length - (intOf i).toNat)
        case atStart => exact ⟨0, Nat.zero_le _, rfl, hG5, HI5.out⟩
        case round =>
          obtain ⟨q, hq, rfl, hfq, HI⟩ := hrel
          have hwq := ValsAt.lt HI.out
          by_cases hltq : q < b.moves.length
          · have hTL : (tabU b.moves.length q (fun q => (refC b (k + 1) q : Int)) fun _ => 0).length = b.moves.length := tabU_len
            have HTS : Hid ((tabU b.moves.length q (fun q => (refC b (k + 1) q : Int)) fun _ => 0).set q (fromC b (tabI b.moves.length (refC b k)) q 0 : Int) = tabU b.moves.length (q + 1) (fun q => (refC b (k + 1) q : Int)) fun _ => 0) := by
              unfold Hid
              rw [fromC_zero]
              exact tabU_succ (f := fun q => (refC b (k + 1) q : Int)) hltq
            generalize (tabU b.moves.length q (fun q => (refC b (k + 1) q : Int)) fun _ => 0) = TB at *
            have hcu := HI.out.at (i := q) (by rw [hTL]; exact hltq)
            have hiu := ValsAt.free HI.out q
            have HIQ : Hid (IntsAt (wr.setCell ⟨wo.heap.size, q, none⟩ (.int .i64 (q : Int))) wo.heap.size (TB.set q (fromC b (tabI b.moves.length (refC b k)) q q : Int))) := by
              unfold Hid
              rw [fromC_end]
              exact HI.out.put q _
            have hfq2 : Grew wo (wr.setCell ⟨wo.heap.size, q, none⟩ (.int .i64 (q : Int))) := grew_set_new hfq (Nat.le_refl _) _ _
            have hqi : (q : Int) < b.moves.length := by omega
            go_wp2_with fail
            clear hcu hiu
            generalize wr.setCell ⟨wo.heap.size, q, none⟩ (.int .i64 (q : Int)) = w6 at *
            go_loopw [8] (fun i wq => ∃ p : Nat, p ≤ q ∧ i = .int .i64 ((p : Int) - 1) ∧ Grew wo wq ∧ Hid (IntsAt wq wo.heap.size (TB.set q (fromC b (tabI b.moves.length (refC b k)) q p : Int)))) (fun i _ => (intOf i + 1).toNat)
            case atStart => exact ⟨q, Nat.le_refl _, rfl, hfq2, HIQ.out⟩
            case round =>
              obtain ⟨p, hp, rfl, hfp, HIP⟩ := hrel
              /-HERE-/
              cases p with
              | zero =>
                have HE : Hid (IntsAt wr wo.heap.size (tabU b.moves.length (q + 1) (fun q => (refC b (k + 1) q : Int)) fun _ => 0)) := by
                  unfold Hid
                  rw [← HTS.out]
                  exact HIP.out
                go_wp2_with fail
                exact ⟨⟨q + 1, by omega, by go_num, hfp, HE.out⟩, by simp [intOf]; omega⟩
              | succ p0 =>
                have e0 : (((p0 + 1 : Nat) : Int) - 1) = (p0 : Int) := by omega
                rw [e0]
                have hIc := ValsAt.frm HIo.out hfp.1
                have hlc : (tabI b.moves.length (refC b k)).length = b.moves.length := tabI_len _ _
                have hcp := IntsAt.at hIc (i := p0) (by rw [hlc]; omega)
                have hcq := IntsAt.at hIc (i := q) (by rw [hlc]; exact hltq)
                have hvp : (tabI b.moves.length (refC b k))[p0]'(by rw [hlc]; omega) = (refC b k p0 : Int) := tabI_get (refC b k) _
                have hvq : (tabI b.moves.length (refC b k))[q]'(by rw [hlc]; exact hltq) = (refC b k q : Int) := tabI_get (refC b k) _
                rw [hvp] at hcp
                rw [hvq] at hcq
                have HFC : Hid (fromC b (tabI b.moves.length (refC b k)) q p0 = if decide (refC b k p0 = refC b k q) && decide (rowC b (tabI b.moves.length (refC b k)) p0 = rowC b (tabI b.moves.length (refC b k)) q) then p0 else fromC b (tabI b.moves.length (refC b k)) q (p0 + 1)) := by
                  unfold Hid
                  rw [fromC_step (show p0 < q by omega)]
                  unfold simC
                  rw [tabI_at _ (show p0 < b.moves.length by omega), tabI_at _ hltq]
                  congr 2
                  congr 1
                  exact decide_eq_decide.2 ⟨fun h => by omega, fun h => by omega⟩
                have hcl6 := (can_ref b k).le
                have hcl1 := hcl6 p0
                have hcl2 := hcl6 q
                have HAK := Lib.hid (fun wx (hx : Grew wr wx) => alike_calls b HOK.out p0 q (by omega) hltq (tabI b.moves.length (refC b k)) hlc wx _ _ _ (rdO_frm moves_au (grew_trans hfo (grew_trans hfp hx)).1 HB2.out) ((ints_slice hIc hlc.symm (by omega) (fun x hx => by have := tabI_bd (m := 10) (fun q hq => by have := hcl6 q; omega) x hx; omega)).frm hx.1 (stays_rd moves_int)))
                obtain ⟨al, hal⟩ : ∃ al, al = decide (rowC b (tabI b.moves.length (refC b k)) p0 = rowC b (tabI b.moves.length (refC b k)) q) := ⟨_, rfl⟩
                rw [← hal] at HAK HFC
                have hcu := HIP.out.at (i := q) (by rw [List.length_set, hTL]; exact hltq)
                rw [List.getElem_set_self] at hcu
                have hiu := ValsAt.free HIP.out q
                have HPUT : Hid (∀ wx, Grew wr wx → IntsAt (wx.setCell ⟨wo.heap.size, q, none⟩ (.int .i64 (p0 : Int))) wo.heap.size (TB.set q (p0 : Int))) := fun wx hx => by
                  have h := IntsAt.put (ValsAt.frm HIP.out hx.1) q (p0 : Int)
                  rw [List.set_set] at h
                  exact h
                have hp0i : (p0 : Int) < b.moves.length := by omega
                obtain ⟨xz0, xz1, xz2⟩ := (hxa.out wr (grew_trans hfo hfp)).cells
                generalize hcpe : refC b k p0 = cp at *
                generalize hcqe : refC b k q = cq at *
                generalize hft : fromC b (tabI b.moves.length (refC b k)) q (p0 + 1) = fv at *
                clear hvp hvq hIc hal hcpe hcqe hft
                go_wp2_with fail
                by_cases hce : cp = cq
                · have heq : ((cp : Int) == (cq : Int)) = true := by simp [hce]
                  rw [decide_eq_true hce, Bool.true_and] at HFC
                  have HK0 : Hid (Grew wr wr.drew ∧ wr.drew.cell? ⟨gc, p0, none⟩ = some (.int .i64 cp) ∧ wr.drew.cell? ⟨gc, q, none⟩ = some (.int .i64 cq) ∧ wr.drew.cell? ⟨w.heap.size, 0, none⟩ = some (.slice A b.ranks.length c) ∧ wr.drew.cell? ⟨w.heap.size, 1, none⟩ = some (.int .i64 b.start) ∧ wr.drew.cell? ⟨w.heap.size, 2, none⟩ = some (.slice B b.moves.length d)) := ⟨grew_drew _, hcp, hcq, xz0, xz1, xz2⟩
                  have HKG : Hid (∀ wx wy, Grew wr wx ∧ wx.cell? ⟨gc, p0, none⟩ = some (.int .i64 cp) ∧ wx.cell? ⟨gc, q, none⟩ = some (.int .i64 cq) ∧ wx.cell? ⟨w.heap.size, 0, none⟩ = some (.slice A b.ranks.length c) ∧ wx.cell? ⟨w.heap.size, 1, none⟩ = some (.int .i64 b.start) ∧ wx.cell? ⟨w.heap.size, 2, none⟩ = some (.slice B b.moves.length d) → Grew wx wy → Grew wr wy ∧ wy.cell? ⟨gc, p0, none⟩ = some (.int .i64 cp) ∧ wy.cell? ⟨gc, q, none⟩ = some (.int .i64 cq) ∧ wy.cell? ⟨w.heap.size, 0, none⟩ = some (.slice A b.ranks.length c) ∧ wy.cell? ⟨w.heap.size, 1, none⟩ = some (.int .i64 b.start) ∧ wy.cell? ⟨w.heap.size, 2, none⟩ = some (.slice B b.moves.length d)) :=
                    fun wx wy h hf => ⟨grew_trans h.1 hf, frm_cell hf.1 h.2.1, frm_cell hf.1 h.2.2.1, frm_cell hf.1 h.2.2.2.1, frm_cell hf.1 h.2.2.2.2.1, frm_cell hf.1 h.2.2.2.2.2⟩
                  have hul := ValsAt.lt HIP.out
                  clear hce
                  go_region_held3 (fun wx => Grew wr wx ∧ wx.cell? ⟨gc, p0, none⟩ = some (.int .i64 cp) ∧ wx.cell? ⟨gc, q, none⟩ = some (.int .i64 cq) ∧ wx.cell? ⟨w.heap.size, 0, none⟩ = some (.slice A b.ranks.length c) ∧ wx.cell? ⟨w.heap.size, 1, none⟩ = some (.int .i64 b.start) ∧ wx.cell? ⟨w.heap.size, 2, none⟩ = some (.slice B b.moves.length d)) (first | exact HK0.out | exact HKG.out _ _ (by assumption) (by assumption)) ((go_at_call 56; (with_reducible refine (HAK.out _ (And.left (by assumption))).mono ?_); rintro e w' ⟨rfl, hfw⟩))
                  rename_i hHeld
                  obtain ⟨hf, _⟩ := hHeld
                  have hfz := grew_trans hfp hf
                  have hcu9 := frm_cell hf.1 hcu
                  have hiu9 := frm_frozen hf.1 hul hiu
                  clear xz0 xz1 xz2 hcp hcq hcu hiu
                  cases al with
                  | true =>
                    rw [if_pos rfl] at HFC
                    have HE := Lib.hid (HPUT.out _ hf)
                    rw [← HFC.out] at HE
                    go_wp2_with fail
                    refine ⟨⟨p0, by omega, by go_num, grew_set_new hfz (Nat.le_refl _) _ _, ?_⟩, by simp [intOf]; try omega⟩
                    rw [HFC.out] at HE ⊢
                    exact HE.out
                  | false =>
                    rw [if_neg (by simp)] at HFC
                    have HE : Hid (IntsAt w' wo.heap.size (TB.set q (fromC b (tabI b.moves.length (refC b k)) q p0 : Int))) := by
                      unfold Hid
                      rw [HFC.out]
                      exact ValsAt.frm HIP.out hf.1
                    go_wp2_with fail
                    exact ⟨⟨p0, by omega, by go_num, hfz, HE.out⟩, by simp [intOf]; try omega⟩
                · have heq : ((cp : Int) == (cq : Int)) = false := by simp; omega
                  rw [decide_eq_false hce, Bool.false_and, if_neg (by simp)] at HFC
                  have HE : Hid (∀ wx, Grew wr wx → IntsAt wx wo.heap.size (TB.set q (fromC b (tabI b.moves.length (refC b k)) q p0 : Int))) := fun wx hx => by
                    rw [HFC.out]
                    exact ValsAt.frm HIP.out hx.1
                  clear hce xz0 xz1 xz2 hcu hiu
                  refine wp_region_held_drew (S := fun wx => (wx.cell? ⟨gc, p0, none⟩ = some (.int .i64 cp) ∧ wx.cell? ⟨gc, q, none⟩ = some (.int .i64 cq))) (by kernel_rfl) ⟨hcp, hcq⟩ (fun hHeld => ?_)
                  refine held_yes 0 (v := ?_) rfl (by kernel_rfl) (by kernel_rfl) (by kernel_rfl) (fun _ _ _ h => h) (by kernel_rfl) (fun w hSw => ?_) (by assumption) ?_
                  rotate_left
                  · (try dsimp only at hSw); go_simp; (try with_reducible rfl)
                  try simp only [Act.put, List.setIfInBounds_toArray, List.set_cons_zero, List.set_cons_succ]
                  refine held_yes 1 (v := ?_) rfl (by kernel_rfl) (by kernel_rfl) (by kernel_rfl) (fun _ _ _ h => h) (by kernel_rfl) (fun w hSw => ?_) (by assumption) ?_
                  rotate_left
                  · (try dsimp only at hSw); go_simp; (try with_reducible rfl)
                  try simp only [Act.put, List.setIfInBounds_toArray, List.set_cons_zero, List.set_cons_succ]
                  refine held_yes 2 (v := ?_) rfl (by kernel_rfl) (by kernel_rfl) (by kernel_rfl) (fun _ _ _ h => h) (by kernel_rfl) (fun w hSw => ?_) (by assumption) ?_
                  rotate_left
                  · (try dsimp only at hSw); go_simp; (try with_reducible rfl)
                  try simp only [Act.put, List.setIfInBounds_toArray, List.set_cons_zero, List.set_cons_succ]
                  refine held_yes 3 (v := ?_) rfl (by kernel_rfl) (by kernel_rfl) (by kernel_rfl) (fun _ _ _ h => h) (by kernel_rfl) (fun w hSw => ?_) (by assumption) ?_
                  rotate_left
                  · (try dsimp only at hSw); go_simp; (try with_reducible rfl)
                  try simp only [Act.put, List.setIfInBounds_toArray, List.set_cons_zero, List.set_cons_succ]
                  refine held_yes 4 (v := ?_) rfl (by kernel_rfl) (by kernel_rfl) (by kernel_rfl) (fun _ _ _ h => h) (by kernel_rfl) (fun w hSw => ?_) (by assumption) ?_
                  rotate_left
                  · (try dsimp only at hSw); go_simp; (try with_reducible rfl)
                  try simp only [Act.put, List.setIfInBounds_toArray, List.set_cons_zero, List.set_cons_succ]
                  refine held_yes 5 (v := ?_) rfl (by kernel_rfl) (by kernel_rfl) (by kernel_rfl) (fun _ _ _ h => h) (by kernel_rfl) (fun w hSw => ?_) (by assumption) ?_
                  rotate_left
                  · (try dsimp only at hSw); go_simp; (try with_reducible rfl)
                  try simp only [Act.put, List.setIfInBounds_toArray, List.set_cons_zero, List.set_cons_succ]
                  refine held_yes 6 (v := ?_) rfl (by kernel_rfl) (by kernel_rfl) (by kernel_rfl) (fun _ _ _ h => h) (by kernel_rfl) (fun w hSw => ?_) (by assumption) ?_
                  rotate_left
                  · (try dsimp only at hSw); go_simp; (try with_reducible rfl)
                  try simp only [Act.put, List.setIfInBounds_toArray, List.set_cons_zero, List.set_cons_succ]
                  refine held_yes 7 (v := ?_) rfl (by kernel_rfl) (by kernel_rfl) (by kernel_rfl) (fun _ _ _ h => h) (by kernel_rfl) (fun w hSw => ?_) (by assumption) ?_
                  rotate_left
                  · (try dsimp only at hSw); go_simp; (try with_reducible rfl)
                  try simp only [Act.put, List.setIfInBounds_toArray, List.set_cons_zero, List.set_cons_succ]
                  refine held_yes 8 (v := ?_) rfl (by kernel_rfl) (by kernel_rfl) (by kernel_rfl) (fun _ _ _ h => h) (by kernel_rfl) (fun w hSw => ?_) (by assumption) ?_
                  rotate_left
                  · (try dsimp only at hSw); go_simp; (try with_reducible rfl)
                  try simp only [Act.put, List.setIfInBounds_toArray, List.set_cons_zero, List.set_cons_succ]
                  refine held_yes 9 (v := ?_) rfl (by kernel_rfl) (by kernel_rfl) (by kernel_rfl) (fun _ _ _ h => h) (by kernel_rfl) (fun w hSw => ?_) (by assumption) ?_
                  rotate_left
                  · (try dsimp only at hSw); go_simp; (try with_reducible rfl)
                  try simp only [Act.put, List.setIfInBounds_toArray, List.set_cons_zero, List.set_cons_succ]
                  refine held_no 10 rfl (by kernel_rfl) (by kernel_rfl) (by kernel_rfl) (fun _ _ _ h => h) (by kernel_rfl) (by assumption) ?_
                  try simp only [Act.put, List.setIfInBounds_toArray, List.set_cons_zero, List.set_cons_succ]
                  refine held_no 11 rfl (by kernel_rfl) (by kernel_rfl) (by kernel_rfl) (fun _ _ _ h => h) (by kernel_rfl) (by assumption) ?_
                  try simp only [Act.put, List.setIfInBounds_toArray, List.set_cons_zero, List.set_cons_succ]
                  refine held_no 12 rfl (by kernel_rfl) (by kernel_rfl) (by kernel_rfl) (fun _ _ _ h => h) (by kernel_rfl) (by assumption) ?_
                  try simp only [Act.put, List.setIfInBounds_toArray, List.set_cons_zero, List.set_cons_succ]
                  refine held_no 13 rfl (by kernel_rfl) (by kernel_rfl) (by kernel_rfl) (fun _ _ _ h => h) (by kernel_rfl) (by assumption) ?_
                  try simp only [Act.put, List.setIfInBounds_toArray, List.set_cons_zero, List.set_cons_succ]
                  refine held_no 14 rfl (by kernel_rfl) (by kernel_rfl) (by kernel_rfl) (fun _ _ _ h => h) (by kernel_rfl) (by assumption) ?_
                  try simp only [Act.put, List.setIfInBounds_toArray, List.set_cons_zero, List.set_cons_succ]
                  refine held_yes 15 (v := ?_) rfl (by kernel_rfl) (by kernel_rfl) (by kernel_rfl) (fun _ _ _ h => h) (by kernel_rfl) (fun w hSw => ?_) (by assumption) ?_
                  rotate_left
                  · (try dsimp only at hSw); go_simp; (try with_reducible rfl)
                  try simp only [Act.put, List.setIfInBounds_toArray, List.set_cons_zero, List.set_cons_succ]
                  refine wpAnyH_done (by kernel_rfl) ?_ _
                  go_wp2_with fail
                  exact ⟨⟨p0, by omega, by go_num, grew_trans hfp (grew_drew _), HE.out _ (grew_drew _)⟩, by simp [intOf]; try omega⟩
          · obtain rfl : q = b.moves.length := by omega
            have hIe := HI.out
            rw [tabU_end] at hIe
            have HE : Hid (IntsAt wr wo.heap.size (tabI b.moves.length (refC b (k + 1)))) := hIe
            have hwl := (hfo.1.size)
            clear hIe
            go_wp2_with fail
            exact ⟨⟨k + 1, wo.heap.size, by omega, by go_num, rfl, by have := HSE.out; omega, grew_trans hfo hfq, HE.out⟩, by simp [intOf]; try omega⟩
      · obtain rfl : k = b.moves.length := by omega
        have hcan := can_ref b b.moves.length
        have HMA : Hid (numA b (frsL b (refC b b.moves.length)) (tabI b.moves.length (numF (refC b b.moves.length))) = mergeA b) := rfl
        generalize refC b b.moves.length = f' at *
        have HCAN := Lib.hid hcan
        have hmk2 := mk_ints b.moves.length (by omega) wo
        obtain ⟨w6, hw6⟩ : ∃ w6, w6 = wo.alloc (.cells (Array.replicate b.moves.length (.int .i64 0)) 3) := ⟨_, rfl⟩
        rw [← hw6] at hmk2
        have hG6 : Grew wo w6 := by rw [hw6]; exact grew_alloc _ _
        have hs6 : w6.heap.size = wo.heap.size + 1 := by rw [hw6]; simp
        have hI6 : IntsAt w6 wo.heap.size (tabU b.moves.length 0 (fun q => (numF f' q : Int)) fun _ => 0) := by
          rw [tabU_zero, List.map_const', List.length_range]
          have h := ints_made wo b.moves.length
          rw [← hw6] at h
          exact h
        have HI6 := Lib.hid hI6
        have HC6 := Lib.hid (ValsAt.frm HIo.out hG6.1)
        obtain ⟨xo5, xp5, xq5⟩ := (hxa.out wo hfo).cells
        obtain ⟨xo6, xp6, xq6⟩ := ((hxa.out wo hfo).frm hG6.1).cells
        have hgcw : gc < wo.heap.size := hgcl
        clear hw6 hI6 hcan
        go_wp2_with fail
        clear xo5 xp5 xq5 xo6 xp6 xq6 hmk2
        go_loopw [10, 83] (fun z i wz => ∃ (q ls : Nat) (As : Option Addr) (cs : Nat), q ≤ b.moves.length ∧ i = .int .i64 q ∧ z = .slice As ls cs ∧ Hid (ls = cntB (isF f') q) ∧ ls ≤ q ∧ Grew wo wz ∧ Hid (IntsAt wz gc (tabI b.moves.length f')) ∧ Hid (IntsAt wz wo.heap.size (tabU b.moves.length q (fun q => (numF f' q : Int)) fun _ => 0)) ∧ Hid (Own IntR wz w6.heap.size 3 1 (fun _ => True) (.slice As ls cs) (((List.range q).filter (isF f')).map fun p : Nat => (p : Int)))) (fun _ i _ => b.moves.length - (intOf i).toNat)
        case atStart => exact ⟨0, 0, none, 0, Nat.zero_le _, rfl, rfl, rfl, Nat.le_refl _, hG6, HC6.out, HI6.out, Own.nil _ _ _ _ _ _⟩
        case round =>
          obtain ⟨q, ls, As, cs, hq, rfl, rfl, HLS, hlsq, hfz, HCZ, HIZ, HOZ⟩ := hrel
          by_cases hltq : q < b.moves.length
          · have hlc : (tabI b.moves.length f').length = b.moves.length := tabI_len _ _
            have hcq := IntsAt.at HCZ.out (i := q) (by rw [hlc]; exact hltq)
            rw [tabI_get f'] at hcq
            have hTL : (tabU b.moves.length q (fun q => (numF f' q : Int)) fun _ => 0).length = b.moves.length := tabU_len
            have HTS : Hid ((tabU b.moves.length q (fun q => (numF f' q : Int)) fun _ => 0).set q (numF f' q : Int) = tabU b.moves.length (q + 1) (fun q => (numF f' q : Int)) fun _ => 0) := tabU_succ (f := fun q => (numF f' q : Int)) hltq
            have hle := HCAN.out.le q
            have hnf := numF_fst HCAN.out hltq
            have hct : f' q < q → wr.cell? ⟨wo.heap.size, f' q, none⟩ = some (.int .i64 (numF f' q)) := fun h => by
              have h1 := HIZ.out.at (i := f' q) (by rw [hTL]; omega)
              have h2 := tabU_at? (n := b.moves.length) (q := q) (f := fun q => (numF f' q : Int)) (g := fun _ => 0) (i := f' q) (by omega)
              rw [List.getElem?_eq_getElem (by rw [hTL]; omega), if_pos h] at h2
              injection h2 with h2
              rw [h2] at h1
              rw [← hnf]
              exact h1
            have hcu := HIZ.out.at (i := q) (by rw [hTL]; exact hltq)
            rw [tabU_at] at hcu
            have hiu := ValsAt.free HIZ.out q
            have HPUT : Hid (∀ v : Int, v = numF f' q → IntsAt (wr.setCell ⟨wo.heap.size, q, none⟩ (.int .i64 v)) wo.heap.size (tabU b.moves.length (q + 1) (fun q => (numF f' q : Int)) fun _ => 0)) := fun v hv => by
              have h := IntsAt.put HIZ.out q v
              rw [hv, HTS.out] at h
              rw [hv]
              exact h
            have HCZ2 : Hid (∀ v : Value, IntsAt (wr.setCell ⟨wo.heap.size, q, none⟩ v) gc (tabI b.moves.length f')) := fun v => HCZ.out.move (Below.heap_setCell _ _ _ _ (by show gc ≠ wo.heap.size; omega))
            have HOZ2 : Hid (∀ v : Value, Own IntR (wr.setCell ⟨wo.heap.size, q, none⟩ v) w6.heap.size 3 1 (fun _ => True) (.slice As ls cs) (((List.range q).filter (isF f')).map fun p : Nat => (p : Int))) := fun v => by
              refine own_setI HOZ.out (by omega) _ _
            have hfz2 : Hid (∀ v : Value, Grew wo (wr.setCell ⟨wo.heap.size, q, none⟩ v)) := fun v => grew_set_new hfz (Nat.le_refl _) _ _
            have HFS := Lib.hid (frs_step2 b.moves.length q f')
            have HCS := Lib.hid (cntB_succ (isF f') q)
            have hqi : (q : Int) < b.moves.length := by omega
            have hnl : numF f' q = cntB (isF f') (f' q) := rfl
            by_cases he : f' q = q
            · have hi : isF f' q = true := by unfold isF; rw [he]; simp
              have hceq : ((f' q : Int) == (q : Int)) = true := by simp [he]
              have hnv : ((ls : Nat) : Int) = (numF f' q : Int) := by rw [hnl, he, HLS.out]
              have HP2 := Lib.hid (HPUT.out (ls : Int) hnv)
              have HFS2 : Hid (((List.range (q + 1)).filter (isF f')).map (fun p : Nat => (p : Int)) = (((List.range q).filter (isF f')).map fun p : Nat => (p : Int)) ++ [(q : Int)]) := by
                unfold Hid
                rw [HFS.out, hi, List.map_append]
                rfl
              have HLS2 : Hid (ls + 1 = cntB (isF f') (q + 1)) := by
                unfold Hid
                rw [HCS.out, hi, ← HLS.out]
                rfl
              have hcn : (((List.range q).filter (isF f')).map fun p : Nat => (p : Int)).length = ls := by
                rw [List.length_map, HLS.out]
                rfl
              have hl7 : (((List.range (q + 1)).filter (isF f')).map fun p : Nat => (p : Int)).length = ls + 1 := by
                rw [List.length_map, HLS2.out]
                rfl
              have hls6 : (ls : Int) ≤ 6 := by omega
              generalize hfq : f' q = fq at *
              clear hct he hi hnv hfq hnf hnl
              repeat ((fail_if_success at_builtin); first | go_values | go_skip | go_guarded | go_step | go_upon)
              have hO0 := HOZ2.out (.int .i64 (ls : Int))
              have hfz0 := hfz2.out (.int .i64 (ls : Int))
              have HCZ0 := Lib.hid (HCZ2.out (.int .i64 (ls : Int)))
              have hsw7 : (wr.setCell ⟨wo.heap.size, q, none⟩ (.int .i64 (ls : Int))).heap.size = wr.heap.size := by simp
              generalize wr.setCell ⟨wo.heap.size, q, none⟩ (.int .i64 (ls : Int)) = w7 at *
              have hf8 : Grew wo (w7.alloc (.cells #[.int .i64 q] 3)) := grew_then_alloc hfz0 _
              have hO5 := hO0.kept moves_int (frm_alloc w7 (.cells #[.int .i64 q] 3)) (ownNone _) (by simp)
              have htw := OneAt.new w7 (.int .i64 q) 3
              rw [hsw7] at htw
              have hltO := hO0.lt
              have hsz7 := hfz0.1.size
              have hl67 : w6.heap.size ≤ w7.heap.size := by have := ValsAt.lt HP2.out; omega
              refine Own.app1 moves_int elem_int hO5 rfl _ _ rfl rfl rfl (q : Int) [.int .i64 q] rfl (one_at htw) ?_ ⟨rfl, by omega, by omega⟩ (by rw [hcn]; omega) (by omega) (by simp; omega) ?_
              · intro u hu
                simp at hu
                subst hu
                rfl
              intro v9 w9 hO9 hg9 hp9
              have hmv : ∀ k, k < w7.heap.size → some k ≠ (Value.slice As ls cs).ownBlock → w9.heap[k]? = w7.heap[k]? := fun k hk hne => (hg9.1.block k (by simp; omega) hne).trans (Below.heap_alloc _ _ _ hk)
              have hfr9 : Grew wo w9 := grew_own hf8 (fun b hb => by have := (hltO b hb).1; omega) hg9.1 hg9.2
              rw [← HFS2.out] at hO9
              obtain ⟨A9, c9, he9, hcc9⟩ := hO9.val
              rw [hl7] at he9
              subst he9
              have HO9 := Lib.hid hO9
              have HC9 : Hid (IntsAt w9 gc (tabI b.moves.length f')) := HCZ0.out.move (hmv gc (ValsAt.lt HCZ0.out) (fun e => by have := (hltO gc e.symm).1; omega))
              have HI9 : Hid (IntsAt w9 wo.heap.size (tabU b.moves.length (q + 1) (fun q => (numF f' q : Int)) fun _ => 0)) := HP2.out.move (hmv _ (ValsAt.lt HP2.out) (fun e => by have := (hltO _ e.symm).1; omega))
              clear hO9 hO5 htw hltO hmv hO0
              go_wp2_with fail
              exact ⟨⟨q + 1, ls + 1, A9, c9, by omega, by go_num, rfl, HLS2, by omega, hfr9, HC9.out, HI9.out, HO9.out⟩, by simp [intOf]; omega⟩
            · have hi : isF f' q = false := by unfold isF; simp; exact he
              have hceq : ((f' q : Int) == (q : Int)) = false := by simp; omega
              have hct2 := hct (by omega)
              have HP2 := Lib.hid (HPUT.out (numF f' q : Int) rfl)
              have HFS2 : Hid (((List.range (q + 1)).filter (isF f')).map (fun p : Nat => (p : Int)) = (((List.range q).filter (isF f')).map fun p : Nat => (p : Int))) := by
                unfold Hid
                rw [HFS.out, hi]
                simp
              have HLS2 : Hid (ls = cntB (isF f') (q + 1)) := by
                unfold Hid
                rw [HCS.out, hi, ← HLS.out]
                rfl
              have HO2 : Hid (Own IntR (wr.setCell ⟨wo.heap.size, q, none⟩ (.int .i64 (numF f' q : Int))) w6.heap.size 3 1 (fun _ => True) (.slice As ls cs) (((List.range (q + 1)).filter (isF f')).map fun p : Nat => (p : Int))) := by
                unfold Hid
                rw [HFS2.out]
                exact HOZ2.out _
              have hfqi : (f' q : Int) < b.moves.length := by omega
              have HC2 := Lib.hid (HCZ2.out (.int .i64 (numF f' q : Int)))
              have hF2 := hfz2.out (.int .i64 (numF f' q : Int))
              generalize numF f' q = nq at *
              generalize f' q = fq at *
              clear hct he hi hnf hnl
              go_wp2_with fail
              exact ⟨⟨q + 1, ls, As, cs, by omega, by go_num, rfl, HLS2, by omega, hF2, HC2.out, HP2.out, HO2.out⟩, by simp [intOf]; omega⟩
          · obtain rfl : q = b.moves.length := by omega
            have hlT : (tabI b.moves.length (numF f')).length = b.moves.length := tabI_len _ _
            have hIe := HIZ.out
            rw [tabU_end] at hIe
            have hIT : IntsAt wr wo.heap.size (tabI b.moves.length (numF f')) := hIe
            obtain ⟨tl, htl⟩ : ∃ tl, tl = tabI b.moves.length (numF f') := ⟨_, rfl⟩
            have htb : ∀ x ∈ tl, 0 ≤ x ∧ x ≤ 6 := fun x hx => by
              rw [htl] at hx
              exact tabI_bd (m := 6) (fun q hq => by have := numF_ltn HCAN.out hq; omega) x hx
            rw [← htl] at hIT hlT HMA
            have hcS := hIT.at (i := b.start.toNat) (by rw [hlT]; exact hst1)
            have HSTA : Hid (tl[b.start.toNat]'(by rw [hlT]; exact hst1) = (mergeA b).start) := by
              unfold Hid
              rw [← HMA.out]
              unfold numA
              have hsl : b.start.toNat < tl.length := by rw [hlT]; exact hst1
              simp [hsl]
            have hstb := htb _ (List.getElem_mem (l := tl) (n := b.start.toNat) (by rw [hlT]; exact hst1))
            generalize tl[b.start.toNat]'(by rw [hlT]; exact hst1) = st at *
            have HTB := Lib.hid htb
            have HLT := Lib.hid hlT
            have is0 : (0 : Int) ≤ b.start := hst0
            have is1 : b.start < b.moves.length := by omega
            have hG2r : Grew w2 wr := grew_trans hfo hfz
            obtain ⟨xz0, xz1, xz2⟩ := (hxa.out wr hG2r).cells
            obtain ⟨F, hF⟩ : ∃ F, F = (List.range b.moves.length).filter (isF f') := ⟨_, rfl⟩
            have hFL : F.length = ls := by rw [hF, HLS.out]; rfl
            have hFM : ∀ q ∈ F, q < b.moves.length := fun q hq => by rw [hF] at hq; exact List.mem_range.1 (List.mem_filter.1 hq).1
            have HMA2 : Hid (numA b F tl = mergeA b) := by unfold Hid; rw [hF]; exact HMA.out
            rw [← hF] at HOZ
            have HFL := Lib.hid hFL
            have HFM := Lib.hid hFM
            have HIT := Lib.hid hIT
            have hlw := (hxa.out wr hG2r).lt
            have hg2r := ValsAt.lt hIT
            have hls6 : ls ≤ 6 := by omega
            clear htl htb hIe hIT hlT hF hFL hFM HMA
            repeat ((fail_if_success at_builtin); first | go_values | go_skip | go_guarded | go_step | go_upon)
            have hfB : Grew wr (wr.alloc (.cells #[.slice none 0 0, .int .i64 st, .slice none 0 0] 25)) := grew_alloc _ _
            have tB := ThreeAt.new wr (.slice none 0 0) (.int .i64 st) (.slice none 0 0) 25
            have hGB : Grew w2 (wr.alloc (.cells #[.slice none 0 0, .int .i64 st, .slice none 0 0] 25)) := grew_trans hG2r hfB
            have hS2 : Sl (fun q => q < w2.heap.size) (wr.alloc (.cells #[.slice none 0 0, .int .i64 st, .slice none 0 0] 25)) 1 (IntR (fun q => q < w2.heap.size) (wr.alloc (.cells #[.slice none 0 0, .int .i64 st, .slice none 0 0] 25))) b.ranks (.slice A b.ranks.length c) :=
              Sl.move HBR.out (fun b hb => hb) (frm_lt hGB.1) fun x _ cs h => moves_int _ _ _ _ _ _ (fun b hb => hb) (frm_lt hGB.1) h
            have hszB : (wr.alloc (.cells #[.slice none 0 0, .int .i64 st, .slice none 0 0] 25)).heap.size = wr.heap.size + 1 := World.size_alloc _ _
            have hs2w := hG2r.1.size
            obtain ⟨gs, hgs⟩ : ∃ gs, gs = wr.heap.size := ⟨_, rfl⟩
            have hOlt := HOZ.out.lt
            rw [← hgs] at tB hszB hlw hg2r hs2w hOlt ⊢
            have HIB := Lib.hid (ValsAt.frm HIT.out hfB.1)
            have HOB := Lib.hid (HOZ.out.kept moves_int hfB.1 (ownNone _) (by simp))
            clear hgs hfB HIT HOZ
            generalize wr.alloc (.cells #[.slice none 0 0, .int .i64 st, .slice none 0 0] 25) = wB at *
            obtain ⟨v3, wC, hrun, hO3, hg3, hp3⟩ := Own.app_sl moves_int elem_int (Own.nil IntR wB wB.heap.size 3 1 (fun _ => True)) 22 hS2 (fun b hb => ⟨trivial, by omega, fun e => by cases e⟩) (fun x cs h u hu => by
              obtain ⟨rfl, _⟩ := h
              simp only [List.mem_cons, List.not_mem_nil, or_false] at hu
              subst hu
              rfl) (by simp; omega) (by omega) (Nat.le_refl _)
            refine append_list _ _ rfl rfl rfl rfl hrun ?_
            have hGC : Grew wB wC := ⟨frm_weak hg3.1, hg3.2⟩
            rw [List.nil_append] at hO3
            have hsC := hGC.1.size
            have hRK : RowS 1 IntR (fun q => gs < q ∧ q < wC.heap.size) wC b.ranks [v3] := WR.rd (moves_row moves_int) ((own_int (ok' := fun _ => False) hO3).slW moves_int (by omega) (fun b h _ => h.elim) (fun b hb => by have := hO3.lt b hb; omega))
            obtain ⟨Ar, cr, rfl, hcr⟩ := hO3.val
            have tC := tB.frm hGC.1
            have htC := tC.set0 (.slice Ar b.ranks.length cr)
            have hfC0 := tC.free 0
            obtain ⟨tc0, tc1, tc2⟩ := tC.cells
            have hset : ∀ q, q ≠ gs → (wC.setCell ⟨gs, 0, none⟩ (.slice Ar b.ranks.length cr)).heap[q]? = wC.heap[q]? := fun q hq => Below.heap_setCell _ _ _ _ hq
            have HI8 := Lib.hid (ValsAt.move (ValsAt.frm HIB.out hGC.1) (hset wo.heap.size (by omega)))
            have HOC := HOB.out.kept moves_int hGC.1 (ownNone _) (by simp)
            have HO8 : Hid (Own IntR (wC.setCell ⟨gs, 0, none⟩ (.slice Ar b.ranks.length cr)) w6.heap.size 3 1 (fun _ => True) (.slice As ls cs) (F.map fun p : Nat => (p : Int))) := by
              obtain ⟨inner, ho, h1, hx⟩ := HOC
              refine ⟨inner, ho.kept (row := some gs) (frm_set (frm_refl _ _) _ _) (.inr fun e => by have := (hOlt gs e).2; omega), h1, fun i hi => ?_⟩
              obtain ⟨cs, hl, hc, hr⟩ := hx i hi
              exact ⟨cs, hl, hc, hr⟩
            have hG28 : Grew w2 (wC.setCell ⟨gs, 0, none⟩ (.slice Ar b.ranks.length cr)) := grew_set_new (grew_trans hGB hGC) (by omega) _ _
            have HRK8 : Hid (RowS 1 IntR (fun q => gs < q ∧ q < wC.heap.size) (wC.setCell ⟨gs, 0, none⟩ (.slice Ar b.ranks.length cr)) b.ranks [.slice Ar b.ranks.length cr]) := moves_row moves_int _ _ _ _ _ _ (fun q hq => hq) (fun q hq => hset q (by omega)) hRK
            have HT8 := Lib.hid htC
            have hs8C : (wC.setCell ⟨gs, 0, none⟩ (.slice Ar b.ranks.length cr)).heap.size = wC.heap.size := by simp
            obtain ⟨xy0, xy1, xy2⟩ := (hxa.out wB hGB).cells
            obtain ⟨xz0, xz1, xz2⟩ := (hxa.out wC (grew_trans hGB hGC)).cells
            obtain ⟨w8, hw8⟩ : ∃ w8, w8 = wC.setCell ⟨gs, 0, none⟩ (.slice Ar b.ranks.length cr) := ⟨_, rfl⟩
            rw [← hw8] at HI8 HO8 HRK8 HT8 hs8C hG28
            have HW8 := Lib.hid hw8
            have h8g : gs < w8.heap.size := HT8.out.lt
            have hg28 : wo.heap.size < w8.heap.size := ValsAt.lt HI8.out
            have HG28 := Lib.hid hG28
            have hxf : Hid (wC.heap.size ≤ w8.heap.size) := by unfold Hid; omega
            have hw2gs : w2.heap.size ≤ gs := by omega
            clear hRK htC hset hO3 hrun hS2 hp3 tC hw8 hG28 hs8C HIB HOB HOC
            go_wp2_with fail
            rw [← HW8.out]
            clear tc0 tc1 tc2 hfC0 xz0 xz1 xz2 xy0 xy1 xy2
            go_loopw [126] (fun i wr => ∃ (k : Nat) (mv : Value) (acc : List (List (List (List Nd)))), k ≤ ls ∧ i = .int .i64 k ∧ acc.length = k ∧ Hid (acc = (F.take k).map (rowR b tl)) ∧ BQ w8 gs (.slice Ar b.ranks.length cr) st mv acc wr) (fun i _ => ls - (intOf i).toNat)
            case atStart => exact ⟨0, _, [], Nat.zero_le _, rfl, rfl, rfl, .refl _ _ _, HT8.out, Own.nil _ _ _ _ _ _⟩
            case round =>
              obtain ⟨k, mv, acc, hk, rfl, hal, HACC, hBQ⟩ := hrel
              have hG2r : Grew w2 wr := GrewG.grew HG28.out (by omega) (by omega) hBQ.1
              obtain ⟨xa0, xa1, xa2⟩ := (hxa.out wr hG2r).cells
              obtain ⟨gc0, gc1, gc2⟩ := hBQ.2.1.cells
              obtain ⟨Am, cm, hme, hmc⟩ := hBQ.2.2.val
              subst hme
              by_cases hlt : k < ls
              · have hkF : k < F.length := by rw [HFL.out]; exact hlt
                have hOr : Own IntR wr w6.heap.size 3 1 (fun _ => True) (.slice As ls cs) (F.map fun p : Nat => (p : Int)) := own_moveI HO8.out (fun g hg => hBQ.1.block g (HO8.out.lt g hg).2 (by have := hOlt g hg; omega))
                have hsl := hOr.sl moves_int (S := fun b => b < wr.heap.size) (by rw [List.length_map, HFL.out]; omega) (fun b _ h => h) (fun b _ h => h)
                obtain ⟨bF, oF, pF, rfl, hbF, hpF, hptF⟩ := hsl.at1 k (by rw [List.length_map]; exact hkF)
                obtain ⟨hpv, _⟩ := hptF
                simp only [List.getElem_map, List.cons.injEq, and_true] at hpv
                subst hpv
                have hqn := HFM.out _ (List.getElem_mem hkF)
                have HTK : Hid ((F.take (k + 1)).map (rowR b tl) = (F.take k).map (rowR b tl) ++ [rowR b tl F[k]]) := by
                  unfold Hid
                  rw [List.take_succ_eq_append_getElem hkF, List.map_append]
                  rfl
                generalize F[k] = q at *
                have hIr := ValsAt.move HI8.out (hBQ.1.block wo.heap.size hg28 (by omega))
                obtain ⟨b0, o0, p0, rfl, hb0, hp0', hpt⟩ := HBM.out.at1 q hqn
                have hp0 := frm_cell hG2r.1 hp0'
                have HRE : Hid (rowR b tl q = (b.moves[q]).map (rmv (toL tl))) := by unfold Hid rowR; rw [show b.moves.getD q [] = b.moves[q] by simp [hqn]]
                have HOS := Lib.hid (ok_state HOK.out _ (List.getElem_mem hqn))
                have HOR := Lib.hid ((ok_rows HOK.out).2 _ (List.getElem_mem hqn))
                have hrl := HOR.out.1
                generalize b.moves[q] = row at *
                obtain ⟨A2, c2, rfl⟩ := row_slice hpt
                have HTr := Lib.hid (ints_slice hIr HLT.out.symm (by omega) (fun x hx => by have := HTB.out x hx; omega))
                have HMV := Lib.hid (bq_row hBQ h8g (by omega) (rdO_frm moves_rule hG2r.1 hpt) HTr.out (fun l hl x hx y hy => by rw [HLT.out]; exact HOS.out l hl x hx y hy) (by omega) (fun l hl => ⟨by have := (HOR.out.2 l hl).1; omega, fun x hx => by have := ((HOR.out.2 l hl).2 x hx).1; omega⟩))
                have HG0 : Grew wr wr.drew := grew_drew _
                have HAL := Lib.hid hal
                have HBQ := Lib.hid hBQ
                have HF2 : Hid (acc ++ [row.map (rmv (toL tl))] = (F.take (k + 1)).map (rowR b tl)) := by unfold Hid; rw [HTK.out, HACC.out, HRE.out]
                have ik0 : (0 : Int) ≤ (q : Int) := by omega
                have ik1 : (q : Int) < b.moves.length := by omega
                clear hp0' hpt hBQ hIr hsl hOr gc0 gc1
                clear hal
                go_wp2_with fail
                go_region_law (first | (rw [if_pos (by rfl)]; refine append_wp (.tmp 131) (.tmp 139) rfl rfl rfl hrun9 ?_) | (go_simp; go_at_call 57; (with_reducible refine (HMV.out _ (by assumption)).mono ?_); rintro e w5' ⟨A8, c8, rfl, gc5, A9, c9, w9, hrun9, gc9, gf9, hBR9⟩; have hgl5 : gs < w5'.heap.size := World.block_lt_of_cell? _ _ gc5; dsimp only))
                all_goals
                  have HBR9 := Lib.hid hBR9
                  clear hBR9 hrun9
                  go_wp2_with fail
                  exact ⟨⟨k + 1, _, acc ++ [row.map (rmv (toL tl))], by omega, by go_num, by rw [List.length_append, List.length_singleton]; have := HAL.out; omega, HF2, HBR9.out⟩, by simp [intOf]; omega⟩
              · obtain rfl : k = ls := by omega
                subst hal
                have HAE : Hid (acc = (mergeA b).moves) := by
                  unfold Hid
                  rw [HACC.out, ← HMA2.out, List.take_of_length_le (by rw [HFL.out]; exact Nat.le_refl _)]
                  rfl
                have xr9 := xo2.frm hG2r.1
                obtain ⟨kx0, kx1, kx2⟩ := xr9.cells
                have kxf0 := xr9.free 0
                have kxf1 := xr9.free 1
                have kxf2 := xr9.free 2
                have hxl := xo2.lt
                have hsl9 := hBQ.2.2.sl2 moves_rule (S := fun q => w2.heap.size ≤ q ∧ q < wr.heap.size) (by omega) (fun q h1 h2 => ⟨by omega, h2⟩) (fun q hq => by have := hBQ.2.2.lt q hq; omega)
                have hrk9 : RowS 1 IntR (fun q => w2.heap.size ≤ q ∧ q < wr.heap.size) wr b.ranks [.slice Ar b.ranks.length cr] := moves_row moves_int _ _ _ _ _ _ (fun q hq => ⟨by omega, by have := hxf.out; have := hBQ.1.size; omega⟩) (fun q hq => hBQ.1.block q (by have := hxf.out; omega) (by omega)) HRK8.out
                have HRK9 := Lib.hid hrk9
                have HSL9 := Lib.hid hsl9
                have HG9 := Lib.hid (grew_trans hG2 hG2r)
                have hs9 := hG2r.1.size
                have hw2x := hG2.1.size
                clear hsl9 hrk9 xr9 hBQ
                go_wp2_with fail
                refine bodyPost_ret (v := .tuple #[.agg #[.slice Ar b.ranks.length cr, .int .i64 st, .slice Am acc.length cm], .int .i64 0]) (by simp [results, Tryz.results18, go_sem, kx0, kx1, kx2, kxf0, kxf1, kxf2]) rfl ⟨.slice Ar b.ranks.length cr, .slice Am acc.length cm, ?_, ?_, ?_⟩
                · rw [HM.out.1, HM.out.2, HSTA.out]
                · exact grew_set_new (grew_set_new (grew_set_new HG9.out (by omega) _ _) (by omega) _ _) (by omega) _ _
                · rw [HM.out.2]
                  have hset : ∀ q, q ≠ w.heap.size + 1 → (((wr.setCell ⟨w.heap.size + 1, 0, none⟩ (.slice Ar b.ranks.length cr)).setCell ⟨w.heap.size + 1, 1, none⟩ (.int .i64 st)).setCell ⟨w.heap.size + 1, 2, none⟩ (.slice Am acc.length cm)).heap[q]? = wr.heap[q]? := fun q hq => by
                    rw [Below.heap_setCell _ _ _ _ (by show q ≠ w.heap.size + 1; exact hq), Below.heap_setCell _ _ _ _ (by show q ≠ w.heap.size + 1; exact hq), Below.heap_setCell _ _ _ _ (by show q ≠ w.heap.size + 1; exact hq)]
                  refine ⟨_, _, rfl, ?_, ?_, by rw [← HSTA.out]; omega, by rw [← HSTA.out]; omega⟩
                  · exact moves_row moves_int _ _ _ _ _ _ (fun b hb => by have := hb.2; simp; omega) (fun b hb => hset b (by omega)) HRK9.out
                  · refine ⟨_, rfl, ?_⟩
                    rw [← HAE.out]
                    exact Sl.move HSL9.out (fun b hb => by have := hb.2; simp; omega) (fun b hb => hset b (by omega)) fun x _ cs h => moves_rule _ _ _ _ _ _ (fun b hb => by have := hb.2; simp; omega) (fun b hb => hset b (by omega)) h
end Go.Proofs.YtjpdmncafacmaaaGreatDoor
end
/- The law MixMerge, beside the chapter's example. -/
section
set_option linter.unusedVariables false
set_option linter.unusedSimpArgs false
namespace Go.Proofs.YtjpdmncafacmaaaGreatDoor
open Go.RowKit

set_option maxRecDepth 100000 in
set_option maxHeartbeats 1000000 in
theorem lmerge_calls (a : Au) (w : World) (hT : Tab w) (r m : Value) (ha : rdO AuR w a [r, .int .i64 a.start, m]) :
    Calls Tryz.prog 5 #[.agg #[r, .int .i64 a.start, m]] w fun e w' => e = .returned (.bool true) ∧ w.grownBy w' none := by
  have HA := Lib.hid ha
  have HTB := Lib.hid hT
  clear ha hT
  obtain ⟨w2, hw2⟩ : ∃ w2, w2 = w.alloc (.cells #[r, .int .i64 a.start, m] 25) := ⟨_, rfl⟩
  have hG2 : Grew w w2 := by rw [hw2]; exact grew_alloc _ _
  have xa : ThreeAt w2 w.heap.size r (.int .i64 a.start) m 25 := by rw [hw2]; exact ThreeAt.new w _ _ _ _
  have hP := merge_calls a w2 (HTB.out.grew hG2) _ _ (rdO_frm moves_au hG2.1 HA.out)
  rw [hw2] at hP
  have HP := Lib.hid hP
  have HW2 := Lib.hid hw2
  have HJ0 := Lib.hid (merge_zero a)
  clear hw2 hP
  go_enter Tryz.func5, Tryz.ntmps5
  go_wp2_with fail
  refine HP.out.mono ?_
  rw [← HW2.out]
  rintro e w3 ⟨r3, m3, rfl, hf3, hr3⟩
  have HRF : Hid (∀ w5, w.grownBy w5 none → Calls Tryz.prog _ #[.agg #[r, .int .i64 a.start, m]] w5 (RetQ w5 (mergeV a) (mergeE a))) := fun w5 hg => rmerge_calls a w5 _ _ (rdO_frm moves_au hg HA.out)
  generalize hV : mergeV a = V at *
  generalize hE : mergeE a = E at *
  obtain ⟨A3, n3, c3, B3, p3, d3, rfl, rfl⟩ := au_slices hr3
  have HR3 := Lib.hid hr3
  have hG3 := frm_trans hG2.1 hf3
  obtain ⟨xa0, xa1, xa2⟩ := (xa.frm hf3).cells
  have hl3' := (xa.frm hf3).lt
  clear hr3 hV hE
  go_wp2_with fail
  have x5 := ThreeAt.new w3 (.slice A3 n3 c3) (.int .i64 V.start) (.slice B3 p3 d3) 25
  have hG4 := frm_then_alloc hG3 (.cells #[.slice A3 n3 c3, .int .i64 V.start, .slice B3 p3 d3] 25)
  refine (HRF.out _ hG4).mono ?_
  rintro e w5 ⟨r5, m5, rfl, hf5, hr5⟩
  obtain ⟨A5, n5, c5, B5, p5, d5, rfl, rfl⟩ := auQ_slices hr5
  have hf35 := grew_trans (grew_alloc w3 (.cells #[.slice A3 n3 c3, .int .i64 V.start, .slice B3 p3 d3] 25)) hf5
  have hG5 := frm_trans hG3 hf35.1
  obtain ⟨x50, x51, x52⟩ := (x5.frm hf5.1).cells
  have hl5 := (x5.frm hf5.1).lt
  have HR5 := Lib.hid hr5
  have x7 := ThreeAt.new w5 (.slice A5 n5 c5) (.int .i64 V.start) (.slice B5 p5 d5) 25
  have hG6 := frm_then_alloc hG5 (.cells #[.slice A5 n5 c5, .int .i64 V.start, .slice B5 p5 d5] 25)
  have HIS := Lib.hid (isV_calls V E HJ0.out.1 HJ0.out.2 (w5.alloc (.cells #[.slice A5 n5 c5, .int .i64 V.start, .slice B5 p5 d5] 25)) _ _ _ _
    (rdO_frm moves_au (frm_alloc w5 _) (au_read HR3.out hf35)) (rdO_frm moves_au (frm_alloc w5 _) HR5.out))
  clear hr5 xa0 xa1 xa2 x5
  go_wp2_with fail
  refine HIS.out.mono ?_
  rintro e w8 ⟨rfl, hf8⟩
  dsimp only
  go_wp2_with fail
  refine (alive_calls _ (HTB.out.frm (frm_trans hG6 hf8.1))).mono ?_
  rintro e w9 ⟨rfl, hf9⟩
  dsimp only
  go_wp2_with fail
  exact bodyPost_ret (results_tmp rfl _ _ _) rfl ⟨rfl, frm_trans hG6 (frm_trans hf8.1 hf9.1)⟩
end Go.Proofs.YtjpdmncafacmaaaGreatDoor
end
/- MixMerge: the law's walk lifted to its row, and the tied card. -/
section
set_option linter.unusedVariables false
set_option linter.unusedSimpArgs false
namespace Go.Proofs.YtjpdmncafacmaaaGreatDoor.mixMerge
open Go.ChangeShapes Go.WideShapes Go.ChangeAt Go.RowKit
open Go.ChangeMaps (open_string shut_string)
theorem own : ownKnob Tryz.prog.godebug = none := by kernel_rfl
theorem laidOut : laidOutB Tryz.prog = true := by kernel_rfl
theorem gTab : Tryz.prog.globalNamed "math/bits.deBruijn64tab" = some 1 := by kernel_rfl
theorem gTabType : (Tryz.prog.globals[1]?).map (·.type) = some 179 := by kernel_rfl
theorem cellsTab : Tryz.prog.cellsOf 179 = 64 := by kernel_rfl
theorem cellsU8 : Tryz.prog.cellsOf 5 = 1 := by kernel_rfl
theorem table {W : World} (h : laidMetH Tryz.prog Rows.mixMergeRow.laid W) : Tab W :=
  tab_of (Lib.tabIs_of_head (rest := _) gTab gTabType Tryz.underlying179 Tryz.underlying5 cellsU8 cellsTab (laidMet.tail h))
set_option maxRecDepth 100000 in
theorem contract (H : Type) (enc : TypeId × Value → H) (W : World) (base : Nat) (args : Array Value) (ds gs : List (DataW H)) (before : List MemPlace)
    (hval0 : ∀ (j : Nat) t v, Tryz.f5.params[j]? = some t → args[j]? = some v → Value.okWide Tryz.prog W .any base t v)
    (hW : DataW.Whole enc Tryz.prog Tryz.f5.params.toList Rows.mixMergeSpec.vars false W args.toList ds gs before) (hL : laidMetH Tryz.prog Rows.mixMergeRow.laid W)
    (hsz0 : (DataW.weightsEach Tryz.prog (Tryz.f5.params.toList ++ Rows.mixMergeSpec.plain.varTypes Tryz.prog) (ds ++ gs)).all (· ≤ reachBytes) = true) :
    Calls Tryz.prog 5 args W fun e W' => ∃ v, e = .returned v ∧ Rows.mixMergeSpec.post enc Tryz.prog Tryz.f5 false true false false W args v W' := by
  have hsz : (DataW.weightsEach Tryz.prog (Tryz.f5.params.toList ++ Rows.mixMergeSpec.plain.varTypes Tryz.prog) (ds ++ gs)).all (· ≤ reachBytes) = true := hsz0
  have hval : ∀ (j : Nat) t v, Tryz.f5.params[j]? = some t → args[j]? = some v → Value.okWide Tryz.prog W .any base t v := hval0
  have hW' := hW
  obtain ⟨p, q, hA0, hV, rfl, hfz, hnd⟩ := hW
  have hA : DataW.TrodAll enc Tryz.prog W 0 (fun _ => true) true Tryz.f5.params.toList args.toList ds p := hA0
  rw [Tryz.params5] at hA hval hsz
  obtain ⟨a0, vs0, d0, ds0, p0, q0, hargs, rfl, rfl, h0, r0⟩ := trodAll_cons hA
  obtain ⟨rfl, rfl, rfl⟩ := trodAll_nil r0
  obtain rfl : args = #[a0] := by cases args; simp_all
  obtain ⟨rfl, rfl⟩ := trodVars_none hV
  have k0 := h0
  have lt0 : ∀ x ∈ p0, x.block < W.heap.size := by obtain ⟨m, hm⟩ := k0; exact DataW.trod_lt m _ _ _ hm
  have o0 := arg_au (hval 0 25 a0 rfl rfl) h0 (fun n hn => by simpa using List.all_eq_true.1 hsz _ (DataW.weights_mem_each (j := 0) (t := 25) rfl rfl n hn))
  obtain ⟨t0, v0, u0, rfl, x0⟩ := o0
  have htab := table hL
  clear hA0 hval0 hsz0
  refine (lmerge_calls t0 W htab v0 u0 x0).mono fun e W' ⟨he, hf⟩ => ?_
  have bel : Below W.heap.size W W' := ⟨hf.os, hf.tape, hf.output, hf.size, fun k hk => hf.block k hk (by simp)⟩
  subst he
  exact ⟨_, rfl, _, _, _, [], _, [], hW', trodAll_mk1 (shut_bool Tryz.underlying4 _), (trodAll_cons_mk (Below.trod laidOut (by kernel_rfl) (of_decide_eq_true (by kernel_rfl)) k0 bel lt0) trodAll_mk0), rfl, bel.frame _, fun h => by cases h⟩

/-- The three listed variables, laid. -/
def laidHeap3 (h : Array Obj) : Array Obj :=
  (laidHeap h).modify 2 (fun | .cells _ t frozen => .cells #[.int .u64 1, .int .u64 10, .int .u64 100, .int .u64 1000, .int .u64 10000, .int .u64 100000, .int .u64 1000000, .int .u64 10000000, .int .u64 100000000, .int .u64 1000000000, .int .u64 10000000000, .int .u64 100000000000, .int .u64 1000000000000, .int .u64 10000000000000, .int .u64 100000000000000, .int .u64 1000000000000000, .int .u64 10000000000000000, .int .u64 100000000000000000, .int .u64 1000000000000000000, .int .u64 10000000000000000000] t frozen | o => o)
/-- A world for the witness: the listed variables hold what their initialisers lay. -/
noncomputable def laidWorld (os : Os) : World :=
  { World.holding Tryz.prog os ⟨#[], #[], []⟩ with heap := laidHeap3 (World.holding Tryz.prog os ⟨#[], #[], []⟩).heap }
theorem laid_met (os : Os) : laidMet Tryz.prog Rows.mixMergeRow.laid ((laidWorld os).forCall (fun _ _ => 0) ⟨#[], #[.agg #[.slice none 0 0, .int .i64 0, .slice none 0 0]], []⟩).memory :=
  laidMet_of_run' 64 (by kernel_rfl) (by kernel_rfl)
theorem reads (os : Os) {H : Type} (enc : TypeId × Value → H) : ∃ places, DataW.whole enc Tryz.prog ((laidWorld os).forCall (fun _ _ => 0) ⟨#[], #[.agg #[.slice none 0 0, .int .i64 0, .slice none 0 0]], []⟩).memory Tryz.f5.params.toList Rows.mixMergeSpec.vars false #[(.agg #[.slice none 0 0, .int .i64 0, .slice none 0 0] : Value)].toList 64 = some ([.agg [.nil, .lit (.int .i64 0), .nil]], [], places) :=
  ⟨[], by kernel_rfl⟩
set_option maxRecDepth 100000 in
theorem lifted (os : Os) (started : os.Started) (H : Type) (enc : TypeId × Value → H) (F : Stop.Interp) :
    ReturnsInHanded {} Tryz.checked os 5 .any ((OpenSpec.ofChange Rows.mixMergeSpec).preRow enc Tryz.prog Tryz.f5 Rows.mixMergeRow.domain false Rows.mixMergeRow.laid) (((OpenSpec.ofChange Rows.mixMergeSpec).at F).post enc Tryz.prog Tryz.f5 false true false false) := by
  obtain ⟨places, hx⟩ := reads os enc
  refine returnsInHanded_of_row (C := Tryz.checked) (s := OpenSpec.ofChange Rows.mixMergeSpec) own started (by kernel_rfl) Tryz.func5
    (witness_row_at (enc := enc) (C := Tryz.checked) false (laidWorld os) #[.agg #[.slice none 0 0, .int .i64 0, .slice none 0 0]] rfl (by kernel_rfl) (by kernel_rfl) (by kernel_rfl)
      (OpenSpec.preRow_of_cond 64 hx (by kernel_rfl) (fun k hk => by cases hk) (by kernel_rfl) (laid_met os))) ?_
  intro W base args ds gs before hval hW _ _ hsz hL _ _
  exact contract H enc W base args ds gs before hval hW hL hsz
theorem said : Rows.MixMergeSaid :=
  OpenClaim.holds_of_cond 5 Tryz.f5 rfl rfl rfl rfl rfl rfl rfl ⟨rfl, rfl, rfl, rfl, rfl⟩ rfl rfl rfl rfl rfl (by kernel_rfl) Tryz.func5 (by kernel_rfl)
    (of_decide_eq_true (by kernel_rfl)) (by unfold Func.isWrapper; first | (rw [if_pos (by decide +kernel)]; kernel_rfl) | (rw [if_neg (by decide +kernel)]; exact ⟨rfl, rfl⟩))
    (fun os started H enc _ F => by rw [OpenClaim.pre_eq_preRow]; exact lifted os started H enc F)
set_option maxRecDepth 100000 in
theorem plain (f : FuncId) (fn : Func) (hf : Tryz.pinned.checked.prog.funcNamed "virgation/virgationlaw10.MixMerge" = some f) (hfn : Tryz.pinned.checked.prog.funcs[f]? = some fn) :
    false = Tryz.pinned.checked.prog.looks [] ∧ ∀ (j : Nat) t, fn.params[j]? = some t → Tryz.pinned.checked.prog.wantsStandIn t = false := by
  obtain rfl : f = 5 := Option.some.inj ((show Tryz.prog.funcNamed "virgation/virgationlaw10.MixMerge" = some 5 by kernel_rfl).symm.trans hf) |>.symm
  obtain rfl : fn = Tryz.f5 := (Option.some.inj (Tryz.func5.symm.trans hfn)).symm
  refine ⟨by kernel_rfl, fun j t ht => ?_⟩
  rw [Tryz.params5] at ht
  have s0 : Tryz.prog.wantsStandIn 25 = false := by kernel_rfl
  have hm := Array.mem_of_getElem? ht
  simp only [List.mem_toArray, List.mem_cons, List.not_mem_nil, or_false] at hm
  rcases hm with rfl
  all_goals assumption
theorem card : Rows.MixMergeCardSaid :=
  Claim7.holds_tied_plain_at .later [] _ _ _ _ said (fun _ h => by cases h) (by kernel_rfl) (fun _ h => by cases h) mixMerge_row_tie rfl ⟨rfl, rfl⟩ (by kernel_rfl) rfl plain (by kernel_rfl)
end Go.Proofs.YtjpdmncafacmaaaGreatDoor.mixMerge
namespace Go.Proofs.YtjpdmncafacmaaaGreatDoor
/-- The card, under a short name, for the claim. -/
theorem mixMerge_holds : Rows.MixMergeCardSaid := mixMerge.card
end Go.Proofs.YtjpdmncafacmaaaGreatDoor
end
