/- GrpReach: parts of the walks, one section each: the texts Cont, PlainW, RefCopy3, RefPlainD, RefPlainW, ReachP, OkLaw, NumD, NumW, Vals, ReachW, RefReachW, LReach, LawMixReach. -/
import Derived.Test.YtjpdmncafacmaaaDoorGrpC
import Derived.Test.YtjpdmncafacmaaaDoorClos
import Derived.Test.YtjpdmncafacmaaaDoorJoinW
import Derived.Test.YtjpdmncafacmaaaDoorRefCopy
import Derived.Test.YtjpdmncafacmaaaDoorRefBothD
import Derived.Test.YtjpdmncafacmaaaDoorAuLaw
import Derived.Test.YtjpdmncafacmaaaDoorRefBothR
import Derived.Test.YtjpdmncafacmaaaDoorGrpA
import Derived.Laws.MakeOwn
import Derived.ScopeJumps
import Derived.WalkMore
import Derived.Test.YtjpdmncafacmaaaDoorGrpD
import Derived.Test.YtjpdmncafacmaaaDoorCards
import Derived.Test.YtjpdmncafacmaaaDoorTie
import Derived.WalkKit
import Derived.ProofKit
import Derived.OpenShut
import Derived.ShutString
import Derived.ChangeOld
import Derived.Below
import Derived.SizedLaws
import Derived.Carry
import Derived.Deep.DeepHandedRow
import Derived.Deep.CondSized
import Derived.Lib.LaidTab
import Derived.Stop.LaidErr
import Derived.SevenTiedAt
/- contains: a list of needs holds every need of another one. -/
section
set_option linter.unusedVariables false
set_option linter.unusedSimpArgs false
namespace Go.Proofs.YtjpdmncafacmaaaDoor
open Go.RowKit

def IdxD (w : World) (b : Bool) (e : Ending) (w' : World) : Prop := ∃ z : Int, e = .returned (.int .i64 z) ∧ decide (z ≥ 0) = b ∧ (-1 ≤ z ∧ z ≤ 140737488351232) ∧ Grew w w'
set_option maxRecDepth 20000 in
set_option maxHeartbeats 1000000 in
theorem index_calls (xs : List Nd) (y : Nd) (w : World) (v : Value) (hx : SlO w 2 (rdO NdR) xs v) :
    Calls Tryd.prog 92 #[v, .agg #[.int .i64 y.1, .int .i64 y.2]] w (IdxD w (xs.any (eqN y))) := by
  obtain ⟨A, c, rfl, hc, hm⟩ := hx.val
  go_enter Tryd.func92, Tryd.ntmps92
  go_wp2_with fail
  obtain ⟨wo, hwo⟩ : ∃ wo : World, wo = w.alloc (.cells #[.int .i64 y.1, .int .i64 y.2] 44) := ⟨_, rfl⟩
  have hty : TwoAt wo w.heap.size (.int .i64 y.1) (.int .i64 y.2) 44 := by rw [hwo]; exact TwoAt.new _ _ _ _
  have hfo : Grew w wo := by rw [hwo]; exact grew_alloc w _
  rw [← hwo]
  clear hwo
  have HT := Lib.hid hty
  have HFO := Lib.hid hfo
  clear hty hfo
  generalize w.heap.size = gx at *
  go_loopw [8] (fun i wr => ∃ k : Nat, k ≤ xs.length ∧ i = .int .i64 k ∧ Grew wo wr ∧ Hid (xs.any (eqN y) = (xs.drop k).any (eqN y))) (fun i _ => xs.length - (intOf i).toNat)
  case atStart => exact ⟨0, Nat.zero_le _, rfl, grew_refl _, rfl⟩
  case round =>
    obtain ⟨k, hk, rfl, hfr, HC⟩ := hrel
    by_cases hlt : k < xs.length
    · obtain ⟨b, o, p0, p1, rfl, hb, hp0, hp1, hpt⟩ := (hx.frm (grew_trans HFO.out hfr).1 (stays_rd moves_nd)).at2 k hlt
      obtain ⟨hpv, _⟩ := hpt
      simp only [List.cons.injEq, and_true] at hpv
      obtain ⟨rfl, rfl⟩ := hpv
      have hd : Hid ((xs.drop k).any (eqN y) = (eqN y xs[k] || (xs.drop (k + 1)).any (eqN y))) := by
        unfold Hid
        rw [List.drop_eq_getElem_cons hlt, List.any_cons]
      generalize xs[k] = x at *
      obtain ⟨x0, x1, _, _⟩ := (HT.out.move (frm_lt hfr.1 _ HT.out.lt)).cells
      have e2 : (0 : Int) ≤ (k : Int) := by omega
      have e3 : (k : Int) < xs.length := by omega
      have e3' : (k : Int) ≤ xs.length := by omega
      cases heq : eqN y x
      · have HD : Hid (xs.any (eqN y) = (xs.drop (k + 1)).any (eqN y)) := by
          unfold Hid
          rw [HC.out, hd.out, heq, Bool.false_or]
        have hrun : ∀ w : World, (binOp .eql 44 (.agg #[.int .i64 y.1, .int .i64 y.2]) (.agg #[.int .i64 x.1, .int .i64 x.2])).run Tryd.prog w = .ok (.bool false) w := fun w => by rw [run_eqN, heq]
        clear heq
        go_wp2_with fail
        go_quiet (fail)
        have hG := grew_trans hfr (⟨frm_drewN _ nq, Nat.le_add_right _ _⟩ : Grew _ _)
        go_wp2_with fail
        exact ⟨⟨k + 1, by omega, by go_num, hG, HD⟩, by simp [intOf]; omega⟩
      · have HD : Hid (xs.any (eqN y) = true) := by
          unfold Hid
          rw [HC.out, hd.out, heq, Bool.true_or]
        have hrun : ∀ w : World, (binOp .eql 44 (.agg #[.int .i64 y.1, .int .i64 y.2]) (.agg #[.int .i64 x.1, .int .i64 x.2])).run Tryd.prog w = .ok (.bool true) w := fun w => by rw [run_eqN, heq]
        clear heq
        go_wp2_with fail
        go_quiet (fail)
        have hG := grew_trans hfr (⟨frm_drewN _ nq, Nat.le_add_right _ _⟩ : Grew _ _)
        go_wp2_with fail
        refine bodyPost_ret (results_tmp rfl _ _ _) rfl ⟨(k : Int), rfl, ?_, by omega, grew_trans HFO.out hG⟩
        rw [HD.out]
        exact decide_eq_true (by omega)
    · have HD : Hid (xs.any (eqN y) = false) := by
        unfold Hid
        rw [HC.out, List.drop_eq_nil_of_le (by omega)]
        rfl
      go_wp2_with fail
      refine bodyPost_ret (results_tmp rfl _ _ _) rfl ⟨-1, rfl, ?_, by omega, grew_trans HFO.out hfr⟩
      rw [HD.out]
      rfl
set_option maxRecDepth 20000 in
theorem hasN_calls (xs : List Nd) (y : Nd) (w : World) (v : Value) (hx : SlO w 2 (rdO NdR) xs v) :
    Calls Tryd.prog 73 #[v, .agg #[.int .i64 y.1, .int .i64 y.2]] w (RetD w (.bool (xs.any (eqN y)))) := by
  obtain ⟨A, c, rfl, hc, hm⟩ := hx.val
  have hfa := grew_alloc w (.cells #[.int .i64 y.1, .int .i64 y.2] 44)
  have H := Lib.hid (index_calls xs y _ _ (hx.frm hfa.1 (stays_rd moves_nd)))
  have HFA := Lib.hid hfa
  clear hx hfa
  go_enter Tryd.func73, Tryd.ntmps73
  go_wp2_with fail
  refine H.out.mono ?_
  rintro e w1 ⟨z, rfl, hz, hzb, hf⟩
  have HZ := Lib.hid hz
  clear hz
  go_wp2_with fail
  exact bodyPost_ret (results_tmp rfl _ _ _) rfl ⟨by rw [← HZ.out]; rfl, grew_trans HFA.out hf⟩
/-- What a function value says of a need, from a world on. -/
def PredFn (F : Nat) (cb : Array Value) (w : World) (b : Bool) (x : Nd) : Prop :=
  ∀ w', Grew w w' → Calls Tryd.prog F (#[.agg #[.int .i64 x.1, .int .i64 x.2]] ++ cb) w' (RetD w' (.bool b))
set_option maxRecDepth 20000 in
set_option maxHeartbeats 1000000 in
theorem idxF_calls (xs : List Nd) (p : Nd → Bool) (F : Nat) (cb : Array Value) (w : World) (v : Value) (eg : ∀ args w, (callFunc F args).run Tryd.prog w = .ok (.enter F args) w)
    (hF : ∀ x ∈ xs, PredFn F cb w (p x) x) (hx : SlO w 2 (rdO NdR) xs v) :
    Calls Tryd.prog 88 #[v, .func (.func F) #[] cb] w (IdxD w (xs.any p)) := by
  obtain ⟨A, c, rfl, hc, hm⟩ := hx.val
  have HF := Lib.hid hF
  clear hF
  go_enter Tryd.func88, Tryd.ntmps88
  go_wp2_with fail
  go_loopw [8] (fun i wr => ∃ k : Nat, k ≤ xs.length ∧ i = .int .i64 k ∧ Grew w wr ∧ Hid (xs.any p = (xs.drop k).any p)) (fun i _ => xs.length - (intOf i).toNat)
  case atStart => exact ⟨0, Nat.zero_le _, rfl, grew_refl _, rfl⟩
  case round =>
    obtain ⟨k, hk, rfl, hfr, HC⟩ := hrel
    by_cases hlt : k < xs.length
    · obtain ⟨b, o, p0, p1, rfl, hb, hp0, hp1, hpt⟩ := (hx.frm hfr.1 (stays_rd moves_nd)).at2 k hlt
      obtain ⟨hpv, _⟩ := hpt
      simp only [List.cons.injEq, and_true] at hpv
      obtain ⟨rfl, rfl⟩ := hpv
      have hd : Hid ((xs.drop k).any p = (p xs[k] || (xs.drop (k + 1)).any p)) := by
        unfold Hid
        rw [List.drop_eq_getElem_cons hlt, List.any_cons]
      have H1 := Lib.hid (HF.out _ (List.getElem_mem hlt) wr hfr)
      generalize xs[k] = x at *
      go_wp2_with fail
      go_at_fn F
      refine H1.out.mono ?_
      rintro e w1 ⟨rfl, hf⟩
      dsimp only
      have hG := grew_trans hfr hf
      cases heq : p x
      · have HD : Hid (xs.any p = (xs.drop (k + 1)).any p) := by
          unfold Hid
          rw [HC.out, hd.out, heq, Bool.false_or]
        clear heq
        go_wp2_with fail
        exact ⟨⟨k + 1, by omega, by go_num, hG, HD⟩, by simp [intOf]; omega⟩
      · have HD : Hid (xs.any p = true) := by
          unfold Hid
          rw [HC.out, hd.out, heq, Bool.true_or]
        clear heq
        go_wp2_with fail
        refine bodyPost_ret (results_tmp rfl _ _ _) rfl ⟨(k : Int), rfl, ?_, by omega, hG⟩
        rw [HD.out]
        exact decide_eq_true (by omega)
    · have HD : Hid (xs.any p = false) := by
        unfold Hid
        rw [HC.out, List.drop_eq_nil_of_le (by omega)]
        rfl
      go_wp2_with fail
      refine bodyPost_ret (results_tmp rfl _ _ _) rfl ⟨-1, rfl, ?_, by omega, hfr⟩
      rw [HD.out]
      rfl
set_option maxRecDepth 20000 in
theorem hasF_calls (xs : List Nd) (p : Nd → Bool) (F : Nat) (cb : Array Value) (w : World) (v : Value) (eg : ∀ args w, (callFunc F args).run Tryd.prog w = .ok (.enter F args) w)
    (hF : ∀ x ∈ xs, PredFn F cb w (p x) x) (hx : SlO w 2 (rdO NdR) xs v) :
    Calls Tryd.prog 65 #[v, .func (.func F) #[] cb] w (RetD w (.bool (xs.any p))) := by
  have H := Lib.hid (idxF_calls xs p F cb w v eg hF hx)
  obtain ⟨A, c, rfl, hc, hm⟩ := hx.val
  clear hF hx
  go_enter Tryd.func65, Tryd.ntmps65
  go_wp2_with fail
  refine H.out.mono ?_
  rintro e w1 ⟨z, rfl, hz, hzb, hf⟩
  have HZ := Lib.hid hz
  clear hz
  go_wp2_with fail
  exact bodyPost_ret (results_tmp rfl _ _ _) rfl ⟨by rw [← HZ.out]; rfl, hf⟩
set_option maxRecDepth 20000 in
theorem cont1_calls (l : List Nd) (x : Nd) (w : World) (v : Value) (g : Nat) (hg : w.cell? ⟨g, 0, none⟩ = some v) (hx : SlO w 2 (rdO NdR) l v) :
    Calls Tryd.prog 72 #[.agg #[.int .i64 x.1, .int .i64 x.2], .pointer (some ⟨g, 0, none⟩)] w (RetD w (.bool (!l.any (eqN x)))) := by
  have hlt := World.block_lt_of_cell? _ _ hg
  have hl : g < w.heap.size := by simpa using hlt
  obtain ⟨A, c, rfl, hc, hm⟩ := hx.val
  have hfa := grew_alloc w (.cells #[.int .i64 x.1, .int .i64 x.2] 44)
  have H := Lib.hid (hasN_calls l x _ _ (hx.frm hfa.1 (stays_rd moves_nd)))
  have HFA := Lib.hid hfa
  clear hx hfa
  go_enter Tryd.func72, Tryd.ntmps72
  go_wp2_with fail
  refine H.out.mono ?_
  rintro e w1 ⟨rfl, hf⟩
  go_wp2_with fail
  exact bodyPost_ret (results_tmp rfl _ _ _) rfl ⟨rfl, grew_trans HFA.out hf⟩
set_option maxRecDepth 20000 in
theorem cont_calls (l part : List Nd) (w : World) (v u : Value) (hx : SlO w 2 (rdO NdR) l v) (hy : SlO w 2 (rdO NdR) part u) :
    Calls Tryd.prog 37 #[v, u] w (RetD w (.bool (within part l))) := by
  obtain ⟨wo, hwo⟩ : ∃ wo : World, wo = w.alloc (.cells #[v] 41) := ⟨_, rfl⟩
  have hfa : Grew w wo := by rw [hwo]; exact grew_alloc w _
  have hg : wo.cell? ⟨w.heap.size, 0, none⟩ = some v := by
    have hb : wo.heap[w.heap.size]? = some (.cells #[v] 41) := by
      rw [hwo]
      show (w.heap.push _)[w.heap.size]? = _
      simp
    simp [World.cell?, hb]
  have H := Lib.hid (hasF_calls part (fun x => !l.any (eqN x)) 72 #[.pointer (some ⟨w.heap.size, 0, none⟩)] wo u (enters_of Tryd.func72 (by kernel_rfl) rfl)
    (fun x _ w' hw' => cont1_calls l x w' v w.heap.size (frm_cell hw'.1 hg) (hx.frm (grew_trans hfa hw').1 (stays_rd moves_nd))) (hy.frm hfa.1 (stays_rd moves_nd)))
  have HE : Hid (within part l = !part.any (fun x => !l.any (eqN x))) := by
    unfold Hid within
    rw [List.not_any_eq_all_not]
    simp
  obtain ⟨A, c, rfl, hc, hm⟩ := hx.val
  obtain ⟨B, d, rfl, hd, hm2⟩ := hy.val
  have HFA := Lib.hid hfa
  clear hx hy hfa hg
  go_enter Tryd.func37, Tryd.ntmps37
  go_wp2_with fail
  rw [← hwo]
  refine H.out.mono ?_
  rintro e w1 ⟨rfl, hf⟩
  go_wp2_with fail
  exact bodyPost_ret (results_tmp rfl _ _ _) rfl ⟨by rw [HE.out]; rfl, grew_trans HFA.out hf⟩
end Go.Proofs.YtjpdmncafacmaaaDoor
end
/- mix's Plain: the alternatives that contain others are left out. -/
section
set_option linter.unusedVariables false
set_option linter.unusedSimpArgs false
namespace Go.Proofs.YtjpdmncafacmaaaDoor
open Go.RowKit

def plainM (m : List (List (List (List Nd)))) : List (List (List (List Nd))) := m.map (·.map smallest)
def plainA (a : Au) : Au := ⟨a.ranks, a.start, plainM a.moves⟩
def plainE (a : Au) : Int := if a.ok then 0 else 10
def plainV (a : Au) : Au := if a.ok then plainA a else Au.zero
theorem own_nd {w : World} {base e k : Nat} {ok ok' : Nat → Prop} {v : Value} {xs : List Nd} (h : Own NdR w base e k ok v xs) : Own (WR NdR) w base e k ok' v xs := h
set_option maxRecDepth 100000 in
set_option maxHeartbeats 4000000 in
theorem plain_calls (a : Au) (w : World) (r m : Value) (ha : rdO AuR w a [r, .int .i64 a.start, m]) :
    Calls Tryd.prog 16 #[.agg #[r, .int .i64 a.start, m]] w (RetA w (plainV a) (plainE a)) := by
  obtain ⟨hR, hM, hs1, hs2⟩ := AuR.parts ha
  obtain ⟨A, c, rfl, hc, hlm⟩ := hR.val
  obtain ⟨B, d, rfl, hd, hlm2⟩ := hM.val
  have HA := Lib.hid ha
  clear ha
  obtain ⟨w2, hw2⟩ : ∃ w2, w2 = (w.alloc (.cells #[.slice A a.ranks.length c, .int .i64 a.start, .slice B a.moves.length d] 25)).alloc (.cells #[.slice none 0 0, .int .i64 0, .slice none 0 0] 25) := ⟨_, rfl⟩
  have hG2 : Grew w w2 := by rw [hw2]; exact grew_then_alloc (grew_alloc _ _) _
  have xa : ThreeAt w2 w.heap.size (.slice A a.ranks.length c) (.int .i64 a.start) (.slice B a.moves.length d) 25 := by
    rw [hw2]; exact (ThreeAt.new w _ _ _ _).frm (frm_alloc _ _)
  have xo : ThreeAt w2 (w.heap.size + 1) (.slice none 0 0) (.int .i64 0) (.slice none 0 0) 25 := by
    have h := ThreeAt.new (w.alloc (.cells #[.slice A a.ranks.length c, .int .i64 a.start, .slice B a.moves.length d] 25)) (.slice none 0 0) (.int .i64 0) (.slice none 0 0) 25
    rw [World.size_alloc] at h
    rw [hw2]; exact h
  have hP := acheck_calls a w2 _ _ (rdO_frm moves_au hG2.1 HA.out)
  rw [hw2] at hP
  have HP := Lib.hid hP
  have HW2 := Lib.hid hw2
  clear hw2 hP
  go_enter Tryd.func16, Tryd.ntmps16
  go_wp2_with fail
  refine HP.out.mono ?_
  rw [← HW2.out]
  rintro e w3 ⟨rfl, hf3⟩
  have hG3 := grew_trans hG2 hf3
  replace xa := xa.frm hf3.1
  replace xo := xo.frm hf3.1
  obtain ⟨xa0, xa1, xa2⟩ := xa.cells
  obtain ⟨xo0, xo1, xo2⟩ := xo.cells
  have xof := xo.free
  have hs3 := xo.lt
  cases hok : a.ok
  · have xf0 := xof 0
    have xf1 := xof 1
    have xf2 := xof 2
    have HJ : Hid (plainE a = 10 ∧ plainV a = Au.zero) := by
      unfold Hid plainE plainV
      rw [hok]
      exact ⟨rfl, rfl⟩
    clear hok
    go_wp2_with fail
    refine bodyPost_ret (v := .tuple #[.agg #[.slice none 0 0, .int .i64 0, .slice none 0 0], .int .i64 10]) (by simp [results, Tryd.results16, go_sem, xo0, xo1, xo2, xf0, xf1, xf2]) rfl ⟨.slice none 0 0, .slice none 0 0, ?_, ?_, ?_⟩
    · rw [HJ.out.1, HJ.out.2]; rfl
    · exact grew_set_new (grew_set_new (grew_set_new hG3 (by omega) _ _) (by omega) _ _) (by omega) _ _
    · rw [HJ.out.2]
      exact au_zero _ _
  · have hla := (ok_rows hok).1
    have hlr := (ranksOk_parts (ok_parts hok).1).1
    have HAO := Lib.hid hok
    clear hok xa0 xa1 xa2 xo0 xo1 xo2 xof
    go_wp2_with fail
    go_cut [5] (fun s5 wx => ∃ g, s5 = .pointer (some ⟨g, 0, none⟩) ∧ JMid w3 g a.ranks a.start wx)
    case first =>
      obtain ⟨xa0, xa1, xa2⟩ := xa.cells
      have hk0 : ∀ wx, wx = w3.drew → (Grew w3 wx ∧ wx.cell? ⟨w.heap.size, 0, none⟩ = some (.slice A a.ranks.length c) ∧ wx.cell? ⟨w.heap.size, 1, none⟩ = some (.int .i64 a.start)) := by
        rintro wx rfl
        exact ⟨grew_drew _, xa0, xa1⟩
      have hks : ∀ v1 v2 : World, Grew v1 v2 → (Grew w3 v1 ∧ v1.cell? ⟨w.heap.size, 0, none⟩ = some (.slice A a.ranks.length c) ∧ v1.cell? ⟨w.heap.size, 1, none⟩ = some (.int .i64 a.start)) → (Grew w3 v2 ∧ v2.cell? ⟨w.heap.size, 0, none⟩ = some (.slice A a.ranks.length c) ∧ v2.cell? ⟨w.heap.size, 1, none⟩ = some (.int .i64 a.start)) :=
        fun v1 v2 hf h => ⟨grew_trans h.1 hf, frm_cell hf.1 h.2.1, frm_cell hf.1 h.2.2⟩
      have hka : ∀ (v1 : World) (o : Obj), (Grew w3 v1 ∧ v1.cell? ⟨w.heap.size, 0, none⟩ = some (.slice A a.ranks.length c) ∧ v1.cell? ⟨w.heap.size, 1, none⟩ = some (.int .i64 a.start)) → (Grew w3 (v1.alloc o) ∧ (v1.alloc o).cell? ⟨w.heap.size, 0, none⟩ = some (.slice A a.ranks.length c) ∧ (v1.alloc o).cell? ⟨w.heap.size, 1, none⟩ = some (.int .i64 a.start)) :=
        fun v1 o h => hks _ _ (grew_alloc _ _) h
      have hkc : ∀ (v1 : World) (g o : Nat) (x : Value), w3.heap.size ≤ g → (Grew w3 v1 ∧ v1.cell? ⟨w.heap.size, 0, none⟩ = some (.slice A a.ranks.length c) ∧ v1.cell? ⟨w.heap.size, 1, none⟩ = some (.int .i64 a.start)) → (Grew w3 (v1.setCell ⟨g, o, none⟩ x) ∧ (v1.setCell ⟨g, o, none⟩ x).cell? ⟨w.heap.size, 0, none⟩ = some (.slice A a.ranks.length c) ∧ (v1.setCell ⟨g, o, none⟩ x).cell? ⟨w.heap.size, 1, none⟩ = some (.int .i64 a.start)) := by
        intro v1 g o x hg h
        refine ⟨grew_set_new h.1 hg _ _, ?_, ?_⟩
        · rw [World.cell?_setCell_other _ _ _ _ (by intro e; injection e with e; omega)]; exact h.2.1
        · rw [World.cell?_setCell_other _ _ _ _ (by intro e; injection e with e; omega)]; exact h.2.2
      have HKC := Lib.hid hkc
      have HK := Lib.hid hks
      have HK0 := Lib.hid hk0
      have HKA := Lib.hid hka
      have HC : Hid (∀ wx, Grew w3 wx → Calls Tryd.prog 36 #[.slice A a.ranks.length c] wx fun e w' => ∃ u, e = .returned u ∧ Grew wx w' ∧ Own IntR w' wx.heap.size 3 1 (fun _ => True) u a.ranks) := fun wx hg => cloneI_calls a.ranks wx _ (hR.frm (grew_trans hG3 hg).1 (stays_rd moves_int)) (by omega)
      clear hks hk0 hka hkc
      go_region_held3 (fun wx => Grew w3 wx ∧ wx.cell? ⟨w.heap.size, 0, none⟩ = some (.slice A a.ranks.length c) ∧ wx.cell? ⟨w.heap.size, 1, none⟩ = some (.int .i64 a.start)) (first | exact HK0.out _ rfl | exact HK.out _ _ (by assumption) (by assumption) | exact HKA.out _ _ (by assumption) | exact HKC.out _ _ _ _ (by omega) (HKC.out _ _ _ _ (by omega) (HKC.out _ _ _ _ (by omega) (by assumption)))) ((go_at_call 36; refine (HC.out _ (And.left (by assumption))).mono ?_; rintro e v5 ⟨u5, rfl, hg5, ho5⟩; obtain ⟨Au5, cu5, rfl, hcu5⟩ := ho5.val; obtain ⟨hcc5, hcf5⟩ := grew_cells hg5; have hS5 := HK.out _ _ hg5 (by assumption)))
      · go_wp2_with fail
        go_meet
        case rel => exact ⟨_, rfl, JMid.one (grew_drew _) hg5 ho5 hlr⟩
      · go_wp2_with fail
        go_meet
        case rel => exact ⟨_, rfl, JMid.two (grew_trans (grew_alloc _ _) (grew_drew _)) (Nat.le_refl _) (ThreeAt.new _ _ _ _ _) hg5 ho5 hlr⟩
    case rest =>
      obtain ⟨g, rfl, r5, hG5, hg4, hO5, hR5⟩ := hcut
      obtain ⟨Ar, cr, hr5⟩ : ∃ Ar cr, r5 = .slice Ar a.ranks.length cr := by
        obtain ⟨v', hve, hsl⟩ := id hR5
        obtain ⟨A9, c9, rfl, _⟩ := hsl.val
        simp only [List.cons.injEq, and_true] at hve
        exact ⟨_, _, hve⟩
      subst hr5
      obtain ⟨tA0, tA1, tA2⟩ := (xa.frm hG5.1).cells
      have hgs : g < wc.heap.size := hO5.1.lt
      have hGw5 : Grew w wc := grew_trans hG3 hG5
      have HM := Lib.hid hM
      have hws : w.heap.size + 1 < g := by omega
      have HR5 := Lib.hid hR5
      have HGW5 := Lib.hid hGw5
      have hs5 := hGw5.1.size
      have hb5 : Hid (∀ wr, GrewG g wc.heap.size wc wr → ∀ b, b < w.heap.size → wr.heap[b]? = w.heap[b]?) := fun wr h b hb => (h.block b (by omega) (by omega)).trans (frm_lt HGW5.out.1 b hb)
      clear hM hR5 hGw5
      go_wp2_with fail
      go_loopw [32] (fun i wr => ∃ k : Nat, k ≤ a.moves.length ∧ i = .int .i64 k ∧ GrewG g wc.heap.size wc wr ∧ ∃ mv, OutAt wr g wc.heap.size (.slice Ar a.ranks.length cr) a.start mv (plainM (a.moves.take k))) (fun i _ => a.moves.length - (intOf i).toNat)
      case atStart => exact ⟨0, Nat.zero_le _, rfl, .refl _ _ _, _, hO5⟩
      case round =>
        obtain ⟨k, hk, rfl, hfr, mv, hO⟩ := hrel
        by_cases hlt : k < a.moves.length
        · have hSr := hb5.out wr hfr
          have hMr := HM.out.move (S' := fun b => b < w.heap.size) (w' := wr) (r' := RuleR (fun b => b < w.heap.size) wr) (fun b hb => hb) hSr (fun x _ cs h => moves_rule _ _ _ _ _ _ (fun b hb => hb) hSr h)
          obtain ⟨b, o, p0, rfl, hb, hp0, hpt⟩ := hMr.at1 k hlt
          have HT : Hid (plainM (a.moves.take (k + 1)) = plainM (a.moves.take k) ++ [(a.moves[k]).map smallest]) := by
            unfold Hid plainM
            rw [List.take_succ_eq_append_getElem hlt, List.map_append]
            rfl
          have HL := Lib.hid (show (plainM (a.moves.take k)).length = k by unfold plainM; rw [List.length_map, List.length_take]; omega)
          have HR := Lib.hid ((ok_rows HAO.out).2 _ (List.getElem_mem hlt))
          have hrl := HR.out.1
          clear hMr hSr
          generalize a.moves[k] = row at *
          obtain ⟨v2, hve2, hRow⟩ := hpt
          obtain rfl : p0 = v2 := by simpa using hve2
          obtain ⟨A2, c2, rfl, hc2, hm2⟩ := hRow.val
          clear hve2
          have HO := Lib.hid hO
          have hlg := hO.1.lt
          have hgn := hO.2.1
          have hnw := hO.2.2.1
          have HRow := Lib.hid hRow
          clear hO hRow
          go_wp2_with fail
          obtain ⟨wo, hwo⟩ : ∃ wo : World, wo = wr := ⟨_, rfl⟩
          subst hwo
          go_loopw [8, 38] (fun u i wq => ∃ j : Nat, j ≤ row.length ∧ i = .int .i64 j ∧ Grew wo wq ∧ Own (WR AltsR) wq wo.heap.size 40 1 (fun b => wo.heap.size ≤ b) u ((row.take j).map smallest)) (fun _ i _ => row.length - (intOf i).toNat)
          case atStart => exact ⟨0, Nat.zero_le _, rfl, grew_refl _, Own.nil _ _ _ _ _ _⟩
          case round =>
            obtain ⟨j, hj, rfl, hfq, hQ⟩ := hrel
            obtain ⟨Aq, cq, he, hcq⟩ := hQ.val
            have hlj : ((row.take j).map smallest).length = j := by rw [List.length_map, List.length_take]; omega
            rw [hlj] at he hcq
            subst he
            by_cases hltj : j < row.length
            · have hSq : ∀ b, b < w.heap.size → wr.heap[b]? = wo.heap[b]? := fun b hb => frm_lt hfq.1 b (by omega)
              have hRq := HRow.out.move (S' := fun b => b < w.heap.size) (w' := wr) (r' := AltsR (fun b => b < w.heap.size) wr) (fun b hb => hb) hSq (fun x _ cs h => moves_alts _ _ _ _ _ _ (fun b hb => hb) hSq h)
              obtain ⟨b3, o3, q0, rfl, hb3, hq0, hqt⟩ := hRq.at1 j hltj
              have HT2 : Hid ((row.take (j + 1)).map smallest = (row.take j).map smallest ++ [smallest row[j]]) := by
                unfold Hid
                rw [List.take_succ_eq_append_getElem hltj, List.map_append]
                rfl
              have HAl2 := Lib.hid (HR.out.2 _ (List.getElem_mem hltj))
              clear hRq hSq
              generalize row[j] = alts at *
              obtain ⟨v3, hve3, hAl⟩ := id hqt
              obtain rfl : q0 = v3 := by simpa using hve3
              obtain ⟨A3, c3, rfl, hc3, hm3⟩ := hAl.val
              have hal1 := HAl2.out.1
              have HAl := Lib.hid hAl
              have HQ := Lib.hid hQ
              have HLJ := Lib.hid hlj
              have HFQ := Lib.hid hfq
              have hsq := hfq.1.size
              clear hQ hlj hqt hAl hve3 hfq
              go_wp2_with fail
              obtain ⟨wi, hwi⟩ : ∃ wi : World, wi = wr := ⟨_, rfl⟩
              subst hwi
              go_loopw [11, 44] (fun z i wp => ∃ (e n : Nat) (B : Option Addr) (y : Nat), e ≤ alts.length ∧ i = .int .i64 e ∧ z = .slice B n y ∧ n = (smallTo alts e).length ∧ n ≤ y ∧ Grew wi wp ∧ Own (WR AltR) wp wi.heap.size 41 1 (fun b => wi.heap.size ≤ b) z (smallTo alts e)) (fun _ i _ => alts.length - (intOf i).toNat)
              case atStart => exact ⟨0, 0, none, 0, Nat.zero_le _, rfl, rfl, rfl, Nat.le_refl _, grew_refl _, Own.nil _ _ _ _ _ _⟩
              case round =>
                obtain ⟨e, n, B, y, hel, rfl, rfl, hnl, hny, hfp, hP⟩ := hrel
                have hnk : n ≤ e := by rw [hnl]; exact smallTo_len _ _
                have HNL := Lib.hid hnl
                have HP := Lib.hid hP
                have HFP := Lib.hid hfp
                have hsp := hfp.1.size
                clear hnl hP
                by_cases hlte : e < alts.length
                · have hSp : ∀ b, b < w.heap.size → wr.heap[b]? = wi.heap[b]? := fun b hb => frm_lt hfp.1 b (by omega)
                  have hRp := HAl.out.move (S' := fun b => b < w.heap.size) (w' := wr) (r' := AltR (fun b => b < w.heap.size) wr) (fun b hb => hb) hSp (fun x _ cs h => moves_alt _ _ _ _ _ _ (fun b hb => hb) hSp h)
                  obtain ⟨b4, o4, p4, rfl, hb4, hp4, hpt4⟩ := hRp.at1 e hlte
                  obtain ⟨A4, n4, c4, rfl⟩ : ∃ A1 n1 c1, p4 = .slice A1 n1 c1 := by
                    obtain ⟨A1, c1, h, _⟩ := (row_val hpt4).val
                    exact ⟨_, _, _, h⟩
                  have HPT := Lib.hid hpt4
                  have HD : Hid (alts.getD e [] = alts[e]) := by unfold Hid; simp [hlte]
                  have hll := (HAl2.out.2 _ (List.getElem_mem hlte)).1
                  generalize alts[e] = l at *
                  clear hpt4 hRp hSp hfp
                  go_wp2_with fail
                  obtain ⟨wz, hwz⟩ : ∃ wz : World, wz = wr := ⟨_, rfl⟩
                  subst hwz
                  go_loopw [14, 51] (fun z i wp => ∃ (k2 : Nat) (mo : Bool), k2 ≤ alts.length ∧ i = .int .i64 k2 ∧ z = .bool mo ∧ Hid (keepTo alts e k2 = !mo) ∧ Grew wz wp) (fun _ i _ => alts.length - (intOf i).toNat)
                  case atStart => exact ⟨0, false, Nat.zero_le _, rfl, rfl, rfl, grew_refl _⟩
                  case round =>
                    obtain ⟨k2, mo, hk2, rfl, rfl, HM, hfz⟩ := hrel
                    by_cases hltz : k2 < alts.length
                    · have hgz := grew_trans HFP.out hfz
                      have hSz : ∀ b, b < w.heap.size → wr.heap[b]? = wi.heap[b]? := fun b hb => frm_lt hgz.1 b (by omega)
                      have hRz := HAl.out.move (S' := fun b => b < w.heap.size) (w' := wr) (r' := AltR (fun b => b < w.heap.size) wr) (fun b hb => hb) hSz (fun x _ cs h => moves_alt _ _ _ _ _ _ (fun b hb => hb) hSz h)
                      obtain ⟨b5, o5, q5, hbe, hb5', hq5, hqt5⟩ := hRz.at1 k2 hltz
                      simp only [Option.some.injEq, Addr.mk.injEq, and_true] at hbe
                      obtain ⟨rfl, rfl⟩ := hbe
                      obtain ⟨A5, n5, c5, rfl⟩ : ∃ A1 n1 c1, q5 = .slice A1 n1 c1 := by
                        obtain ⟨A1, c1, h, _⟩ := (row_val hqt5).val
                        exact ⟨_, _, _, h⟩
                      have HDj : Hid (alts.getD k2 [] = alts[k2]) := by unfold Hid; simp [hltz]
                      have hsz := hfz.1.size
                      generalize alts[k2] = x at *
                      have HC := Lib.hid (cont_calls l x wr (.slice A4 n4 c4) (.slice A5 n5 c5) (RowS.sl (moves_alt _ _ _ _ _ _ (fun q hq => by omega) (fun q hq => frm_lt hfz.1 q (by omega)) HPT.out)) (RowS.sl (moves_alt _ _ _ _ _ _ (fun q hq => by omega) (fun q hq => rfl) hqt5)))
                      have HK := Lib.hid (keepTo_succ alts e k2)
                      rw [HD.out, HDj.out] at HK
                      clear hqt5 hSz hRz
                      cases mo with
                      | true =>
                        have HK2 : Hid (keepTo alts e (k2 + 1) = !true) := by unfold Hid; rw [HK.out, HM.out]; rfl
                        go_wp2_with fail
                        exact ⟨⟨k2 + 1, true, by omega, by go_num, rfl, HK2, hfz⟩, by simp [intOf]; omega⟩
                      | false =>
                        by_cases hke : k2 = e
                        · have e1 : ((k2 : Int) != (e : Int)) = false := by simp [hke]
                          have HK2 : Hid (keepTo alts e (k2 + 1) = !false) := by unfold Hid; rw [HK.out, HM.out]; simp [hke]
                          clear hke
                          go_wp2_with fail
                          exact ⟨⟨k2 + 1, false, by omega, by go_num, rfl, HK2, hfz⟩, by simp [intOf]; omega⟩
                        · have e1 : ((k2 : Int) != (e : Int)) = true := by simp; omega
                          have HK2 : Hid (keepTo alts e (k2 + 1) = !within x l) := by
                            unfold Hid; rw [HK.out, HM.out]
                            have : (e == k2) = false := by simp; omega
                            rw [this]; simp
                          clear hke
                          go_wp2_with fail
                          refine HC.out.mono ?_
                          rintro e w1 ⟨rfl, hf1⟩
                          dsimp only
                          go_wp2_with fail
                          exact ⟨⟨k2 + 1, _, by omega, by go_num, rfl, HK2, grew_trans hfz hf1⟩, by simp [intOf]; omega⟩
                    · have hke : k2 = alts.length := by omega
                      subst hke
                      have hgz := grew_trans HFP.out hfz
                      have hsz := hfz.1.size
                      have HT3 := Lib.hid (smallTo_succ alts e)
                      rw [HD.out, HM.out] at HT3
                      cases mo with
                      | true =>
                        have HT4 : Hid (smallTo alts (e + 1) = smallTo alts e) := by unfold Hid; rw [HT3.out]; simp
                        go_wp2_with fail
                        exact ⟨⟨e + 1, n, B, y, by omega, by go_num, rfl, by rw [HT4.out]; exact HNL.out, hny, hgz, by rw [HT4.out]; exact HP.out.kept (moves_WR moves_alt) hfz.1 (ownNone _) (by simp)⟩, by simp [intOf]; omega⟩
                      | false =>
                        have HT4 : Hid (smallTo alts (e + 1) = smallTo alts e ++ [l]) := by unfold Hid; rw [HT3.out]; simp
                        have HCL := Lib.hid (cloneN_calls l wr (.slice A4 n4 c4) (moves_alt _ _ _ _ _ _ (fun q hq => by omega) (fun q hq => frm_lt hfz.1 q (by omega)) HPT.out) (by omega))
                        go_wp2_with fail
                        refine HCL.out.mono ?_
                        rintro e9 w4 ⟨u4, rfl, hf4, hO4⟩
                        have hW4 := (own_nd (ok' := fun _ => False) hO4).slW moves_nd (by omega) (S := fun b => wr.heap.size ≤ b ∧ b < w4.heap.size) (fun b h1 h2 => h1.elim) (fun b hb => hO4.lt b hb)
                        obtain ⟨A6, c6, rfl, hc6⟩ := hO4.val
                        have HW4 := Lib.hid hW4
                        clear hO4 hW4
                        dsimp only
                        repeat ((fail_if_success at_builtin); first | go_values | go_skip | go_guarded | go_step | go_upon)
                        have hf5 : Grew wr (w4.alloc (.cells #[.slice A6 l.length c6] 41)) := grew_then_alloc hf4 _
                        have hP5 := HP.out.kept (moves_WR moves_alt) (grew_trans hfz hf5).1 (ownNone _) (by simp)
                        have htw := OneAt.new w4 (.slice A6 l.length c6) 41
                        have hs4 := hf4.1.size
                        have hs55 := hf5.1.size
                        have hltP := HP.out.lt
                        refine Own.app1 (moves_WR moves_alt) elem_alt hP5 rfl _ _ rfl rfl rfl l [.slice A6 l.length c6] rfl (one_at htw) ?_ ?_ (by rw [← HNL.out]; omega) (by omega) (by simp; omega) ?_
                        · intro u hu
                          simp at hu
                          subst hu
                          rfl
                        · refine moves_WR moves_alt _ _ _ _ _ _ (fun b hb => ⟨by omega, by simp; omega, fun e => ?_⟩) (fun b hb => Below.heap_alloc _ _ _ (by omega)) HW4.out
                          have := (hltP b e.symm).2
                          omega
                        intro v7 w7 hO7 hg7 hp7
                        have hfr7 : Grew wi w7 := grew_own (grew_trans hgz hf5) (fun b hb => (hltP b hb).1) hg7.1 hg7.2
                        rw [← HT4.out] at hO7
                        obtain ⟨A7, c7, he7, hcc7⟩ := hO7.val
                        have HO7 := Lib.hid hO7
                        clear hO7 hP5 htw hltP
                        obtain ⟨n7, hn7⟩ : ∃ n7, n7 = (smallTo alts (e + 1)).length := ⟨_, rfl⟩
                        rw [← hn7] at he7 hcc7
                        subst he7
                        have HN7 := Lib.hid hn7
                        clear hn7
                        go_wp2_with fail
                        exact ⟨⟨e + 1, n7, A7, c7, by omega, by go_num, rfl, HN7.out, hcc7, hfr7, HO7.out⟩, by simp [intOf]; omega⟩
                · obtain rfl : e = alts.length := by omega
                  have hls : (smallest alts).length = n := HNL.out.symm
                  have HLS := Lib.hid hls
                  have hW4 := HP.out.slW moves_alt (by have := HNL.out; omega) (S := fun b => wi.heap.size ≤ b ∧ b < wr.heap.size) (fun b h1 h2 => ⟨h1, h2⟩) (fun b hb => HP.out.lt b hb)
                  have HW4 := Lib.hid hW4
                  clear hW4 hls
                  repeat ((fail_if_success at_builtin); first | go_values | go_skip | go_guarded | go_step | go_upon)
                  have hf5 : Grew wi (wr.alloc (.cells #[.slice B n y] 40)) := grew_then_alloc HFP.out _
                  have hO5 := HQ.out.kept (moves_WR moves_alts) hf5.1 (ownNone _) (by simp)
                  have htw := OneAt.new wr (.slice B n y) 40
                  have hlen := HLJ.out
                  have hs55 := hf5.1.size
                  have hltO := HQ.out.lt
                  refine Own.app1 (moves_WR moves_alts) elem_alts hO5 rfl _ _ rfl rfl rfl (smallest alts) [.slice B n y] rfl (one_at htw) ?_ ?_ (by rw [hlen]; omega) (by omega) (by omega) ?_
                  · intro u hu
                    simp at hu
                    subst hu
                    rfl
                  · refine moves_WR moves_alts _ _ _ _ _ _ (fun b hb => ⟨by omega, by simp; omega, fun e => ?_⟩) (fun b hb => Below.heap_alloc _ _ _ (by omega)) HW4.out
                    have := (hltO b e.symm).2
                    omega
                  intro v7 w7 hO7 hg7 hp7
                  have hfr7 : Grew wo w7 := grew_own (grew_trans HFQ.out hf5) (fun b hb => (hltO b hb).1) hg7.1 hg7.2
                  rw [← HT2.out] at hO7
                  obtain ⟨A7, c7, he7, hcc7⟩ := hO7.val
                  have HO7 := Lib.hid hO7
                  clear hO7 hO5 htw hltO
                  have hl7 : ((row.take (j + 1)).map smallest).length = j + 1 := by rw [List.length_map, List.length_take]; omega
                  rw [hl7] at he7
                  clear hl7
                  subst he7
                  go_wp2_with fail
                  exact ⟨⟨j + 1, by omega, by go_num, hfr7, HO7.out⟩, by simp [intOf]; omega⟩
            · obtain rfl : j = row.length := by omega
              rw [List.take_length] at hQ
              have hO1 := HO.out.grew hfq
              obtain ⟨hc0, hc1, hc2'⟩ := hO1.1.cells
              have hfz := hO1.1.free 2
              obtain ⟨Am, cm, hme, hmc⟩ := hO1.2.2.2.val
              rw [HL.out] at hme hmc
              subst hme
              have hsq := hfq.1.size
              have hlm2 : (row.map smallest).length = row.length := by simp
              have hWq := hQ.slW moves_alts (by omega) (S := fun b => wo.heap.size ≤ b ∧ b < wr.heap.size) (fun b h1 h2 => ⟨h1, h2⟩) (fun b hb => hQ.lt b hb)
              have HWq := Lib.hid hWq
              have HO1 := Lib.hid hO1
              clear hWq hQ hO1 hlj
              repeat ((fail_if_success at_builtin); first | go_values | go_skip | go_guarded | go_step | go_upon)
              have hf5 : Grew wr (wr.alloc (.cells #[.slice Aq row.length cq] 51)) := grew_alloc _ _
              have hO5 := (HO1.out.grew hf5)
              have htw := OneAt.new wr (.slice Aq row.length cq) 51
              have hlen := HL.out
              have hltO := hO5.2.2.2.lt
              have hltO1 := HO1.out.2.2.2.lt
              refine Own.app1 (moves_WR moves_rule) elem_rule hO5.2.2.2 rfl _ _ rfl rfl rfl (row.map smallest) [.slice Aq row.length cq] rfl (one_at htw) ?_ ?_ (by rw [hlen]; omega) (by omega) (by simp; omega) ?_
              · intro u hu
                simp at hu
                subst hu
                rfl
              · refine moves_WR moves_rule _ _ _ _ _ _ (fun b hb => ⟨by omega, by simp; omega, fun e => ?_⟩) (fun b hb => Below.heap_alloc _ _ _ (by omega)) HWq.out
                have hO2 := HO.out.2.2.2.lt b e.symm
                omega
              intro v7 w7 hO7 hg7 hp7
              rw [← HT.out] at hO7
              have hT7 : ThreeAt w7 g (.slice Ar a.ranks.length cr) (.int .i64 a.start) (.slice Am k cm) 25 := hO5.1.move (hg7.1.block g (by simp; omega) (fun e => by have := (hltO g e.symm).1; omega))
              have hG7 : GrewG g wc.heap.size wo w7 := (GrewG.of (grew_trans hfq hf5) (by omega)).trans (.ofR hg7 (by simp; omega) (fun b hb => by have := (hltO b hb).1; omega))
              obtain ⟨A7, c7, he7, hcc7⟩ := hO7.val
              rw [show (plainM (a.moves.take (k + 1))).length = k + 1 by unfold plainM; rw [List.length_map, List.length_take]; omega] at he7
              have hT8 := hT7.set2 v7
              have hO8 := hO7.kept (moves_WR moves_rule) (w' := w7.setCell ⟨g, 2, none⟩ v7) (row := some g) (frm_set (frm_refl _ _) _ _) (.inr fun e => by have := (hO7.lt g e).1; omega) (fun b hb e => by injection e with e; omega)
              have HG8 := Lib.hid (hfr.trans (hG7.set 2 v7))
              obtain ⟨hd0, hd1, hd2⟩ := hT7.cells
              have hfz7 := hT7.free 2
              have HO8 := Lib.hid (show OutAt (w7.setCell ⟨g, 2, none⟩ v7) g wc.heap.size (.slice Ar a.ranks.length cr) a.start v7 (plainM (a.moves.take (k + 1))) from ⟨hT8, hgn, by have := hg7.1.size; simp at this ⊢; omega, hO8⟩)
              clear hO7 hO5 htw hltO hO8 hT8 hT7 hG7
              subst he7
              go_wp2_with fail
              exact ⟨⟨k + 1, by omega, by go_num, HG8.out, _, HO8.out⟩, by simp [intOf]; omega⟩
        · obtain rfl : k = a.moves.length := by omega
          rw [List.take_length] at hO
          have hlx : (plainM a.moves).length = a.moves.length := by unfold plainM; simp
          obtain ⟨Am, cm, hme, hmc⟩ := hO.2.2.2.val
          rw [hlx] at hme hmc
          subst hme
          have hgn := hO.2.1
          have hnw := hO.2.2.1
          have hGw : Grew w wr := GrewG.grew HGW5.out (by omega) (by omega) hfr
          have hxo9 : ThreeAt wr (w.heap.size + 1) (.slice none 0 0) (.int .i64 0) (.slice none 0 0) 25 := (xo.frm hG5.1).move (hfr.block _ (by omega) (by omega))
          have hsl9 := hO.2.2.2.slW moves_rule (S := fun q => w3.heap.size ≤ q ∧ q < wr.heap.size) (by rw [hlx]; omega) (fun q h1 h2 => ⟨by omega, h2⟩) (fun q hq => by have := hO.2.2.2.lt q hq; omega)
          have hrk9 : WR (RowS 1 IntR) (fun q => w3.heap.size ≤ q ∧ q < wr.heap.size) wr a.ranks [.slice Ar a.ranks.length cr] :=
            moves_WR (moves_row moves_int) _ _ _ _ _ _ (fun q hq => ⟨hq.1, by have := hq.2.1; omega⟩) (fun q hq => hfr.block q hq.2.1 hq.2.2) HR5.out
          have HAU := Lib.hid (show WR AuR (fun q => w3.heap.size ≤ q ∧ q < wr.heap.size) wr (plainA a) [.slice Ar a.ranks.length cr, .int .i64 a.start, .slice Am a.moves.length cm] from
            ⟨.slice Ar a.ranks.length cr, _, rfl, hrk9, hsl9, hs1, hs2⟩)
          obtain ⟨he0, he1, he2⟩ := hO.1.cells
          obtain ⟨kx0, kx1, kx2⟩ := hxo9.cells
          have kxf := hxo9.free
          have kxf0 := kxf 0
          have kxf1 := kxf 1
          have kxf2 := kxf 2
          have HJ : Hid (plainE a = 0 ∧ plainV a = plainA a) := by
            unfold Hid plainE plainV
            rw [HAO.out]
            exact ⟨rfl, rfl⟩
          have HGW := Lib.hid hGw
          have hszr := hGw.1.size
          clear hO hsl9 hrk9 kxf hGw hxo9
          go_wp2_with fail
          refine bodyPost_ret (v := .tuple #[.agg #[.slice Ar a.ranks.length cr, .int .i64 a.start, .slice Am a.moves.length cm], .int .i64 0]) (by simp [results, Tryd.results16, go_sem, kx0, kx1, kx2, kxf0, kxf1, kxf2]) rfl ⟨.slice Ar a.ranks.length cr, .slice Am a.moves.length cm, ?_, ?_, ?_⟩
          · rw [HJ.out.1, HJ.out.2]; rfl
          · exact grew_set_new (grew_set_new (grew_set_new HGW.out (by omega) _ _) (by omega) _ _) (by omega) _ _
          · rw [HJ.out.2]
            refine moves_WR moves_au _ _ _ _ _ _ (fun q hq => ⟨by omega, by simp; omega⟩) (fun q hq => ?_) HAU.out
            rw [Below.heap_setCell _ _ _ _ (by show q ≠ w.heap.size + 1; omega), Below.heap_setCell _ _ _ _ (by show q ≠ w.heap.size + 1; omega), Below.heap_setCell _ _ _ _ (by show q ≠ w.heap.size + 1; omega)]
end Go.Proofs.YtjpdmncafacmaaaDoor
end
/- The reference's Copy of automata: each row in a block of its own. -/
section
set_option linter.unusedVariables false
set_option linter.unusedSimpArgs false
namespace Go.Proofs.YtjpdmncafacmaaaDoor
open Go.RowKit

/-- A row in a block of its own, that may be written; what it holds lies elsewhere. -/
def RowX : RdS (List (List (List Nd))) := fun S w row cs => ∃ v, cs = [v] ∧ ((v = .slice none 0 0 ∧ row = []) ∨ ∃ g c, v = .slice (some ⟨g, 0, none⟩) row.length c ∧ row.length ≤ c ∧ row.length ≤ 100000 ∧ S g ∧ Unf w g ∧ RowG 1 (WR AltsR) (fun b => S b ∧ b ≠ g) w g row)
theorem moves_rowX : Moves RowX := by
  intro S S' w w' x cs hS hw h
  obtain ⟨v, hv, h⟩ := h
  refine ⟨v, hv, ?_⟩
  rcases h with h | ⟨g, c, h1, h2, h3, h4, h5, h6⟩
  · exact .inl h
  · exact .inr ⟨g, c, h1, h2, h3, hS g h4, h5.move (hw g h4), h6.move (moves_WR moves_alts) (fun b hb => ⟨hS b hb.1, hb.2⟩) (fun b hb => hw b hb.1) (hw g h4)⟩
/-- A row, and the bounds of the blocks that it lies in. -/
abbrev Tag := List (List (List Nd)) × Nat × Nat
def RowT : RdS Tag := fun S w x cs => RowX (fun b => S b ∧ x.2.1 ≤ b ∧ b < x.2.2) w x.1 cs
theorem moves_rowT : Moves RowT := fun S S' w w' x cs hS hw h => moves_rowX _ _ _ _ _ _ (fun b hb => ⟨hS b hb.1, hb.2⟩) (fun b hb => hw b hb.1) h
structure TagOk (n0 n : Nat) (ts : List Tag) (rows : List (List (List (List Nd)))) : Prop where
  rows : ts.map (·.1) = rows
  low : ∀ t ∈ ts, n0 ≤ t.2.1 ∧ t.2.2 ≤ n
  apart : ts.Pairwise fun x y => x.2.2 ≤ y.2.1
theorem TagOk.nil (n0 n : Nat) : TagOk n0 n [] [] := ⟨rfl, by simp, .nil⟩
theorem TagOk.app {n0 n n' a b : Nat} {ts : List Tag} {rows : List (List (List (List Nd)))} {row : List (List (List Nd))} (h : TagOk n0 n ts rows) (h1 : n ≤ a) (h2 : n0 ≤ a) (h3 : a ≤ n' ∧ b ≤ n') : TagOk n0 n' (ts ++ [(row, a, b)]) (rows ++ [row]) := by
  refine ⟨by rw [List.map_append, h.rows]; rfl, fun t ht => ?_, ?_⟩
  · rcases List.mem_append.1 ht with ht | ht
    · have := h.low t ht
      omega
    · obtain rfl := List.mem_singleton.1 ht
      exact ⟨h2, h3.2⟩
  · rw [List.pairwise_append]
    refine ⟨h.apart, by simp, fun x hx y hy => ?_⟩
    obtain rfl := List.mem_singleton.1 hy
    have := (h.low x hx).2
    show x.2.2 ≤ a
    omega
theorem rowT_own {w : World} {n0 : Nat} {v : Value} {row : List (List (List Nd))} {T : TypeId} (h : Own (WR AltsR) w n0 T 1 (fun b => n0 ≤ b) v row) (hl : row.length ≤ 100000) : RowT (fun b => n0 ≤ b ∧ b < w.heap.size) w (row, n0, w.heap.size) [v] := by
  refine ⟨v, rfl, ?_⟩
  have hu := h.unf
  rcases h.cases with h1 | ⟨g, c, rfl, h2, h3, h4⟩
  · exact .inl h1
  · exact .inr ⟨g, c, rfl, h2, hl, ⟨⟨h3, h4⟩, h3, h4⟩, hu g rfl, h.rowG.move (moves_WR moves_alts) (fun b hb => ⟨⟨⟨hb.1, hb.2.1⟩, hb.1, hb.2.1⟩, fun e => hb.2.2 (by rw [e]; rfl)⟩) (fun _ _ => rfl) rfl⟩
/-- An automaton under way; its rows' bounds are told. -/
def OutT (w : World) (g n0 : Nat) (r : Value) (st : Int) (mv : Value) (ts : List Tag) : Prop :=
  ThreeAt w g r (.int .i64 st) mv 25 ∧ g < n0 ∧ n0 ≤ w.heap.size ∧ Own RowT w n0 51 1 (fun b => n0 ≤ b) mv ts
theorem OutT.grew {w w' : World} {g n0 : Nat} {r : Value} {st : Int} {mv : Value} {xs : List Tag} (h : OutT w g n0 r st mv xs) (hf : Grew w w') : OutT w' g n0 r st mv xs :=
  ⟨h.1.frm hf.1, h.2.1, Nat.le_trans h.2.2.1 hf.1.size, h.2.2.2.kept moves_rowT hf.1 (ownNone _) (by simp)⟩
/-- As RetU2; each row lies apart from the others. -/
def RetU3 (w : World) (a : Au) (e : Ending) (w' : World) : Prop :=
  ∃ r m n0 ts, e = .returned (.agg #[r, .int .i64 a.start, m]) ∧ Grew w w' ∧ w.heap.size ≤ n0 ∧ TagOk n0 w'.heap.size ts a.moves ∧
    Own RowT w' n0 51 1 (fun b => n0 ≤ b) m ts ∧ WR (RowS 1 IntR) (fun b => w.heap.size ≤ b ∧ b < n0) w' a.ranks [r]
set_option maxRecDepth 100000 in
set_option maxHeartbeats 2000000 in
theorem rcopy3_calls (a : Au) (hok : a.ok = true) (w : World) (r m : Value) (h : rdO AuR w a [r, .int .i64 a.start, m]) :
    Calls Tryd.prog 38 #[.agg #[r, .int .i64 a.start, m]] w (RetU3 w a) := by
  obtain ⟨hR, hM, hs1, hs2⟩ := AuR.parts h
  obtain ⟨A, c, rfl, hc, hlm⟩ := hR.val
  obtain ⟨B, d, rfl, hd, hlm2⟩ := hM.val
  have hla := (ok_rows hok).1
  have hlr := (ranksOk_parts (ok_parts hok).1).1
  have HOK := Lib.hid hok
  have HM := Lib.hid hM
  have HR := Lib.hid hR
  clear hok h hM hR
  obtain ⟨w2, hw2⟩ : ∃ w2, w2 = ((w.alloc (.cells #[.slice A a.ranks.length c, .int .i64 a.start, .slice B a.moves.length d] 25)).alloc (.cells #[.slice none 0 0, .int .i64 0, .slice none 0 0] 25)).alloc (.cells #[.slice none 0 0, .int .i64 a.start, .slice none 0 0] 25) := ⟨_, rfl⟩
  have hG2 : Grew w w2 := by rw [hw2]; exact grew_then_alloc (grew_then_alloc (grew_alloc _ _) _) _
  have xa : ThreeAt w2 w.heap.size (.slice A a.ranks.length c) (.int .i64 a.start) (.slice B a.moves.length d) 25 := by
    rw [hw2]; exact ((ThreeAt.new w _ _ _ _).frm (frm_alloc _ _)).frm (frm_alloc _ _)
  have xr : ThreeAt w2 (w.heap.size + 1) (.slice none 0 0) (.int .i64 0) (.slice none 0 0) 25 := by
    have h := ThreeAt.new (w.alloc (.cells #[.slice A a.ranks.length c, .int .i64 a.start, .slice B a.moves.length d] 25)) (.slice none 0 0) (.int .i64 0) (.slice none 0 0) 25
    rw [World.size_alloc] at h
    rw [hw2]; exact h.frm (frm_alloc _ _)
  have xo : ThreeAt w2 (w.heap.size + 2) (.slice none 0 0) (.int .i64 a.start) (.slice none 0 0) 25 := by
    have h := ThreeAt.new ((w.alloc (.cells #[.slice A a.ranks.length c, .int .i64 a.start, .slice B a.moves.length d] 25)).alloc (.cells #[.slice none 0 0, .int .i64 0, .slice none 0 0] 25)) (.slice none 0 0) (.int .i64 a.start) (.slice none 0 0) 25
    rw [World.size_alloc, World.size_alloc] at h
    rw [hw2]; exact h
  have HW2 := Lib.hid hw2
  clear hw2
  go_enter Tryd.func38, Tryd.ntmps38
  repeat ((fail_if_success at_builtin); first | go_values | go_skip | go_guarded | go_step | go_upon)
  rw [← HW2.out]
  have hS2 : Sl (fun b => b < w.heap.size) w2 1 (IntR (fun b => b < w.heap.size) w2) a.ranks (.slice A a.ranks.length c) :=
    Sl.move HR.out (fun b hb => hb) (frm_lt hG2.1) fun x _ cs h => moves_int _ _ _ _ _ _ (fun b hb => hb) (frm_lt hG2.1) h
  have hsz2 : w.heap.size + 2 < w2.heap.size := xo.lt
  obtain ⟨v3, w3, hrun, hO3, hg3, hp3⟩ := Own.app_sl moves_int elem_int (Own.nil IntR w2 w2.heap.size 3 1 (fun _ => True)) 22 hS2 (fun b hb => ⟨trivial, by omega, fun e => by cases e⟩) (fun x cs h u hu => by
    obtain ⟨rfl, _⟩ := h
    simp only [List.mem_cons, List.not_mem_nil, or_false] at hu
    subst hu
    rfl) (by simp; omega) (by omega) (Nat.le_refl _)
  refine append_list _ _ rfl rfl rfl rfl hrun ?_
  have hG23 : Grew w2 w3 := ⟨frm_weak hg3.1, hg3.2⟩
  rw [List.nil_append] at hO3
  obtain ⟨Ar, cr, rfl, hcr⟩ := hO3.val
  replace xa := xa.frm hG23.1
  replace xr := xr.frm hG23.1
  replace xo := xo.frm hG23.1
  have hs23 := hG23.1.size
  have hXO := xo.set0 (.slice Ar a.ranks.length cr)
  have hG3 : Grew w (w3.setCell ⟨w.heap.size + 2, 0, none⟩ (.slice Ar a.ranks.length cr)) := grew_set_new (grew_trans hG2 hG23) (by omega) _ _
  have hset : ∀ q, q ≠ w.heap.size + 2 → (w3.setCell ⟨w.heap.size + 2, 0, none⟩ (.slice Ar a.ranks.length cr)).heap[q]? = w3.heap[q]? := fun q hq => Below.heap_setCell _ _ _ _ hq
  have hW3 := (own_int (ok' := fun _ => False) hO3).slW moves_int (by omega) (S := fun b => w2.heap.size ≤ b ∧ b < w3.heap.size) (fun b h _ => h.elim) (fun b hb => hO3.lt b hb)
  have hW4 : WR (RowS 1 IntR) (fun b => w.heap.size + 2 < b ∧ b < w3.heap.size) (w3.setCell ⟨w.heap.size + 2, 0, none⟩ (.slice Ar a.ranks.length cr)) a.ranks [.slice Ar a.ranks.length cr] :=
    moves_WR (moves_row moves_int) _ _ _ _ _ _ (fun b hb => ⟨by omega, hb.2⟩) (fun b hb => hset b (by omega)) hW3
  have xa4 := xa.move (hset _ (by omega))
  have xr4 := xr.move (hset _ (by omega))
  have hfz := xo.free 0
  obtain ⟨ho0, ho1, ho2⟩ := xo.cells
  have hO4 : OutT (w3.setCell ⟨w.heap.size + 2, 0, none⟩ (.slice Ar a.ranks.length cr)) (w.heap.size + 2) w3.heap.size (.slice Ar a.ranks.length cr) a.start (.slice none 0 0) [] :=
    ⟨hXO, by omega, by simp, Own.nil _ _ _ _ _ _⟩
  have hn3 : (w3.setCell ⟨w.heap.size + 2, 0, none⟩ (.slice Ar a.ranks.length cr)).heap.size = w3.heap.size := by simp
  generalize hw4 : w3.setCell ⟨w.heap.size + 2, 0, none⟩ (.slice Ar a.ranks.length cr) = w4 at *
  have HW4 := Lib.hid hW4
  have HO4 := Lib.hid hO4
  have HG3 := Lib.hid hG3
  obtain ⟨n0, hn0⟩ : ∃ n0, n0 = w3.heap.size := ⟨_, rfl⟩
  rw [← hn0] at hn3
  have hng : w.heap.size + 2 < n0 := by omega
  have HXA := Lib.hid xa4
  have HXR := Lib.hid xr4
  have HO4 : Hid (OutT w4 (w.heap.size + 2) n0 (.slice Ar a.ranks.length cr) a.start (.slice none 0 0) []) := by rw [hn0]; exact hO4
  have HW5 : Hid (WR (RowS 1 IntR) (fun b => w.heap.size + 2 < b ∧ b < n0) w4 a.ranks [.slice Ar a.ranks.length cr]) := by rw [hn0]; exact hW4
  obtain ⟨ha0, ha1, ha2⟩ := xa4.cells
  clear hW4 hO4 hG3 hXO hset hW3 hS2 hrun hO3 hp3 xa xr xo xa4 xr4 hn0 HW4
  go_wp2_with fail
  clear hfz ho0 ho1 ho2 hw4
  go_loopw [24] (fun i wr => ∃ k : Nat, k ≤ a.moves.length ∧ i = .int .i64 k ∧ GrewG (w.heap.size + 2) n0 w4 wr ∧ ∃ mv ts, TagOk n0 wr.heap.size ts (a.moves.take k) ∧ OutT wr (w.heap.size + 2) n0 (.slice Ar a.ranks.length cr) a.start mv ts) (fun i _ => a.moves.length - (intOf i).toNat)
  case atStart => exact ⟨0, Nat.zero_le _, rfl, .refl _ _ _, _, [], .nil _ _, HO4.out⟩
  case round =>
    obtain ⟨k, hk, rfl, hfr, mv, ts, hts, hO⟩ := hrel
    have hGr : Grew w wr := GrewG.grew HG3.out (by omega) (by omega) hfr
    by_cases hlt : k < a.moves.length
    · obtain ⟨b, o, p0, rfl, hb, hp0', hpt⟩ := HM.out.at1 k hlt
      have hp0 := frm_cell hGr.1 hp0'
      have HT := Lib.hid (List.take_succ_eq_append_getElem hlt)
      have hlk : (a.moves.take k).length = k := by rw [List.length_take]; omega
      have HTS := Lib.hid hts
      have htl : ts.length = k := by rw [← hlk, ← hts.1, List.length_map]
      have HL := Lib.hid htl
      have HRr := Lib.hid ((ok_rows HOK.out).2 _ (List.getElem_mem hlt))
      have hrl := HRr.out.1
      generalize a.moves[k] = row at *
      have hRow := row_val hpt
      obtain ⟨A2, c2, rfl, hc2, hm2⟩ := hRow.val
      have HRow := Lib.hid hRow
      have HO := Lib.hid hO
      have hlg := hO.1.lt
      have hnw := hO.2.2.1
      have HGr := Lib.hid hGr
      clear hO hlk hpt hRow hp0' hGr hts htl
      go_wp2_with fail
      obtain ⟨wo, hwo⟩ : ∃ wo : World, wo = wr := ⟨_, rfl⟩
      subst hwo
      go_loopw [6, 30] (fun u i wq => ∃ j : Nat, j ≤ row.length ∧ i = .int .i64 j ∧ Grew wo wq ∧ Own (WR AltsR) wq wo.heap.size 40 1 (fun b => wo.heap.size ≤ b) u (row.take j)) (fun _ i _ => row.length - (intOf i).toNat)
      case atStart => exact ⟨0, Nat.zero_le _, rfl, grew_refl _, Own.nil _ _ _ _ _ _⟩
      case round =>
        obtain ⟨j, hj, rfl, hfq, hQ⟩ := hrel
        obtain ⟨Aq, cq, he, hcq⟩ := hQ.val
        have hlj : (row.take j).length = j := by rw [List.length_take]; omega
        rw [hlj] at he hcq
        subst he
        by_cases hltj : j < row.length
        · obtain ⟨b3, o3, q0, rfl, hb3, hq0', hqt⟩ := HRow.out.at1 j hltj
          have hq0 := frm_cell (grew_trans HGr.out hfq).1 hq0'
          have HT2 := Lib.hid (List.take_succ_eq_append_getElem hltj)
          obtain ⟨hal1, hal2⟩ := HRr.out.2 _ (List.getElem_mem hltj)
          generalize row[j] = alts at *
          have hAl := row_val hqt
          obtain ⟨A3, c3, rfl, hc3, hm3⟩ := hAl.val
          have HAl := Lib.hid hAl
          have HAL2 := Lib.hid hal2
          have HQ := Lib.hid hQ
          have HLJ := Lib.hid hlj
          have HFQ := Lib.hid hfq
          clear hqt hAl hq0' hQ hlj hal2 hfq
          go_wp2_with fail
          obtain ⟨wi, hwi⟩ : ∃ wi : World, wi = wr := ⟨_, rfl⟩
          subst hwi
          go_loopw [9, 36] (fun u i wz => ∃ l : Nat, l ≤ alts.length ∧ i = .int .i64 l ∧ Grew wi wz ∧ Own (WR AltR) wz wi.heap.size 41 1 (fun b => wi.heap.size ≤ b) u (alts.take l)) (fun _ i _ => alts.length - (intOf i).toNat)
          case atStart => exact ⟨0, Nat.zero_le _, rfl, grew_refl _, Own.nil _ _ _ _ _ _⟩
          case round =>
            obtain ⟨l, hl, rfl, hfz, hZ⟩ := hrel
            obtain ⟨Az, cz, he, hcz⟩ := hZ.val
            have hll : (alts.take l).length = l := by rw [List.length_take]; omega
            rw [hll] at he hcz
            subst he
            by_cases hltl : l < alts.length
            · obtain ⟨b4, o4, z0, rfl, hb4, hz0', hzt⟩ := HAl.out.at1 l hltl
              have hGz := grew_trans (grew_trans HGr.out HFQ.out) hfz
              have hz0 := frm_cell hGz.1 hz0'
              have HT3 := Lib.hid (List.take_succ_eq_append_getElem hltl)
              have hnl := (HAL2.out _ (List.getElem_mem hltl)).1
              generalize alts[l] = x at *
              have hX := row_val hzt
              obtain ⟨A4, c4, rfl, hc4, hm4⟩ := hX.val
              have HX := Lib.hid hX
              have HZ := Lib.hid hZ
              have HLL := Lib.hid hll
              clear hzt hX hz0' hZ hll
              repeat ((fail_if_success at_builtin); first | go_values | go_skip | go_guarded | go_step | go_upon)
              have hO5 := Own.empty NdR wr 44 2 (fun _ => True) (Nat.le_refl wr.heap.size)
              have hGz5 := grew_then_alloc hGz (.cells #[] 44)
              have hS5 : Sl (fun b => b < w.heap.size) (wr.alloc (.cells #[] 44)) 2 (NdR (fun b => b < w.heap.size) (wr.alloc (.cells #[] 44))) x (.slice A4 x.length c4) :=
                Sl.move HX.out (fun b hb => hb) (frm_lt hGz5.1) fun x _ cs h => moves_nd _ _ _ _ _ _ (fun b hb => hb) (frm_lt hGz5.1) h
              have hszr := hGz.1.size
              obtain ⟨v6, w6, hrun, hO6, hg6, hp6⟩ := Own.app_sl moves_nd elem_nd hO5 41 hS5 (fun b hb => ⟨trivial, by simp; omega, fun e => by
                have e2 : some b = some wr.heap.size := e
                injection e2 with e2
                omega⟩) (fun x cs h => one_nd h) (by simp; omega) (by omega) (by simp)
              refine append_list _ _ rfl rfl rfl rfl hrun ?_
              have hG6 : Grew wr w6 := grew_new (grew_alloc wr _) (Nat.le_refl _) hg6
              rw [List.nil_append] at hO6
              have hl6 := hO6.lt
              have hW6 : WR AltR (fun b => wr.heap.size ≤ b ∧ b < w6.heap.size) w6 x [v6] := Own.slW (r := NdR) moves_nd (ok := fun _ => False) (show Own (WR NdR) w6 wr.heap.size _ 2 (fun _ => False) v6 x from hO6) (by omega) (fun b h _ => h.elim) (fun b hb => hl6 b hb)
              obtain ⟨A6, c6, rfl, hc6⟩ := hO6.val
              have HW6 := Lib.hid hW6
              have HL6 := Lib.hid hl6
              clear hrun hO6 hO5 hS5 hW6 hl6 hp6
              repeat ((fail_if_success at_builtin); first | go_values | go_skip | go_guarded | go_step | go_upon)
              have hf7 : Grew wr (w6.alloc (.cells #[.slice A6 x.length c6] 41)) := grew_then_alloc hG6 _
              have hO7 := HZ.out.kept (moves_WR moves_alt) hf7.1 (ownNone _) (by simp)
              have htw := OneAt.new w6 (.slice A6 x.length c6) 41
              have hlen := HLL.out
              have hs6 := hG6.1.size
              have hsi := hfz.1.size
              have hltO := HZ.out.lt
              refine Own.app1 (moves_WR moves_alt) elem_alt hO7 rfl _ _ rfl rfl rfl x [.slice A6 x.length c6] rfl (one_at htw) ?_ ?_ (by rw [hlen]; omega) (by omega) (by simp; omega) ?_
              · intro u hu
                simp at hu
                subst hu
                rfl
              · refine moves_WR moves_alt _ _ _ _ _ _ (fun q hq => ⟨by omega, by simp; omega, fun e => ?_⟩) (fun q hq => Below.heap_alloc _ _ _ (by omega)) HW6.out
                have := (hltO q e.symm).2
                omega
              intro v8 w8 hO8 hg8 hp8
              have hfr8 : Grew wi w8 := grew_own (grew_trans hfz hf7) (fun b hb => (hltO b hb).1) hg8.1 hg8.2
              rw [← HT3.out] at hO8
              obtain ⟨A8, c8, he8, hcc8⟩ := hO8.val
              have HO8 := Lib.hid hO8
              clear hO8 hO7 htw hltO
              rw [show (alts.take (l + 1)).length = l + 1 by rw [List.length_take]; omega] at he8
              subst he8
              go_wp2_with fail
              exact ⟨⟨l + 1, by omega, by go_num, hfr8, HO8.out⟩, by simp [intOf]; omega⟩
            · obtain rfl : l = alts.length := by omega
              rw [List.take_length] at hZ
              have hsi := hfz.1.size
              have hWz := hZ.slW moves_alt (by omega) (S := fun b => wi.heap.size ≤ b ∧ b < wr.heap.size) (fun b h1 h2 => ⟨h1, h2⟩) (fun b hb => hZ.lt b hb)
              have HWz := Lib.hid hWz
              clear hZ hll hWz
              repeat ((fail_if_success at_builtin); first | go_values | go_skip | go_guarded | go_step | go_upon)
              have hf5 : Grew wi (wr.alloc (.cells #[.slice Az alts.length cz] 40)) := grew_then_alloc hfz _
              have hO5 := HQ.out.kept (moves_WR moves_alts) hf5.1 (ownNone _) (by simp)
              have htw := OneAt.new wr (.slice Az alts.length cz) 40
              have hlen := HLJ.out
              have hso := HFQ.out.1.size
              have hltO := HQ.out.lt
              refine Own.app1 (moves_WR moves_alts) elem_alts hO5 rfl _ _ rfl rfl rfl alts [.slice Az alts.length cz] rfl (one_at htw) ?_ ?_ (by rw [hlen]; omega) (by omega) (by simp; omega) ?_
              · intro u hu
                simp at hu
                subst hu
                rfl
              · refine moves_WR moves_alts _ _ _ _ _ _ (fun q hq => ⟨by omega, by simp; omega, fun e => ?_⟩) (fun q hq => Below.heap_alloc _ _ _ (by omega)) HWz.out
                have := (hltO q e.symm).2
                omega
              intro v7 w7 hO7 hg7 hp7
              have hfr7 : Grew wo w7 := grew_own (grew_trans HFQ.out hf5) (fun b hb => (hltO b hb).1) hg7.1 hg7.2
              rw [← HT2.out] at hO7
              obtain ⟨A7, c7, he7, hcc7⟩ := hO7.val
              have HO7 := Lib.hid hO7
              clear hO7 hO5 htw hltO
              rw [show (row.take (j + 1)).length = j + 1 by rw [List.length_take]; omega] at he7
              subst he7
              go_wp2_with fail
              exact ⟨⟨j + 1, by omega, by go_num, hfr7, HO7.out⟩, by simp [intOf]; omega⟩
        · obtain rfl : j = row.length := by omega
          rw [List.take_length] at hQ
          have hO1 := HO.out.grew hfq
          obtain ⟨hc0, hc1, hc2'⟩ := hO1.1.cells
          obtain ⟨Am, cm, hme, hmc⟩ := hO1.2.2.2.val
          rw [HL.out] at hme hmc
          subst hme
          have hsq := hfq.1.size
          have hWq := rowT_own hQ (Nat.le_trans hrl (by omega))
          have HWq := Lib.hid hWq
          have HO1 := Lib.hid hO1
          clear hWq hQ hO1 hlj
          repeat ((fail_if_success at_builtin); first | go_values | go_skip | go_guarded | go_step | go_upon)
          have hf5 : Grew wr (wr.alloc (.cells #[.slice Aq row.length cq] 51)) := grew_alloc _ _
          have hO5 := (HO1.out.grew hf5)
          have htw := OneAt.new wr (.slice Aq row.length cq) 51
          have hlen := HL.out
          have hltO := hO5.2.2.2.lt
          have hltO1 := HO1.out.2.2.2.lt
          refine Own.app1 moves_rowT elem_rule hO5.2.2.2 rfl _ _ rfl rfl rfl (row, wo.heap.size, wr.heap.size) [.slice Aq row.length cq] rfl (one_at htw) ?_ ?_ (by rw [hlen]; omega) (by omega) (by simp; omega) ?_
          · intro u hu
            simp at hu
            subst hu
            rfl
          · refine moves_rowT _ _ _ _ _ _ (fun q hq => ⟨by omega, by simp; omega, fun e => ?_⟩) (fun q hq => Below.heap_alloc _ _ _ (by omega)) HWq.out
            have hO2 := HO.out.2.2.2.lt q e.symm
            omega
          intro v7 w7 hO7 hg7 hp7
          have hTS7 : TagOk n0 w7.heap.size (ts ++ [(row, wo.heap.size, wr.heap.size)]) (a.moves.take (k + 1)) := by
            rw [HT.out]
            exact HTS.out.app (by omega) (by omega) (by have := hg7.1.size; simp at this; omega)
          have HTS7 := Lib.hid hTS7
          clear hTS7
          have hT7 : ThreeAt w7 (w.heap.size + 2) (.slice Ar a.ranks.length cr) (.int .i64 a.start) (.slice Am k cm) 25 := hO5.1.move (hg7.1.block _ (by simp; omega) (fun e => by have := (hltO _ e.symm).1; omega))
          have hG7 : GrewG (w.heap.size + 2) n0 wo w7 := (GrewG.of (grew_trans hfq hf5) (by omega)).trans (.ofR hg7 (by simp; omega) (fun q hq => by have := (hltO q hq).1; omega))
          obtain ⟨A7, c7, he7, hcc7⟩ := hO7.val
          rw [show (ts ++ [(row, wo.heap.size, wr.heap.size)]).length = k + 1 by rw [List.length_append, HL.out]; rfl] at he7
          have hT8 := hT7.set2 v7
          have hO8 := hO7.kept moves_rowT (w' := w7.setCell ⟨w.heap.size + 2, 2, none⟩ v7) (row := some (w.heap.size + 2)) (frm_set (frm_refl _ _) _ _) (.inr fun e => by have := (hO7.lt _ e).1; omega) (fun q hq e => by injection e with e; omega)
          have HG8 := Lib.hid (hfr.trans (hG7.set 2 v7))
          obtain ⟨hd0, hd1, hd2⟩ := hT7.cells
          have hfz7 := hT7.free 2
          have HO8 := Lib.hid (show OutT (w7.setCell ⟨w.heap.size + 2, 2, none⟩ v7) (w.heap.size + 2) n0 (.slice Ar a.ranks.length cr) a.start v7 (ts ++ [(row, wo.heap.size, wr.heap.size)]) from ⟨hT8, by omega, by have := hg7.1.size; simp at this ⊢; omega, hO8⟩)
          clear hO7 hO5 htw hltO hO8 hT8 hT7 hG7
          subst he7
          go_wp2_with fail
          exact ⟨⟨k + 1, by omega, by go_num, HG8.out, _, _, by simpa using HTS7.out, HO8.out⟩, by simp [intOf]; omega⟩
    · obtain rfl : k = a.moves.length := by omega
      rw [List.take_length] at hts
      obtain ⟨hO1, _, hnw, hO2⟩ := hO
      have htl : ts.length = a.moves.length := by rw [← hts.1, List.length_map]
      have hrk9 : WR (RowS 1 IntR) (fun q => w.heap.size + 2 < q ∧ q < n0) wr a.ranks [.slice Ar a.ranks.length cr] :=
        moves_WR (moves_row moves_int) _ _ _ _ _ _ (fun q hq => hq) (fun q hq => hfr.block q (by omega) (by omega)) HW5.out
      obtain ⟨Am, cm, hme, hmc⟩ := hO2.val
      rw [htl] at hme
      subst hme
      obtain ⟨he0, he1, he2⟩ := hO1.cells
      have xr9 := HXR.out.move (hfr.block _ (by omega) (by omega))
      obtain ⟨hx0, hx1, hx2⟩ := xr9.cells
      have hxf0 := xr9.free 0
      have hxf1 := xr9.free 1
      have hxf2 := xr9.free 2
      have HO2 := Lib.hid hO2
      have HTS := Lib.hid hts
      have hlt2 := hO2.lt
      have HRK := Lib.hid hrk9
      clear hrk9 hO2 hO1 xr9 hts
      go_wp2_with fail
      refine bodyPost_ret (v := .agg #[.slice Ar a.ranks.length cr, .int .i64 a.start, .slice Am a.moves.length cm]) (by simp [results, Tryd.results38, go_sem, hx0, hx1, hx2, hxf0, hxf1, hxf2]) rfl ⟨_, _, n0, ts, rfl, ?_, by omega, ?_, ?_, ?_⟩
      · exact grew_set_new (grew_set_new (grew_set_new hGr (by omega) _ _) (by omega) _ _) (by omega) _ _
      · simpa using HTS.out
      · exact HO2.out.kept moves_rowT (w' := ((wr.setCell ⟨w.heap.size + 1, 0, none⟩ (.slice Ar a.ranks.length cr)).setCell ⟨w.heap.size + 1, 1, none⟩ (.int .i64 a.start)).setCell ⟨w.heap.size + 1, 2, none⟩ (.slice Am a.moves.length cm)) (row := some (w.heap.size + 1))
          (frm_set (frm_set (frm_set (frm_refl _ _) _ _) _ _) _ _) (.inr fun e => by have := hlt2 _ e; omega) (fun b hb e => by injection e with e; omega)
      · refine moves_WR (moves_row moves_int) _ _ _ _ _ _ (fun q hq => ⟨by omega, by omega⟩) (fun q hq => ?_) HRK.out
        rw [Below.heap_setCell _ _ _ _ (by show q ≠ w.heap.size + 1; omega), Below.heap_setCell _ _ _ _ (by show q ≠ w.heap.size + 1; omega), Below.heap_setCell _ _ _ _ (by show q ≠ w.heap.size + 1; omega)]
end Go.Proofs.YtjpdmncafacmaaaDoor
end
/- Rows made smallest in place: what lies where. -/
section
set_option linter.unusedVariables false
set_option linter.unusedSimpArgs false
namespace Go.Proofs.YtjpdmncafacmaaaDoor
open Go.RowKit

/-- Where the rows of an automaton lie: each in a block of its own. -/
structure RowsAt (w : World) (gm n0 : Nat) (rb : Nat → Nat) (n L : Nat) : Prop where
  head : ∀ p, p < n → ∃ A c, w.cell? ⟨gm, p, none⟩ = some (.slice A L c) ∧ L ≤ c ∧ (0 < L → A = some ⟨rb p, 0, none⟩)
  low : ∀ p, p < n → 0 < L → n0 ≤ rb p ∧ rb p ≠ gm
  inj : ∀ p p', p < n → p' < n → 0 < L → rb p = rb p' → p = p'
/-- Blocks that are no row's. -/
def Off (rb : Nat → Nat) (n L : Nat) (b : Nat) : Prop := ∀ p, p < n → 0 < L → rb p ≠ b
/-- The rows before `q`, and `f` cells of that, are made smallest. -/
structure PI (n0 : Nat) (wc wr : World) (rb : Nat → Nat) (n L : Nat) (M : Nat → Nat → List (List Nd)) (q f : Nat) : Prop where
  grew : GrewP (Off rb n L) wc wr
  cell : ∀ p j, p < n → j < L → ∃ v, wr.cell? ⟨rb p, j, none⟩ = some v ∧ AltsR (fun b => n0 ≤ b ∧ b < wr.heap.size ∧ Off rb n L b) wr (if p < q ∨ p = q ∧ j < f then smallest (M p j) else M p j) [v]
  free : ∀ p, p < n → 0 < L → Unf wr (rb p)
section
variable {n0 : Nat} {wc wr : World} {rb : Nat → Nat} {n L : Nat} {M : Nat → Nat → List (List Nd)} {q f : Nat}
theorem PI.lt (h : PI n0 wc wr rb n L M q f) : ∀ p, p < n → 0 < L → rb p < wr.heap.size := by
  intro p hp hL
  obtain ⟨v, hv, _⟩ := h.cell p 0 hp hL
  exact World.block_lt_of_cell? _ _ hv
theorem PI.more (h : PI n0 wc wr rb n L M q f) {w' : World} (hg : Grew wr w') : PI n0 wc w' rb n L M q f := by
  refine ⟨h.grew.step hg, fun p j hp hj => ?_, fun p hp hL => (h.free p hp hL).move (frm_lt hg.1 _ (h.lt p hp hL))⟩
  obtain ⟨v, h1, h2⟩ := h.cell p j hp hj
  exact ⟨v, frm_cell hg.1 h1, moves_alts _ _ _ _ _ _ (fun b hb => ⟨hb.1, Nat.lt_of_lt_of_le hb.2.1 hg.1.size, hb.2.2⟩) (fun b hb => frm_lt hg.1 b hb.2.1) h2⟩
theorem PI.put (h : PI n0 wc wr rb n L M q f) {w5 : World} {v : Value} (hg : Grew wr w5) (hq : q < n) (hf : f < L) (inj : ∀ p p', p < n → p' < n → 0 < L → rb p = rb p' → p = p')
    (hv : AltsR (fun b => n0 ≤ b ∧ b < w5.heap.size ∧ Off rb n L b) w5 (smallest (M q f)) [v]) : PI n0 wc (w5.setCell ⟨rb q, f, none⟩ v) rb n L M q (f + 1) := by
  have h5 := h.more hg
  have hL : 0 < L := by omega
  have hmv : ∀ b, Off rb n L b → (w5.setCell ⟨rb q, f, none⟩ v).heap[b]? = w5.heap[b]? := fun b hb => Below.heap_setCell _ _ _ _ (by show b ≠ rb q; exact fun e => hb q hq hL e.symm)
  refine ⟨h5.grew.set _ _ (fun hb => hb q hq hL rfl), fun p j hp hj => ?_, fun p hp hL => (h5.free p hp hL).set _ _⟩
  by_cases hpq : p = q ∧ j = f
  · obtain ⟨rfl, rfl⟩ := hpq
    obtain ⟨u, hu, _⟩ := h5.cell p j hp hj
    refine ⟨v, World.cell?_setCell_same _ _ _ hu, ?_⟩
    rw [if_pos (.inr ⟨rfl, by omega⟩)]
    exact moves_alts _ _ _ _ _ _ (fun b hb => ⟨hb.1, by simpa using hb.2.1, hb.2.2⟩) (fun b hb => hmv b hb.2.2) hv
  · obtain ⟨u, hu, hr⟩ := h5.cell p j hp hj
    refine ⟨u, ?_, ?_⟩
    · rw [World.cell?_setCell_other _ _ _ _ (by
        intro e
        injection e with e1 e2
        exact hpq ⟨(inj q p hq hp hL (by simpa using e1)).symm, by simpa using e2.symm⟩)]
      exact hu
    · have he : (if p < q ∨ p = q ∧ j < f + 1 then smallest (M p j) else M p j) = (if p < q ∨ p = q ∧ j < f then smallest (M p j) else M p j) := by
        by_cases h1 : p < q
        · simp [h1]
        · by_cases h2 : p = q
          · have h3 : j ≠ f := fun e => hpq ⟨h2, e⟩
            have h4 : j < f + 1 ↔ j < f := by omega
            simp [h1, h2, h4]
          · simp [h1, h2]
      rw [he]
      exact moves_alts _ _ _ _ _ _ (fun b hb => ⟨hb.1, by simpa using hb.2.1, hb.2.2⟩) (fun b hb => hmv b hb.2.2) hr
theorem PI.next (h : PI n0 wc wr rb n L M q L) : PI n0 wc wr rb n L M (q + 1) 0 := by
  refine ⟨h.grew, fun p j hp hj => ?_, h.free⟩
  obtain ⟨v, h1, h2⟩ := h.cell p j hp hj
  refine ⟨v, h1, ?_⟩
  have he : (p < q + 1 ∨ p = q + 1 ∧ j < 0) ↔ (p < q ∨ p = q ∧ j < L) := by omega
  simp only [he]
  exact h2
theorem PI.rebase (h : PI n0 wc wr rb n L M q f) : PI n0 wr wr rb n L M q f := ⟨.refl _ _, h.cell, h.free⟩
theorem RowsAt.move {gm : Nat} (h : RowsAt wc gm n0 rb n L) (hw : wr.heap[gm]? = wc.heap[gm]?) : RowsAt wr gm n0 rb n L := by
  refine ⟨fun p hp => ?_, h.low, h.inj⟩
  obtain ⟨A, c, h1, h2⟩ := h.head p hp
  exact ⟨A, c, (World.cell?_of_block hw).trans h1, h2⟩
end
theorem rows_start {w : World} {gm n0 cm L : Nat} {T : TypeId} {a : Au} {ts : List Tag} (hL : ∀ row ∈ a.moves, row.length = L) (hO : Own RowT w n0 T 1 (fun b => n0 ≤ b) (.slice (some ⟨gm, 0, none⟩) ts.length cm) ts)
    (hT : TagOk n0 w.heap.size ts a.moves) : ∃ rb, RowsAt w gm n0 rb a.moves.length L ∧ PI n0 w w rb a.moves.length L a.alts 0 0 := by
  have hlen : ts.length = a.moves.length := by rw [← hT.rows, List.length_map]
  have hG := hO.rowG
  have key : ∀ p, ∃ g, ∀ hp : p < ts.length, ∃ A c, w.cell? ⟨gm, p, none⟩ = some (.slice A L c) ∧ L ≤ c ∧ (0 < L → A = some ⟨g, 0, none⟩ ∧ n0 ≤ g ∧ g ≠ gm ∧ ts[p].2.1 ≤ g ∧ g < ts[p].2.2 ∧ Unf w g ∧
      RowG 1 (WR AltsR) (fun b => ts[p].2.1 ≤ b ∧ b < ts[p].2.2 ∧ b < w.heap.size ∧ b ≠ g) w g ts[p].1) := by
    intro p
    by_cases hp : p < ts.length
    · obtain ⟨cs, hl, hc, v, rfl, hx⟩ := hG p hp
      have hc0 : w.cell? ⟨gm, p, none⟩ = some v := by simpa using hc 0 (by omega)
      have hrl : ts[p].1.length = L := hL _ (by rw [← hT.rows]; exact List.mem_map.2 ⟨_, List.getElem_mem hp, rfl⟩)
      rcases hx with ⟨rfl, h0⟩ | ⟨g, c, rfl, h2, h3, h4, h5, h6⟩
      · refine ⟨0, fun _ => ⟨none, 0, ?_, ?_, fun h => ?_⟩⟩
        · rw [hc0]
          rw [h0] at hrl
          simp at hrl
          subst hrl
          rfl
        · rw [h0] at hrl; simp at hrl; omega
        · rw [h0] at hrl; simp at hrl; omega
      · refine ⟨g, fun _ => ⟨_, c, by rw [hc0, hrl], by omega, fun h => ⟨rfl, h4.1.1, ?_, h4.2.1, h4.2.2, h5, ?_⟩⟩⟩
        · intro e
          exact h4.1.2.2 (by rw [e]; rfl)
        · exact h6.move (moves_WR moves_alts) (fun b hb => ⟨hb.1.2.1, hb.1.2.2, hb.1.1.2.1, hb.2⟩) (fun _ _ => rfl) rfl
    · exact ⟨0, fun h => absurd h hp⟩
  obtain ⟨rb, hrb⟩ := Classical.axiomOfChoice key
  have hap := List.pairwise_iff_getElem.1 hT.apart
  have hoff : ∀ p p' (hp : p < ts.length) (hp' : p' < ts.length), 0 < L → p ≠ p' → ∀ b, ts[p].2.1 ≤ b → b < ts[p].2.2 → rb p' ≠ b := by
    intro p p' hp hp' hL0 hne b hb1 hb2 e
    obtain ⟨A, c, _, _, h⟩ := hrb p' hp'
    obtain ⟨_, _, _, h1, h2, _⟩ := h hL0
    rcases Nat.lt_or_gt_of_ne hne with h3 | h3
    · have := hap p p' hp hp' h3
      omega
    · have := hap p' p hp' hp h3
      omega
  refine ⟨rb, ⟨fun p hp => ?_, fun p hp hL0 => ?_, fun p p' hp hp' hL0 e => ?_⟩, ⟨.refl _ _, fun p j hp hj => ?_, fun p hp hL0 => ?_⟩⟩
  · obtain ⟨A, c, h1, h2, h3⟩ := hrb p (by omega)
    exact ⟨A, c, h1, h2, fun h => (h3 h).1⟩
  · obtain ⟨A, c, h1, h2, h3⟩ := hrb p (by omega)
    exact ⟨(h3 hL0).2.1, (h3 hL0).2.2.1⟩
  · by_cases hne : p = p'
    · exact hne
    · obtain ⟨A, c, h1, h2, h3⟩ := hrb p (by omega)
      obtain ⟨_, _, _, h4, h5, _⟩ := h3 hL0
      exact absurd e.symm (hoff p p' (by omega) (by omega) hL0 hne _ h4 h5)
  · have hp' : p < ts.length := by omega
    obtain ⟨A, c, h1, h2, h3⟩ := hrb p hp'
    obtain ⟨_, _, _, h4, h5, _, h6⟩ := h3 (by omega)
    have hrw : ts[p].1 = a.moves[p] := by
      have : (ts.map (·.1))[p]'(by simpa using hp') = a.moves[p] := by simp only [hT.rows]
      rw [← this, List.getElem_map]
    have hrl : (a.moves[p]).length = L := hL _ (List.getElem_mem hp)
    have hj' : j < ts[p].1.length := by rw [hrw, hrl]; exact hj
    obtain ⟨cs, hl, hc, hr⟩ := h6 j hj'
    obtain ⟨v, rfl⟩ : ∃ v, cs = [v] := by
      match cs, hl with
      | [v], _ => exact ⟨v, rfl⟩
    refine ⟨v, by simpa using hc 0 (by omega), ?_⟩
    rw [if_neg (by omega), show a.alts p j = ts[p].1[j] by rw [alts_eq hp (by omega)]; simp [hrw]]
    refine moves_alts _ _ _ _ _ _ (fun b hb => ⟨by have := (hT.low _ (List.getElem_mem hp')).1; omega, hb.2.2.1, fun p' hp2 hL0 => ?_⟩) (fun _ _ => rfl) (WR.rd moves_alts hr)
    by_cases hne : p = p'
    · subst hne
      exact fun e => hb.2.2.2 e.symm
    · exact hoff p p' hp' (by omega) hL0 hne b hb.1 hb.2.1
  · obtain ⟨A, c, h1, h2, h3⟩ := hrb p (by omega)
    exact (h3 hL0).2.2.2.2.2.1
theorem rows_done {wc wr : World} {gm n0 L cm : Nat} {a : Au} {rb : Nat → Nat} (hL : ∀ row ∈ a.moves, row.length = L) (hL1 : L ≤ 100000) (hn : a.moves.length ≤ 100) (hcm : a.moves.length ≤ cm) (hR : RowsAt wr gm n0 rb a.moves.length L) (h : PI n0 wc wr rb a.moves.length L a.alts a.moves.length 0) (hgm : n0 ≤ gm ∧ gm < wr.heap.size) :
    MovesR (fun b => n0 ≤ b ∧ b < wr.heap.size) wr (a.moves.map (·.map smallest)) [.slice (some ⟨gm, 0, none⟩) a.moves.length cm] := by
  refine ⟨_, rfl, _, cm, by simp, by simpa using hcm, by simp; omega, fun _ => ⟨gm, 0, rfl, hgm, fun p hp' => ?_⟩⟩
  have hp : p < a.moves.length := by simpa using hp'
  obtain ⟨A, c, h1, h2, h3⟩ := hR.head p hp
  have hrl : (a.moves[p]).length = L := hL _ (List.getElem_mem hp)
  refine ⟨[.slice A L c], rfl, fun j hj => ?_, ?_⟩
  · obtain rfl : j = 0 := by omega
    simpa using h1
  rw [List.getElem_map]
  refine ⟨_, rfl, A, c, by simp [hrl], by simpa [hrl] using h2, by simp; omega, fun h0 => ?_⟩
  have hL0 : 0 < L := by simpa [hrl] using h0
  have hA := h3 hL0
  refine ⟨rb p, 0, hA, ⟨(hR.low p hp hL0).1, h.lt p hp hL0⟩, fun j hj' => ?_⟩
  have hj : j < L := by simpa [hrl] using hj'
  obtain ⟨v, q1, q2⟩ := h.cell p j hp hj
  refine ⟨[v], rfl, fun i hi => ?_, ?_⟩
  · obtain rfl : i = 0 := by omega
    simpa using q1
  rw [if_pos (.inl hp), alts_eq hp (by omega)] at q2
  rw [List.getElem_map]
  exact moves_alts _ _ _ _ _ _ (fun b hb => ⟨hb.1, hb.2.1⟩) (fun _ _ => rfl) q2
end Go.Proofs.YtjpdmncafacmaaaDoor
end
/- The reference's Plain: each list of alternatives made smallest in place. -/
section
set_option linter.unusedVariables false
set_option linter.unusedSimpArgs false
namespace Go.Proofs.YtjpdmncafacmaaaDoor
open Go.RowKit

/-- An automaton and an error are returned, to be read. -/
def RetQ (w : World) (a : Au) (er : Int) (e : Ending) (w' : World) : Prop :=
  ∃ r m, e = .returned (.tuple #[.agg #[r, .int .i64 a.start, m], .int .i64 er]) ∧ Grew w w' ∧ rdO AuR w' a [r, .int .i64 a.start, m]
theorem auQ_slices {w : World} {V : Au} {r m : Value} (h : rdO AuR w V [r, .int .i64 V.start, m]) : ∃ A n c B p d, r = .slice A n c ∧ m = .slice B p d := by
  obtain ⟨r', m', he, ⟨v1, h1, s1⟩, ⟨v2, h2, s2⟩, _⟩ := h
  obtain ⟨A1, c1, rfl, _⟩ := s1.val
  obtain ⟨A2, c2, rfl, _⟩ := s2.val
  simp only [List.cons.injEq, and_true, true_and] at he h1 h2
  rw [h1] at he
  rw [h2] at he
  exact ⟨_, _, _, _, _, _, he.1, he.2⟩
set_option maxRecDepth 100000 in
set_option maxHeartbeats 2000000 in
theorem rplain_calls (a : Au) (w : World) (r m : Value) (hA : rdO AuR w a [r, .int .i64 a.start, m]) :
    Calls Tryd.prog 17 #[.agg #[r, .int .i64 a.start, m]] w (RetQ w (plainV a) (plainE a)) := by
  obtain ⟨hR, hMv, hs1, hs2⟩ := AuR.parts hA
  obtain ⟨A, c, rfl, hc, hlm⟩ := hR.val
  obtain ⟨B, d, rfl, hd, hlm2⟩ := hMv.val
  obtain ⟨w2, hw2⟩ : ∃ w2, w2 = (w.alloc (.cells #[.slice A a.ranks.length c, .int .i64 a.start, .slice B a.moves.length d] 25)).alloc (.cells #[.slice none 0 0, .int .i64 0, .slice none 0 0] 25) := ⟨_, rfl⟩
  have hG2 : Grew w w2 := by rw [hw2]; exact grew_then_alloc (grew_alloc _ _) _
  have xa : ThreeAt w2 w.heap.size (.slice A a.ranks.length c) (.int .i64 a.start) (.slice B a.moves.length d) 25 := by
    rw [hw2]; exact (ThreeAt.new w _ _ _ _).frm (frm_alloc _ _)
  have xr : ThreeAt w2 (w.heap.size + 1) (.slice none 0 0) (.int .i64 0) (.slice none 0 0) 25 := by
    have h := ThreeAt.new (w.alloc (.cells #[.slice A a.ranks.length c, .int .i64 a.start, .slice B a.moves.length d] 25)) (.slice none 0 0) (.int .i64 0) (.slice none 0 0) 25
    rw [World.size_alloc] at h
    rw [hw2]; exact h
  have hIS : Calls Tryd.prog 18 #[.agg #[.slice A a.ranks.length c, .int .i64 a.start, .slice B a.moves.length d]] w2 (RetD w2 (.bool a.ok)) := by
    have h := ris_calls a w2 _ _ (rdO_frm moves_au hG2.1 hA)
    rw [← ok_eq] at h
    exact h
  have xa' := xa
  rw [hw2] at xa' hIS
  obtain ⟨xa0, xa1, xa2⟩ := xa'.cells
  have HIS := Lib.hid hIS
  have HW2 := Lib.hid hw2
  have HA := Lib.hid hA
  clear hIS hw2 hA hR hMv
  go_enter Tryd.func17, Tryd.ntmps17
  go_wp2_with fail
  refine HIS.out.mono ?_
  rw [← HW2.out]
  rintro e w3 ⟨rfl, hf3⟩
  have hG3 := grew_trans hG2 hf3
  have hs3 := (xr.frm hf3.1).lt
  cases hok : a.ok
  · have xo := xr.frm hf3.1
    obtain ⟨xo0, xo1, xo2⟩ := xo.cells
    have xf0 := xo.free 0
    have xf1 := xo.free 1
    have xf2 := xo.free 2
    have HJ : Hid (plainE a = 10 ∧ plainV a = Au.zero) := by
      unfold Hid plainE plainV
      rw [hok]
      exact ⟨rfl, rfl⟩
    clear hok
    dsimp only
    go_wp2_with fail
    refine bodyPost_ret (v := .tuple #[.agg #[.slice none 0 0, .int .i64 0, .slice none 0 0], .int .i64 10]) (by simp [results, Tryd.results17, go_sem, xo0, xo1, xo2, xf0, xf1, xf2]) rfl ⟨.slice none 0 0, .slice none 0 0, ?_, ?_, ?_⟩
    · rw [HJ.out.1, HJ.out.2]; rfl
    · exact grew_set_new (grew_set_new (grew_set_new hG3 (by omega) _ _) (by omega) _ _) (by omega) _ _
    · rw [HJ.out.2]
      exact au_zero _ _
  obtain ⟨xa0, xa1, xa2⟩ := (xa.frm hf3.1).cells
  have hla := (ok_rows hok).1
  have hlr := (ranksOk_parts (ok_parts hok).1).1
  have h1m := (ok_parts hok).2.1
  have hLr : ∀ row ∈ a.moves, row.length = a.ranks.length := fun row h => ((ok_parts hok).2.2.2.2.2 row h).1
  have HLr := Lib.hid hLr
  have HOK := Lib.hid hok
  have HCP := Lib.hid (rcopy3_calls a hok w3 _ _ (rdO_frm moves_au hG3.1 HA.out))
  clear hok hLr
  dsimp only
  go_wp2_with fail
  refine HCP.out.mono ?_
  rintro e w4 ⟨r', m', n0, ts, rfl, hf4, hn0, hT4, hO4, hR4⟩
  have hlts : ts.length = a.moves.length := by rw [← hT4.rows, List.length_map]
  rcases hO4.cases with ⟨_, hnil⟩ | ⟨gm, cm, rfl, hcm, hgm0, hgm1⟩
  · rw [hnil] at hlts; simp at hlts; omega
  obtain ⟨Ar, cr, rfl⟩ : ∃ Ar cr, r' = .slice Ar a.ranks.length cr := by
    obtain ⟨v', hve, hsl⟩ := id hR4
    obtain ⟨A9, c9, rfl, _⟩ := hsl.val
    simp only [List.cons.injEq, and_true] at hve
    exact ⟨_, _, hve⟩
  obtain ⟨rb, hRA4, hPI4⟩ := rows_start HLr.out hO4 hT4
  rw [hlts] at hcm ⊢
  obtain ⟨wc, hwc⟩ : ∃ wc, wc = w4.alloc (.cells #[.slice Ar a.ranks.length cr, .int .i64 a.start, .slice (some ⟨gm, 0, none⟩) a.moves.length cm] 25) := ⟨_, rfl⟩
  have hGc : Grew w4 wc := by rw [hwc]; exact grew_alloc _ _
  have xo : ThreeAt wc w4.heap.size (.slice Ar a.ranks.length cr) (.int .i64 a.start) (.slice (some ⟨gm, 0, none⟩) a.moves.length cm) 25 := by rw [hwc]; exact ThreeAt.new w4 _ _ _ _
  have hGwc : Grew w wc := grew_trans (grew_trans hG3 hf4) hGc
  have hszc : wc.heap.size = w4.heap.size + 1 := by rw [hwc]; simp
  have hcl : w4.heap.size < wc.heap.size := by omega
  have hRA : RowsAt wc gm n0 rb a.moves.length a.ranks.length := hRA4.move (frm_lt hGc.1 gm hgm1)
  have hlt4 := hPI4.lt
  have HPI : Hid (PI n0 wc wc rb a.moves.length a.ranks.length a.alts 0 0) := (hPI4.more hGc).rebase
  have xaC := (xa.frm hf3.1).frm (frm_trans hf4.1 hGc.1)
  have xrC := (xr.frm hf3.1).frm (frm_trans hf4.1 hGc.1)
  have hs34 := hf4.1.size
  have HR4 : Hid (WR (RowS 1 IntR) (fun b => w3.heap.size ≤ b ∧ b < n0) wc a.ranks [.slice Ar a.ranks.length cr]) := moves_WR (moves_row moves_int) _ _ _ _ _ _ (fun b hb => hb) (fun b hb => frm_lt hGc.1 b (by omega)) hR4
  -- blocks that no row uses stay as they are
  have HOff : Hid (∀ b, (b < n0 ∨ b = gm ∨ w4.heap.size ≤ b) → Off rb a.moves.length a.ranks.length b) := by
    intro b hb p hp hL e
    have h1 := hRA4.low p hp hL
    have h2 := hlt4 p hp hL
    omega
  have HKEEP : Hid (∀ wr q f, PI n0 wc wr rb a.moves.length a.ranks.length a.alts q f → ∀ b, b < wc.heap.size → (b < n0 ∨ b = gm ∨ w4.heap.size ≤ b) → wr.heap[b]? = wc.heap[b]?) := fun wr q f h b hb hb2 => h.grew.block b hb (HOff.out b hb2)
  have HRA := Lib.hid hRA
  have HWC := Lib.hid hwc
  obtain ⟨xa0, xa1, xa2⟩ := xaC.cells
  rw [hwc] at xa0 xa1 xa2
  clear hwc hO4 hT4 hR4 hPI4 hRA4 hRA hlt4 hszc
  dsimp only
  go_wp2_with fail
  rw [← HWC.out]
  clear xa0 xa1 xa2
  have hxr2 := xr.lt
  have hxl3 := hf3.1.size
  go_loopw [18] (fun i wr => ∃ q : Nat, q ≤ a.moves.length ∧ i = .int .i64 q ∧ Hid (PI n0 wc wr rb a.moves.length a.ranks.length a.alts q 0)) (fun i _ => a.moves.length - (intOf i).toNat)
  case atStart => exact ⟨0, Nat.zero_le _, rfl, HPI.out⟩
  case round =>
    obtain ⟨q, hq, rfl, hP⟩ := hrel
    by_cases hltq : q < a.moves.length
    · obtain ⟨Aq, cq, hgq', hcq, hAq⟩ := HRA.out.head q hltq
      have hgq : wr.cell? ⟨gm, q, none⟩ = some (.slice Aq a.ranks.length cq) := (World.cell?_of_block (HKEEP.out wr q 0 hP.out gm (by omega) (by omega))).trans hgq'
      go_wp2_with fail
      go_loopw [25] (fun i wq => ∃ f : Nat, f ≤ a.ranks.length ∧ i = .int .i64 f ∧ Hid (PI n0 wc wq rb a.moves.length a.ranks.length a.alts q f)) (fun i _ => a.ranks.length - (intOf i).toNat)
      case atStart => exact ⟨0, Nat.zero_le _, rfl, hP.out⟩
      case round =>
        obtain ⟨f, hf, rfl, hF⟩ := hrel
        by_cases hlt : f < a.ranks.length
        · obtain rfl := hAq (by omega)
          obtain ⟨v3, hv3, hr3⟩ := hF.out.cell q f hltq hlt
          rw [if_neg (by omega)] at hr3
          obtain ⟨A3, c3, rfl⟩ := row_slice hr3
          have hgqF : wr.cell? ⟨gm, q, none⟩ = some (.slice (some ⟨rb q, 0, none⟩) a.ranks.length cq) := (World.cell?_of_block (HKEEP.out wr q f hF.out gm (by omega) (by omega))).trans hgq'
          obtain ⟨xo0, xo1, xo2⟩ := (xo.move (HKEEP.out wr q f hF.out _ hcl (by omega))).cells
          have hrl : (a.alts q f).length ≤ 12 := by
            rw [alts_eq hltq (by rw [HLr.out _ (List.getElem_mem hltq)]; exact hlt)]
            exact (((ok_rows HOK.out).2 _ (List.getElem_mem hltq)).2 _ (List.getElem_mem _)).1
          have hrbl : rb q < wr.heap.size := hF.out.lt q hltq (by omega)
          have hfz : wr.frozen? ⟨rb q, f, none⟩ = false := hF.out.free q hltq (by omega) _
          have HLT := Lib.hid hF.out.lt
          have HDC := Lib.hid (smallest_calls (a.alts q f) wr.drew (.slice A3 (a.alts q f).length c3) (S := fun b => n0 ≤ b ∧ b < wr.heap.size ∧ Off rb a.moves.length a.ranks.length b) (fun b hb => hb.2.1) (row_val (moves_alts _ _ _ _ _ _ (fun b hb => hb) (fun _ _ => rfl) hr3)) (by omega))
          have HPUT := Lib.hid (fun (w5 : World) (v : Value) (hg : Grew wr w5) (hv : AltsR (fun b => n0 ≤ b ∧ b < w5.heap.size ∧ Off rb a.moves.length a.ranks.length b) w5 (smallest (a.alts q f)) [v]) => hF.out.put hg hltq hlt HRA.out.inj hv)
          have hsl := smallTo_len (a.alts q f) (a.alts q f).length
          have HSL : Hid ((smallest (a.alts q f)).length ≤ 12) := Nat.le_trans hsl hrl
          clear hsl hr3
          generalize smallest (a.alts q f) = dl at *
          generalize (a.alts q f).length = ln at *
          have hrbd : rb q < wr.drew.heap.size := hrbl
          have HK0 : Hid (wr.drew.cell? ⟨w4.heap.size, 2, none⟩ = some (.slice (some ⟨gm, 0, none⟩) a.moves.length cm) ∧ wr.drew.cell? ⟨gm, q, none⟩ = some (.slice (some ⟨rb q, 0, none⟩) a.ranks.length cq)) := ⟨xo2, hgqF⟩
          have HK5 : Hid (∀ w5, Grew wr.drew w5 → (w5.cell? ⟨w4.heap.size, 2, none⟩ = some (.slice (some ⟨gm, 0, none⟩) a.moves.length cm) ∧ w5.cell? ⟨gm, q, none⟩ = some (.slice (some ⟨rb q, 0, none⟩) a.ranks.length cq)) ∧ w5.cell? ⟨rb q, f, none⟩ = some (.slice A3 ln c3) ∧ w5.frozen? ⟨rb q, f, none⟩ = false) := fun w5 hg => ⟨⟨frm_cell hg.1 xo2, frm_cell hg.1 hgqF⟩, frm_cell hg.1 hv3, frm_frozen hg.1 hrbd hfz⟩
          have hne1 : rb q ≠ gm := (HRA.out.low q hltq (by omega)).2
          have hne2 : rb q ≠ w4.heap.size := fun e => HOff.out w4.heap.size (.inr (.inr (Nat.le_refl _))) q hltq (by omega) e
          have HKS : Hid (∀ (w5 : World) (u : Value), (w5.cell? ⟨w4.heap.size, 2, none⟩ = some (.slice (some ⟨gm, 0, none⟩) a.moves.length cm) ∧ w5.cell? ⟨gm, q, none⟩ = some (.slice (some ⟨rb q, 0, none⟩) a.ranks.length cq)) → ((w5.setCell ⟨rb q, f, none⟩ u).cell? ⟨w4.heap.size, 2, none⟩ = some (.slice (some ⟨gm, 0, none⟩) a.moves.length cm) ∧ (w5.setCell ⟨rb q, f, none⟩ u).cell? ⟨gm, q, none⟩ = some (.slice (some ⟨rb q, 0, none⟩) a.ranks.length cq))) := fun w5 u h => ⟨by rw [World.cell?_setCell_other _ _ _ _ (by intro e; injection e with e _; exact hne2 e)]; exact h.1, by rw [World.cell?_setCell_other _ _ _ _ (by intro e; injection e with e _; exact hne1 e)]; exact h.2⟩
          have hfL : (f : Int) < a.ranks.length := by omega
          have hf0 : (0 : Int) ≤ f := by omega
          have hqL : (q : Int) < a.moves.length := by omega
          have hq0 : (0 : Int) ≤ q := by omega
          go_wp2_with fail
          go_region_held3 (fun wx => wx.cell? ⟨w4.heap.size, 2, none⟩ = some (.slice (some ⟨gm, 0, none⟩) a.moves.length cm) ∧ wx.cell? ⟨gm, q, none⟩ = some (.slice (some ⟨rb q, 0, none⟩) a.ranks.length cq)) (first | exact HK0.out | assumption | exact HKS.out _ _ (by assumption)) ((go_at_call 39; refine HDC.out.mono ?_; rintro e5 v5 ⟨z5, rfl, hg5, hO5⟩; obtain ⟨A5, c5, rfl, _⟩ := hO5.val; obtain ⟨hS5, hc5, hf5⟩ := HK5.out _ hg5))
          have hs5 : wr.heap.size ≤ v5.heap.size := hg5.1.size
          have hz5 := hO5.sl moves_alt (S := fun b => n0 ≤ b ∧ b < v5.heap.size ∧ Off rb a.moves.length a.ranks.length b) (by have := HSL.out; omega) (fun b hb h => ⟨hb.1, h, hb.2.2⟩) (fun b hb h => ⟨by have h' : wr.heap.size ≤ b := hb; have := hF.out.grew.size; omega, h, fun p hp hL e => by have h' : wr.heap.size ≤ b := hb; have := HLT.out p hp hL; omega⟩)
          have HD6 := Lib.hid (HPUT.out v5 _ (grew_trans (grew_drew _) hg5) ⟨_, rfl, hz5⟩)
          have hS6 := HKS.out v5 (.slice A5 dl.length c5) hS5
          clear hz5 hO5 hc5 hf5 hS5 hv3 hgqF xo0 xo1 xo2 hfz
          rename_i hheld
          clear hheld
          go_wp2_with fail
          generalize v5.setCell ⟨rb q, f, none⟩ (.slice A5 dl.length c5) = w6 at *
          exact ⟨⟨f + 1, by omega, by go_num, HD6.out⟩, by simp [intOf]; omega⟩
        · obtain rfl : f = a.ranks.length := by omega
          have HN := Lib.hid hF.out.next
          go_wp2_with fail
          exact ⟨⟨q + 1, by omega, by go_num, HN.out⟩, by simp [intOf]; omega⟩
    · obtain rfl : q = a.moves.length := by omega
      have HD := Lib.hid (rows_done HLr.out (by omega) (by omega) hcm (HRA.out.move (HKEEP.out wr _ 0 hP.out gm (by omega) (by omega))) hP.out ⟨hgm0, by have := hP.out.grew.size; omega⟩)
      have hsr := hP.out.grew.size
      obtain ⟨xo0, xo1, xo2⟩ := (xo.move (HKEEP.out wr _ 0 hP.out _ hcl (by omega))).cells
      have xr9 := xrC.move (HKEEP.out wr _ 0 hP.out _ xrC.lt (by omega))
      obtain ⟨xr0, xr1, xr2⟩ := xr9.cells
      have xf0 := xr9.free 0
      have xf1 := xr9.free 1
      have xf2 := xr9.free 2
      have HGW : Hid (Grew w wr) := GrewP.grew hGwc (fun b hb => HOff.out b (by omega)) hP.out.grew
      have HR9 : Hid (RowS 1 IntR (fun b => w3.heap.size ≤ b ∧ b < n0) wr a.ranks [.slice Ar a.ranks.length cr]) := moves_row moves_int _ _ _ _ _ _ (fun b hb => hb) (fun b hb => HKEEP.out wr _ 0 hP.out b (by omega) (by omega)) (WR.rd (moves_row moves_int) HR4.out)
      have HJ : Hid (plainE a = 0 ∧ plainV a = plainA a) := by
        unfold Hid plainE plainV
        rw [HOK.out]
        exact ⟨rfl, rfl⟩
      go_wp2_with fail
      refine bodyPost_ret (v := .tuple #[.agg #[.slice Ar a.ranks.length cr, .int .i64 a.start, .slice (some ⟨gm, 0, none⟩) a.moves.length cm], .int .i64 0]) (by simp [results, Tryd.results17, go_sem, xr0, xr1, xr2, xf0, xf1, xf2]) rfl ⟨.slice Ar a.ranks.length cr, .slice (some ⟨gm, 0, none⟩) a.moves.length cm, ?_, ?_, ?_⟩
      · rw [HJ.out.1, HJ.out.2]; rfl
      · exact grew_set_new (grew_set_new (grew_set_new HGW.out (by omega) _ _) (by omega) _ _) (by omega) _ _
      · rw [HJ.out.2]
        have hset : ∀ q, q ≠ w.heap.size + 1 → (((wr.setCell ⟨w.heap.size + 1, 0, none⟩ (.slice Ar a.ranks.length cr)).setCell ⟨w.heap.size + 1, 1, none⟩ (.int .i64 a.start)).setCell ⟨w.heap.size + 1, 2, none⟩ (.slice (some ⟨gm, 0, none⟩) a.moves.length cm)).heap[q]? = wr.heap[q]? := fun q hq => by
          rw [Below.heap_setCell _ _ _ _ (by show q ≠ w.heap.size + 1; exact hq), Below.heap_setCell _ _ _ _ (by show q ≠ w.heap.size + 1; exact hq), Below.heap_setCell _ _ _ _ (by show q ≠ w.heap.size + 1; exact hq)]
        refine ⟨_, _, rfl, ?_, ?_, hs1, hs2⟩
        · exact moves_row moves_int _ _ _ _ _ _ (fun b hb => by have := hb.1; simp; omega) (fun b hb => hset b (by omega)) HR9.out
        · exact moves_moves _ _ _ _ _ _ (fun b hb => by have := hb.1; simp; omega) (fun b hb => hset b (by omega)) HD.out
end Go.Proofs.YtjpdmncafacmaaaDoor
end
/- The states that are needed: the least closed set, plainly. -/
section
set_option linter.unusedVariables false
set_option linter.unusedSimpArgs false
namespace Go.Proofs.YtjpdmncafacmaaaDoor
open Go.RowKit

/-- The states that a state needs. -/
def needsOf (a : Au) (q : Nat) : List Nat := ((a.moves.getD q []).flatten.flatten).map fun x : Nd => x.2.toNat
def ClosedS (a : Au) (C : Nat → Prop) : Prop := ∀ q, C q → ∀ s ∈ needsOf a q, C s
open Classical in
/-- A state is needed if it is in every closed set that holds the start. -/
noncomputable def reachB (a : Au) (s : Nat) : Bool := decide (∀ C : Nat → Prop, ClosedS a C → C a.start.toNat → C s)
theorem reach_iff (a : Au) (s : Nat) : reachB a s = true ↔ ∀ C : Nat → Prop, ClosedS a C → C a.start.toNat → C s := by
  unfold reachB
  exact @decide_eq_true_iff _ (Classical.propDecidable _)
theorem reach_start (a : Au) : reachB a a.start.toNat = true := (reach_iff _ _).2 fun _ _ h => h
theorem reach_step {a : Au} {q s : Nat} (h : reachB a q = true) (hs : s ∈ needsOf a q) : reachB a s = true :=
  (reach_iff _ _).2 fun C hC h0 => hC q ((reach_iff _ _).1 h C hC h0) s hs
/-- A closed set of needed states that holds the start holds them all. -/
theorem reach_eq {a : Au} {p : Nat → Bool} (h0 : p a.start.toNat = true) (hc : ∀ q, p q = true → ∀ s ∈ needsOf a q, p s = true) (hs : ∀ s, p s = true → reachB a s = true) : ∀ s, p s = reachB a s := by
  intro s
  cases h : reachB a s
  · cases h1 : p s
    · rfl
    · rw [hs s h1] at h; cases h
  · exact (reach_iff _ _).1 h (fun s => p s = true) hc h0
theorem mem_needs {a : Au} {q : Nat} {row : List (List (List Nd))} (hq : a.moves.getD q [] = row) {alts : List (List Nd)} (h1 : alts ∈ row) {l : List Nd} (h2 : l ∈ alts) {x : Nd} (h3 : x ∈ l) : x.2.toNat ∈ needsOf a q := by
  unfold needsOf
  rw [hq]
  exact List.mem_map.2 ⟨x, List.mem_flatten.2 ⟨l, List.mem_flatten.2 ⟨alts, h1, h2⟩, h3⟩, rfl⟩
theorem needs_mem {a : Au} {q s : Nat} (h : s ∈ needsOf a q) : ∃ alts ∈ a.moves.getD q [], ∃ l ∈ alts, ∃ x ∈ l, x.2.toNat = s := by
  unfold needsOf at h
  obtain ⟨x, hx, rfl⟩ := List.mem_map.1 h
  obtain ⟨l, hl, hx⟩ := List.mem_flatten.1 hx
  obtain ⟨alts, ha, hl⟩ := List.mem_flatten.1 hl
  exact ⟨alts, ha, l, hl, x, hx, rfl⟩
theorem needs_lt {a : Au} (h : a.ok = true) {q s : Nat} (hs : s ∈ needsOf a q) : s < a.moves.length := by
  obtain ⟨alts, h1, l, h2, x, h3, rfl⟩ := needs_mem hs
  by_cases hq : q < a.moves.length
  · rw [List.getD_eq_getElem?_getD, List.getElem?_eq_getElem hq, Option.getD_some] at h1
    have := ok_state h _ (List.getElem_mem hq) _ h1 _ h2 _ h3
    omega
  · rw [List.getD_eq_getElem?_getD, List.getElem?_eq_none (by omega)] at h1
    simp at h1
theorem reach_lt {a : Au} (h : a.ok = true) {s : Nat} (hs : reachB a s = true) : s < a.moves.length :=
  (reach_iff _ _).1 hs (fun s => s < a.moves.length) (fun q _ s hs => needs_lt h hs) (ok_parts h).2.2.2.2.1

/-! ### The reference's rounds -/
structure Infl (F : List Bool → List Bool) (E : List (Nat × Nat)) : Prop where
  len : ∀ N, (F N).length = N.length
  mono : ∀ N s, N.getD s false = true → (F N).getD s false = true
  sound : ∀ C : Nat → Prop, (∀ e ∈ E, C e.1 → C e.2) → ∀ N, (∀ s, N.getD s false = true → C s) → ∀ s, (F N).getD s false = true → C s
  comp : ∀ N, F N = N → ∀ e ∈ E, e.2 < N.length → N.getD e.1 false = true → N.getD e.2 false = true
theorem list_ext_getD : ∀ {N M : List Bool}, N.length = M.length → (∀ s, N.getD s false = true → M.getD s false = true) → (∀ s, M.getD s false = true → N.getD s false = true) → N = M
  | [], [], _, _, _ => rfl
  | a :: N, b :: M, hl, h1, h2 => by
    have e : a = b := by
      have q1 := h1 0
      have q2 := h2 0
      simp at q1 q2
      cases a <;> cases b <;> simp_all
    rw [e, list_ext_getD (N := N) (M := M) (by simpa using hl) (fun s hs => by simpa using h1 (s + 1) (by simpa using hs)) (fun s hs => by simpa using h2 (s + 1) (by simpa using hs))]
theorem Infl.id : Infl (fun N => N) [] := ⟨fun _ => rfl, fun _ _ h => h, fun _ _ _ h => h, fun _ _ e he => by simp at he⟩
theorem Infl.then {F G : List Bool → List Bool} {E E' : List (Nat × Nat)} (h : Infl F E) (h' : Infl G E') : Infl (fun N => G (F N)) (E ++ E') := by
  refine ⟨fun N => (h'.len _).trans (h.len _), fun N s hs => h'.mono _ _ (h.mono _ _ hs), fun C hC N hN => ?_, fun N hN => ?_⟩
  · exact h'.sound C (fun e he => hC e (List.mem_append.2 (.inr he))) _ (h.sound C (fun e he => hC e (List.mem_append.2 (.inl he))) N hN)
  · have hF : F N = N := (list_ext_getD (h.len N).symm (fun s hs => h.mono N s hs) (fun s hs => by
      have := h'.mono (F N) s hs
      have hN' : G (F N) = N := hN
      exact hN' ▸ this)).symm
    have hG : G N = N := by
      have hN' : G (F N) = N := hN
      rwa [hF] at hN'
    intro e he
    rcases List.mem_append.1 he with he | he
    · exact h.comp N hF e he
    · exact h'.comp N hG e he
theorem getD_set (N : List Bool) (s t : Nat) (b : Bool) : (N.set s b).getD t false = if s = t ∧ s < N.length then b else N.getD t false := by
  simp only [List.getD_eq_getElem?_getD, List.getElem?_set]
  by_cases h : s = t
  · subst h
    by_cases h2 : s < N.length
    · simp [h2]
    · simp [h2]
  · simp [h]
/-- One edge: if the first is needed, the second is. -/
def edgeN (q : Nat) (N : List Bool) (s : Nat) : List Bool := N.set s (N.getD s false || N.getD q false)
theorem Infl.edge (q s : Nat) : Infl (fun N => edgeN q N s) [(q, s)] := by
  refine ⟨fun N => by unfold edgeN; simp, fun N t ht => ?_, fun C hC N hN t ht => ?_, fun N hN e he hl h1 => ?_⟩
  · show (edgeN q N s).getD t false = true
    unfold edgeN
    rw [getD_set]
    split
    · rename_i h
      obtain ⟨rfl, _⟩ := h
      rw [ht]
      rfl
    · exact ht
  · have ht' : (edgeN q N s).getD t false = true := ht
    unfold edgeN at ht'
    rw [getD_set] at ht'
    split at ht'
    · rename_i h
      obtain ⟨rfl, _⟩ := h
      rw [Bool.or_eq_true] at ht'
      rcases ht' with h | h
      · exact hN _ h
      · exact hC (q, s) (by simp) (hN _ h)
    · exact hN _ ht'
  · obtain rfl := List.mem_singleton.1 he
    have hN' : edgeN q N s = N := hN
    have h2 : (edgeN q N s).getD s false = true := by
      unfold edgeN
      rw [getD_set, if_pos ⟨rfl, hl⟩]
      have : N.getD q false = true := h1
      rw [this, Bool.or_true]
    rwa [hN'] at h2
theorem Infl.fold {α : Type} (f : List Bool → α → List Bool) (E : α → List (Nat × Nat)) (h : ∀ x, Infl (fun N => f N x) (E x)) : ∀ L : List α, Infl (fun N => L.foldl f N) (L.flatMap E)
  | [] => Infl.id
  | x :: L => by
    have := (h x).then (Infl.fold f E h L)
    simpa using this
def rowN (a : Au) (N : List Bool) (q : Nat) : List Bool := (needsOf a q).foldl (edgeN q) N
def roundN (a : Au) (N : List Bool) : List Bool := (List.range a.moves.length).foldl (rowN a) N
def edgesN (a : Au) : List (Nat × Nat) := (List.range a.moves.length).flatMap fun q => (needsOf a q).flatMap fun s => [(q, s)]
theorem infl_round (a : Au) : Infl (roundN a) (edgesN a) := Infl.fold (rowN a) _ (fun q => Infl.fold (edgeN q) _ (fun s => Infl.edge q s) _) _
theorem edges_mem {a : Au} {e : Nat × Nat} : e ∈ edgesN a ↔ e.1 < a.moves.length ∧ e.2 ∈ needsOf a e.1 := by
  unfold edgesN
  simp only [List.mem_flatMap, List.mem_range, List.mem_singleton]
  constructor
  · rintro ⟨q, hq, s, hs, rfl⟩
    exact ⟨hq, hs⟩
  · rintro ⟨h1, h2⟩
    exact ⟨e.1, h1, e.2, h2, rfl⟩
theorem cnt_less : ∀ {N M : List Bool}, N.length = M.length → (∀ s, N.getD s false = true → M.getD s false = true) → N.count true ≤ M.count true ∧ (N ≠ M → N.count true < M.count true)
  | [], [], _, _ => ⟨Nat.le_refl _, fun h => absurd rfl h⟩
  | a :: N, b :: M, hl, h1 => by
    obtain ⟨i1, i2⟩ := cnt_less (N := N) (M := M) (by simpa using hl) (fun s hs => by simpa using h1 (s + 1) (by simpa using hs))
    have q1 := h1 0
    simp at q1
    cases a <;> cases b <;> simp_all <;> omega
def iterN (a : Au) (N : List Bool) : Nat → List Bool
  | 0 => N
  | r + 1 => roundN a (iterN a N r)
theorem iter_len (a : Au) (N : List Bool) : ∀ r, (iterN a N r).length = N.length
  | 0 => rfl
  | r + 1 => ((infl_round a).len _).trans (iter_len a N r)
theorem iter_stay (a : Au) (N : List Bool) (h0 : 1 ≤ N.count true) : ∀ r, roundN a (iterN a N r) = iterN a N r ∨ 1 + r ≤ (iterN a N r).count true
  | 0 => .inr (by simpa [iterN] using h0)
  | r + 1 => by
    by_cases h : roundN a (iterN a N r) = iterN a N r
    · left
      show roundN a (roundN a (iterN a N r)) = roundN a (iterN a N r)
      rw [h, h]
    · rcases iter_stay a N h0 r with h1 | h1
      · exact absurd h1 h
      · right
        have := (cnt_less ((infl_round a).len (iterN a N r)).symm (fun s hs => (infl_round a).mono _ s hs)).2 (fun e => h e.symm)
        show _ ≤ (roundN a (iterN a N r)).count true
        omega
theorem iter_mono (a : Au) (N : List Bool) (s : Nat) (h : N.getD s false = true) : ∀ r, (iterN a N r).getD s false = true
  | 0 => h
  | r + 1 => (infl_round a).mono _ _ (iter_mono a N s h r)
theorem iter_sound {a : Au} {N : List Bool} (h : ∀ s, N.getD s false = true → reachB a s = true) : ∀ r s, (iterN a N r).getD s false = true → reachB a s = true
  | 0 => h
  | r + 1 => (infl_round a).sound (fun s => reachB a s = true) (fun e he hs => reach_step hs (edges_mem.1 he).2) _ (iter_sound h r)
def startN (a : Au) : List Bool := (List.replicate a.moves.length false).set a.start.toNat true
/-- After as many rounds as there are states, the needed ones are known. -/
theorem iter_reach {a : Au} (h : a.ok = true) : ∀ s, (iterN a (startN a) a.moves.length).getD s false = reachB a s := by
  have hs := (ok_parts h).2.2.2.2.1
  have hl : (startN a).length = a.moves.length := by unfold startN; simp
  have h0 : (startN a).getD a.start.toNat false = true := by
    unfold startN
    rw [getD_set, if_pos ⟨rfl, by simpa using hs⟩]
  have hc : 1 ≤ (startN a).count true := by
    refine List.count_pos_iff.2 ?_
    unfold startN
    exact List.mem_iff_getElem.2 ⟨a.start.toNat, by simpa using hs, by simp⟩
  have hfix : roundN a (iterN a (startN a) a.moves.length) = iterN a (startN a) a.moves.length := by
    rcases iter_stay a (startN a) hc a.moves.length with h1 | h1
    · exact h1
    · have := List.count_le_length (a := true) (l := iterN a (startN a) a.moves.length)
      rw [iter_len, hl] at this
      omega
  have hil : (iterN a (startN a) a.moves.length).length = a.moves.length := by rw [iter_len, hl]
  refine reach_eq (p := fun s => (iterN a (startN a) a.moves.length).getD s false) (iter_mono a _ _ h0 _) (fun q hq s hs => ?_) (iter_sound (fun s hs => ?_) _)
  · have hq' : q < a.moves.length := by
      rw [← hil]
      have : (iterN a (startN a) a.moves.length).getD q false = true := hq
      by_cases h : q < (iterN a (startN a) a.moves.length).length
      · exact h
      · rw [List.getD_eq_getElem?_getD, List.getElem?_eq_none (by omega)] at this
        cases this
    exact (infl_round a).comp _ hfix (q, s) (edges_mem.2 ⟨hq', hs⟩) (by rw [hil]; exact needs_lt h hs) hq
  · unfold startN at hs
    rw [getD_set] at hs
    split at hs
    · rename_i hh
      rw [← hh.1]
      exact reach_start a
    · rw [List.getD_eq_getElem?_getD, List.getElem?_replicate] at hs
      split at hs <;> cases hs

/-! ### The automaton without the other states -/
def cntB (p : Nat → Bool) (q : Nat) : Nat := ((List.range q).filter p).length
noncomputable def reachL (a : Au) : List Nat := (List.range a.moves.length).filter (reachB a)
/-- The given states of an automaton, states changed by a table. -/
def numA (a : Au) (qs : List Nat) (tl : List Int) : Au := ⟨a.ranks, tl.getD a.start.toNat 0, qs.map fun q => (a.moves.getD q []).map fun alts => altSet (mvd (toL tl) alts)⟩
noncomputable def reachA (a : Au) : Au := numA a (reachL a) ((List.range a.moves.length).map fun q => (cntB (reachB a) q : Int))
noncomputable def reachE (a : Au) : Int := if a.ok then 0 else 10
noncomputable def reachV (a : Au) : Au := if a.ok then reachA a else Au.zero
theorem mvd_congr {f g : Nd → Nd} {alts : List (List Nd)} (h : ∀ l ∈ alts, ∀ x ∈ l, f x = g x) : mvd f alts = mvd g alts := by
  unfold mvd
  refine List.map_congr_left fun l hl => ?_
  rw [List.map_congr_left (h l hl)]
/-- Tables that agree at the needed states make the same. -/
theorem num_eq {a : Au} (h : a.ok = true) {tl tl2 : List Int} (he : ∀ q, reachB a q = true → tl.getD q 0 = tl2.getD q 0) : numA a (reachL a) tl = numA a (reachL a) tl2 := by
  unfold numA
  rw [he _ (reach_start a)]
  congr 1
  refine List.map_congr_left fun q hq => List.map_congr_left fun alts hal => ?_
  rw [mvd_congr fun l hl x hx => ?_]
  unfold toL
  rw [he _ (reach_step (q := q) (List.mem_filter.1 hq).2 (mem_needs rfl hal hl hx))]
theorem tab_at {a : Au} {q : Nat} (hq : q < a.moves.length) : ((List.range a.moves.length).map fun q => (cntB (reachB a) q : Int)).getD q 0 = cntB (reachB a) q := by
  rw [List.getD_eq_getElem?_getD, List.getElem?_map, List.getElem?_range hq]
  rfl
theorem cntB_at (p : Nat → Bool) : ∀ (n i : Nat) (h : i < ((List.range n).filter p).length), cntB p (((List.range n).filter p)[i]) = i := by
  intro n
  induction n with
  | zero => intro i h; simp at h
  | succ n ih =>
    intro i h
    have e : (List.range (n + 1)).filter p = (List.range n).filter p ++ (if p n then [n] else []) := by
      rw [List.range_succ, List.filter_append]
      congr 1
      cases hp : p n <;> simp [hp]
    by_cases hi : i < ((List.range n).filter p).length
    · have : ((List.range (n + 1)).filter p)[i] = ((List.range n).filter p)[i] := by
        simp only [e]
        rw [List.getElem_append_left hi]
      rw [this, ih i hi]
    · cases hp : p n
      · rw [e, hp] at h
        simp at h
        omega
      · rw [e, hp] at h
        have hie : i = ((List.range n).filter p).length := by simp at h; omega
        have : ((List.range (n + 1)).filter p)[i]'(by rw [e, hp]; exact h) = n := by
          simp only [e, hp, if_true]
          rw [List.getElem_append_right (by omega)]
          simp
        rw [this, hie]
        rfl
end Go.Proofs.YtjpdmncafacmaaaDoor
end
/- What Plain and Reach make is a valid automaton. -/
section
set_option linter.unusedVariables false
set_option linter.unusedSimpArgs false
namespace Go.Proofs.YtjpdmncafacmaaaDoor
open Go.RowKit

theorem symOk_of {n r : Int} {l : List (List Nd)} (h1 : l.length ≤ 12) (h2 : Rises (cmpL Nd.cmp) l) (h3 : ∀ x ∈ l, x.length ≤ 24 ∧ Rises Nd.cmp x ∧ ∀ y ∈ x, 0 ≤ y.1 ∧ y.1 < r ∧ 0 ≤ y.2 ∧ y.2 < n) : symOk n (r, l) = true := by
  unfold symOk
  simp only [Bool.and_eq_true, decide_eq_true_eq, List.all_eq_true]
  refine ⟨⟨h1, fun x hx => ?_⟩, (rise_iff ord_alt _).2 h2⟩
  obtain ⟨q1, q2, q3⟩ := h3 x hx
  unfold altOk
  simp only [Bool.and_eq_true, decide_eq_true_eq, Bool.not_eq_true']
  refine ⟨⟨q1, List.any_eq_false.2 fun y hy => ?_⟩, (rise_iff ord_nd _).2 q2⟩
  have := q3 y hy
  simp only [badNeed, Bool.or_eq_true, decide_eq_true_eq, not_or]
  omega
theorem ok_of {a : Au} (h1 : ranksOk a.ranks = true) (h2 : 1 ≤ a.moves.length ∧ a.moves.length ≤ 6) (h3 : 0 ≤ a.start ∧ a.start < a.moves.length)
    (h4 : ∀ m ∈ a.moves, m.length = a.ranks.length ∧ ∀ f (hf : f < m.length) (hr : f < a.ranks.length), symOk a.n (a.ranks[f], m[f]) = true) : a.ok = true := by
  unfold Au.ok
  simp only [Bool.and_eq_true, decide_eq_true_eq, List.all_eq_true]
  refine ⟨⟨⟨h1, by unfold Au.n; omega⟩, by unfold Au.n; omega⟩, fun m hm => ?_⟩
  obtain ⟨q1, q2⟩ := h4 m hm
  unfold ruleOk
  simp only [Bool.and_eq_true, decide_eq_true_eq, List.all_eq_true]
  refine ⟨q1, fun p hp => ?_⟩
  obtain ⟨i, hi, rfl⟩ := List.getElem_of_mem hp
  simp only [List.length_zip] at hi
  rw [List.getElem_zip]
  exact q2 i (by omega) (by omega)
theorem smallest_sub (s : List (List Nd)) : (smallest s).Sublist s := by
  have h : (List.range s.length).map (fun i => s.getD i []) = s := by
    refine List.ext_getElem (by simp) fun i h1 h2 => ?_
    simp [h2]
  unfold smallest smallTo
  conv => rhs; rw [← h]
  exact List.filter_sublist.map _
theorem plain_ok {a : Au} (h : a.ok = true) : (plainA a).ok = true := by
  obtain ⟨h1, h2, h3, h4, h5, h6⟩ := ok_parts h
  have hn : (plainA a).moves.length = a.moves.length := by unfold plainA plainM; simp
  refine ok_of h1 (by rw [hn]; omega) (by rw [hn]; show 0 ≤ a.start ∧ a.start < _; omega) fun m hm => ?_
  obtain ⟨row, hrow, rfl⟩ := List.mem_map.1 hm
  obtain ⟨q1, q2⟩ := h6 row hrow
  refine ⟨(List.length_map _).trans q1, fun f hf hr => ?_⟩
  have hf' : f < row.length := by simpa using hf
  obtain ⟨p1, p2, p3⟩ := symOk_parts (q2 f hf' hr)
  rw [List.getElem_map]
  have hs := smallest_sub row[f]
  refine symOk_of (Nat.le_trans hs.length_le p1) (((rise_iff ord_alt _).1 p2).sublist hs) fun x hx => ?_
  obtain ⟨r1, r2, r3⟩ := p3 x (hs.subset hx)
  refine ⟨r1, (rise_iff ord_nd _).1 r2, fun y hy => ?_⟩
  have := r3 y hy
  show 0 ≤ y.1 ∧ y.1 < a.ranks[f] ∧ 0 ≤ y.2 ∧ y.2 < ((plainA a).moves.length : Int)
  rw [hn]
  exact this
theorem plain_zero (a : Au) : (plainE a = 0 → (plainV a).okR = true) ∧ (plainE a ≠ 0 → plainV a = Au.zero) := by
  unfold plainE plainV
  cases h : a.ok
  · exact ⟨fun e => by simp at e, fun _ => rfl⟩
  · refine ⟨fun _ => ?_, fun e => by simp at e⟩
    rw [← ok_eq]
    exact plain_ok h
theorem cntB_succ (p : Nat → Bool) (q : Nat) : cntB p (q + 1) = cntB p q + if p q then 1 else 0 := by
  unfold cntB
  rw [List.range_succ, List.filter_append, List.length_append]
  congr 1
  cases h : p q <;> simp [h]
theorem cntB_mono (p : Nat → Bool) {i j : Nat} (h : i ≤ j) : cntB p i ≤ cntB p j := by
  induction h with
  | refl => exact Nat.le_refl _
  | step _ ih => rw [cntB_succ]; omega
theorem cntB_lt (p : Nat → Bool) {q n : Nat} (h : p q = true) (hq : q < n) : cntB p q < cntB p n := by
  have h1 := cntB_succ p q
  rw [h] at h1
  have := cntB_mono p (show q + 1 ≤ n by omega)
  simp at h1
  omega
theorem reach_ok {a : Au} (h : a.ok = true) : (reachA a).ok = true := by
  obtain ⟨h1, h2, h3, h4, h5, h6⟩ := ok_parts h
  have hn : (reachA a).moves.length = cntB (reachB a) a.moves.length := by
    unfold reachA numA reachL cntB
    simp
  have hle : cntB (reachB a) a.moves.length ≤ a.moves.length := by
    unfold cntB
    exact Nat.le_trans (List.length_filter_le _ _) (by simp)
  have hst := cntB_lt (reachB a) (reach_start a) h5
  refine ok_of h1 (by rw [hn]; omega) ?_ fun m hm => ?_
  · rw [hn]
    show 0 ≤ ((List.range a.moves.length).map fun q => (cntB (reachB a) q : Int)).getD a.start.toNat 0 ∧ ((List.range a.moves.length).map fun q => (cntB (reachB a) q : Int)).getD a.start.toNat 0 < _
    rw [tab_at h5]
    omega
  · obtain ⟨q, hq, rfl⟩ := List.mem_map.1 hm
    obtain ⟨hq1, hq2⟩ := List.mem_filter.1 hq
    have hq1 := List.mem_range.1 hq1
    have hrow : a.moves.getD q [] = a.moves[q] := by simp [hq1]
    obtain ⟨q1, q2⟩ := h6 _ (List.getElem_mem hq1)
    simp only [hrow]
    refine ⟨(List.length_map _).trans q1, fun f hf hr => ?_⟩
    have hf' : f < (a.moves[q]).length := by simpa using hf
    obtain ⟨p1, p2, p3⟩ := symOk_parts (q2 f hf' hr)
    rw [List.getElem_map]
    refine symOk_of (Nat.le_trans (rmv_len (toL ((List.range a.moves.length).map fun q => (cntB (reachB a) q : Int))) _) p1) (setL_rises ord_alt _) fun x hx => ?_
    obtain ⟨l, hl, rfl⟩ := List.mem_map.1 ((setL_mem ord_alt _ _).1 hx)
    obtain ⟨r1, r2, r3⟩ := p3 l hl
    refine ⟨Nat.le_trans (ndSet_len _) (by simpa using r1), setL_rises ord_nd _, fun y hy => ?_⟩
    obtain ⟨z, hz, rfl⟩ := List.mem_map.1 ((setL_mem ord_nd _ _).1 hy)
    have h9 := r3 z hz
    have hz2 : reachB a z.2.toNat = true := reach_step hq2 (mem_needs hrow (List.getElem_mem hf') hl hz)
    have hz3 := reach_lt h hz2
    have hz4 := cntB_lt (reachB a) hz2 hz3
    show 0 ≤ z.1 ∧ z.1 < a.ranks[f] ∧ 0 ≤ ((List.range a.moves.length).map fun q => (cntB (reachB a) q : Int)).getD z.2.toNat 0 ∧ ((List.range a.moves.length).map fun q => (cntB (reachB a) q : Int)).getD z.2.toNat 0 < ((reachA a).moves.length : Int)
    rw [hn, tab_at hz3]
    omega
theorem reach_zero (a : Au) : (reachE a = 0 → (reachV a).okR = true) ∧ (reachE a ≠ 0 → reachV a = Au.zero) := by
  unfold reachE reachV
  cases h : a.ok
  · exact ⟨fun e => by simp at e, fun _ => rfl⟩
  · refine ⟨fun _ => ?_, fun e => by simp at e⟩
    rw [← ok_eq]
    exact reach_ok h
end Go.Proofs.YtjpdmncafacmaaaDoor
end
/- numbered's closure: a need's state by a table. -/
section
set_option linter.unusedVariables false
set_option linter.unusedSimpArgs false
namespace Go.Proofs.YtjpdmncafacmaaaDoor
open Go.RowKit

set_option maxRecDepth 20000 in
theorem numD_calls (x : Nd) (tl : List Int) (w : World) (g : Nat) (v : Value) (hg : w.cell? ⟨g, 0, none⟩ = some v) (hv : SlO w 1 (rdO IntR) tl v) (h1 : 0 ≤ x.2) (h2 : x.2 < tl.length) :
    Calls Tryd.prog 70 #[.agg #[.int .i64 x.1, .int .i64 x.2], .pointer (some ⟨g, 0, none⟩)] w (RetD w (.agg #[.int .i64 (toL tl x).1, .int .i64 (toL tl x).2])) := by
  have hlt := World.block_lt_of_cell? _ _ hg
  have hl : g < w.heap.size := by simpa using hlt
  have hx : x.2.toNat < tl.length := by omega
  obtain ⟨A, c, rfl, hc, hm⟩ := hv.val
  obtain ⟨b, o, p0, rfl, hb, hp0, hpt⟩ := hv.at1 x.2.toNat hx
  obtain ⟨hpv, _⟩ := hpt
  simp only [List.cons.injEq, and_true] at hpv
  subst hpv
  have he : Hid ((toL tl x).2 = tl[x.2.toNat]) := by unfold Hid toL; simp [hx]
  have he1 : Hid ((toL tl x).1 = x.1) := rfl
  generalize toL tl x = y at *
  generalize tl[x.2.toNat] = z at *
  have hb' : b < w.heap.size := hb
  have hp1 := frm_cell (grew_then_alloc (grew_alloc w (.cells #[.int .i64 x.1, .int .i64 x.2] 44)) (.cells #[.int .i64 0, .int .i64 0] 44)).1 hp0
  have hg1 := frm_cell (grew_then_alloc (grew_alloc w (.cells #[.int .i64 x.1, .int .i64 x.2] 44)) (.cells #[.int .i64 0, .int .i64 0] 44)).1 hg
  have hG := grew_then_alloc (grew_alloc w (.cells #[.int .i64 x.1, .int .i64 x.2] 44)) (.cells #[.int .i64 0, .int .i64 0] 44)
  clear hv
  go_enter Tryd.func70, Tryd.ntmps70
  go_wp2_with fail
  have hx2 := (TwoAt.new w (.int .i64 x.1) (.int .i64 x.2) 44).frm (frm_alloc _ (.cells #[.int .i64 0, .int .i64 0] 44))
  have hz2 := TwoAt.new (w.alloc (.cells #[.int .i64 x.1, .int .i64 x.2] 44)) (.int .i64 0) (.int .i64 0) 44
  rw [World.size_alloc] at hz2
  obtain ⟨w2, hw2⟩ : ∃ w2, w2 = (w.alloc (.cells #[.int .i64 x.1, .int .i64 x.2] 44)).alloc (.cells #[.int .i64 0, .int .i64 0] 44) := ⟨_, rfl⟩
  rw [← hw2] at hx2 hz2 hp1 hg1 hG ⊢
  clear hw2
  obtain ⟨x0, x1, _, _⟩ := hx2.cells
  obtain ⟨z0, z1, zf0, zf1⟩ := hz2.cells
  go_still_tail 8, (by kernel_rfl)
  go_wp2_with fail
  refine bodyPost_ret (v := .agg #[.int .i64 x.1, .int .i64 z]) (by simp [results, Tryd.results70, go_sem, z0, z1, zf0, zf1]) rfl ⟨by rw [he.out, he1.out], ?_⟩
  exact grew_trans (grew_set_new (grew_set_new hG (by omega) _ _) (by omega) _ _) (grew_drew _)
end Go.Proofs.YtjpdmncafacmaaaDoor
end
/- mix's numbered: the given states, in the given order, states changed by a table. -/
section
set_option linter.unusedVariables false
set_option linter.unusedSimpArgs false
namespace Go.Proofs.YtjpdmncafacmaaaDoor
open Go.RowKit

theorem mvd_small {tl : List Int} {alts : List (List Nd)} (h : ∀ l ∈ alts, ∀ x ∈ l, (0 ≤ x.1 ∧ x.1 < 4) ∧ 0 ≤ x.2 ∧ x.2 < tl.length) (htb : ∀ t ∈ tl, 0 ≤ t ∧ t ≤ 63) : ∀ l ∈ mvd (toL tl) alts, ∀ x ∈ l, Nd.small x := by
  intro l hl x hx
  obtain ⟨l', hl', rfl⟩ := List.mem_map.1 hl
  obtain ⟨x', hx', rfl⟩ := List.mem_map.1 ((setL_mem ord_nd _ _).1 hx)
  obtain ⟨h1, h2, h3⟩ := h l' hl' x' hx'
  have hlt : x'.2.toNat < tl.length := by omega
  have h4 := htb _ (List.getElem_mem hlt)
  unfold Nd.small toL
  rw [List.getD_eq_getElem?_getD, List.getElem?_eq_getElem hlt, Option.getD_some]
  show (0 ≤ x'.1 ∧ x'.1 ≤ 63) ∧ 0 ≤ tl[x'.2.toNat] ∧ tl[x'.2.toNat] ≤ 63
  omega
def rowQ (a : Au) (tl : List Int) (q : Nat) : List (List (List Nd)) := (a.moves.getD q []).map fun alts => altSet (mvd (toL tl) alts)
def altT (tl : List Int) (alts : List (List Nd)) : List (List Nd) := altSet (mvd (toL tl) alts)
theorem altT_len (tl : List Int) (alts : List (List Nd)) : (altT tl alts).length ≤ alts.length := rmv_len (toL tl) alts
set_option maxRecDepth 100000 in
set_option maxHeartbeats 4000000 in
theorem numbered_calls (a : Au) (hok : a.ok = true) (qs : List Nat) (hqs : ∀ q ∈ qs, q < a.moves.length) (hql : qs.length ≤ 6) (tl : List Int) (htl : tl.length = a.moves.length) (htb : ∀ t ∈ tl, 0 ≤ t ∧ t ≤ 63) (w : World) (r m u v : Value)
    (ha : rdO AuR w a [r, .int .i64 a.start, m]) (hu : SlO w 1 (rdO IntR) (qs.map fun q : Nat => (q : Int)) u) (hv : SlO w 1 (rdO IntR) tl v) :
    Calls Tryd.prog 34 #[.agg #[r, .int .i64 a.start, m], u, v] w fun e w' => ∃ r m, e = .returned (.agg #[r, .int .i64 (numA a qs tl).start, m]) ∧ Grew w w' ∧ WR AuR (Fresh w w') w' (numA a qs tl) [r, .int .i64 (numA a qs tl).start, m] := by
  obtain ⟨hR, hM, hs1, hs2⟩ := AuR.parts ha
  obtain ⟨A, c, rfl, hc, hlm⟩ := hR.val
  obtain ⟨B, d, rfl, hd, hlm2⟩ := hM.val
  obtain ⟨C, cu, rfl, hcu, hlu⟩ := hu.val
  obtain ⟨D, ct, rfl, hct, hlt⟩ := hv.val
  obtain ⟨_, hm1, hm6, hst0, hst1, _⟩ := ok_parts hok
  have hstl : a.start.toNat < tl.length := by omega
  obtain ⟨bt, ot, p0, rfl, hbt, hp0, hpt⟩ := hv.at1 a.start.toNat hstl
  obtain ⟨hpv, hst2, hst3⟩ := hpt
  simp only [List.cons.injEq, and_true] at hpv
  subst hpv
  have hste : Hid ((numA a qs tl).start = tl[a.start.toNat]) := by unfold Hid numA; simp [hstl]
  have hstb := htb _ (List.getElem_mem hstl)
  rw [List.length_map] at hcu hlu
  rw [List.length_map]
  obtain ⟨w2, hw2⟩ : ∃ w2, w2 = ((w.alloc (.cells #[.slice A a.ranks.length c, .int .i64 a.start, .slice B a.moves.length d] 25)).alloc (.cells #[.slice (some ⟨bt, ot, none⟩) tl.length ct] 22)).alloc (.cells #[.slice none 0 0, .int .i64 0, .slice none 0 0] 25) := ⟨_, rfl⟩
  have hG2 : Grew w w2 := by rw [hw2]; exact grew_then_alloc (grew_then_alloc (grew_alloc _ _) _) _
  have xa : ThreeAt w2 w.heap.size (.slice A a.ranks.length c) (.int .i64 a.start) (.slice B a.moves.length d) 25 := by
    rw [hw2]; exact ((ThreeAt.new w _ _ _ _).frm (frm_alloc _ _)).frm (frm_alloc _ _)
  have xv : OneAt w2 (w.heap.size + 1) (.slice (some ⟨bt, ot, none⟩) tl.length ct) 22 := by
    have h := OneAt.new (w.alloc (.cells #[.slice A a.ranks.length c, .int .i64 a.start, .slice B a.moves.length d] 25)) (.slice (some ⟨bt, ot, none⟩) tl.length ct) 22
    rw [World.size_alloc] at h
    rw [hw2]; exact h.frm_of (frm_alloc _ _)
  have xo : ThreeAt w2 (w.heap.size + 2) (.slice none 0 0) (.int .i64 0) (.slice none 0 0) 25 := by
    have h := ThreeAt.new ((w.alloc (.cells #[.slice A a.ranks.length c, .int .i64 a.start, .slice B a.moves.length d] 25)).alloc (.cells #[.slice (some ⟨bt, ot, none⟩) tl.length ct] 22)) (.slice none 0 0) (.int .i64 0) (.slice none 0 0) 25
    rw [World.size_alloc, World.size_alloc] at h
    rw [hw2]; exact h
  have hs2' := xo.lt
  have hxv0 := xv.cell
  have hxp := frm_cell hG2.1 hp0
  have HQS := Lib.hid hqs
  have HTB := Lib.hid htb
  have HOK := Lib.hid hok
  have HV := Lib.hid hv
  have HU := Lib.hid hu
  have HM := Lib.hid hM
  have hlr := (ranksOk_parts (ok_parts hok).1).1
  generalize tl[a.start.toNat] = st at *
  have HW2 := Lib.hid hw2
  have is0 : (0 : Int) ≤ a.start := hst0
  have is1 : a.start < tl.length := by omega
  have HTL := Lib.hid htl
  clear ha hqs htb hok hv hu hM htl hstl
  go_enter Tryd.func34, Tryd.ntmps34
  go_wp2_with fail
  rw [← HW2.out]
  clear hw2
  go_cut [7] (fun s5 wx => ∃ g, s5 = .pointer (some ⟨g, 0, none⟩) ∧ JMid w2 g a.ranks st wx)
  case first =>
    obtain ⟨xa0, xa1, xa2⟩ := xa.cells
    have HK0 : Hid (∀ wx, wx = w2.drew → (Grew w2 wx ∧ wx.cell? ⟨w.heap.size, 0, none⟩ = some (.slice A a.ranks.length c) ∧ wx.cell? ⟨w.heap.size, 1, none⟩ = some (.int .i64 a.start) ∧ wx.cell? ⟨w.heap.size + 1, 0, none⟩ = some (.slice (some ⟨bt, ot, none⟩) tl.length ct) ∧ wx.cell? ⟨bt, ot + a.start.toNat, none⟩ = some (.int .i64 st))) := by
      rintro wx rfl
      exact ⟨grew_drew _, xa0, xa1, hxv0, hxp⟩
    have hks : ∀ v1 v2 : World, Grew v1 v2 → (Grew w2 v1 ∧ v1.cell? ⟨w.heap.size, 0, none⟩ = some (.slice A a.ranks.length c) ∧ v1.cell? ⟨w.heap.size, 1, none⟩ = some (.int .i64 a.start) ∧ v1.cell? ⟨w.heap.size + 1, 0, none⟩ = some (.slice (some ⟨bt, ot, none⟩) tl.length ct) ∧ v1.cell? ⟨bt, ot + a.start.toNat, none⟩ = some (.int .i64 st)) → (Grew w2 v2 ∧ v2.cell? ⟨w.heap.size, 0, none⟩ = some (.slice A a.ranks.length c) ∧ v2.cell? ⟨w.heap.size, 1, none⟩ = some (.int .i64 a.start) ∧ v2.cell? ⟨w.heap.size + 1, 0, none⟩ = some (.slice (some ⟨bt, ot, none⟩) tl.length ct) ∧ v2.cell? ⟨bt, ot + a.start.toNat, none⟩ = some (.int .i64 st)) :=
      fun v1 v2 hf h => ⟨grew_trans h.1 hf, frm_cell hf.1 h.2.1, frm_cell hf.1 h.2.2.1, frm_cell hf.1 h.2.2.2.1, frm_cell hf.1 h.2.2.2.2⟩
    have HKA : Hid (∀ (v1 : World) (o : Obj), (Grew w2 v1 ∧ v1.cell? ⟨w.heap.size, 0, none⟩ = some (.slice A a.ranks.length c) ∧ v1.cell? ⟨w.heap.size, 1, none⟩ = some (.int .i64 a.start) ∧ v1.cell? ⟨w.heap.size + 1, 0, none⟩ = some (.slice (some ⟨bt, ot, none⟩) tl.length ct) ∧ v1.cell? ⟨bt, ot + a.start.toNat, none⟩ = some (.int .i64 st)) → (Grew w2 (v1.alloc o) ∧ (v1.alloc o).cell? ⟨w.heap.size, 0, none⟩ = some (.slice A a.ranks.length c) ∧ (v1.alloc o).cell? ⟨w.heap.size, 1, none⟩ = some (.int .i64 a.start) ∧ (v1.alloc o).cell? ⟨w.heap.size + 1, 0, none⟩ = some (.slice (some ⟨bt, ot, none⟩) tl.length ct) ∧ (v1.alloc o).cell? ⟨bt, ot + a.start.toNat, none⟩ = some (.int .i64 st))) := fun v1 o h => hks _ _ (grew_alloc _ _) h
    have HKC : Hid (∀ (v1 : World) (g o : Nat) (x : Value), w2.heap.size ≤ g → (Grew w2 v1 ∧ v1.cell? ⟨w.heap.size, 0, none⟩ = some (.slice A a.ranks.length c) ∧ v1.cell? ⟨w.heap.size, 1, none⟩ = some (.int .i64 a.start) ∧ v1.cell? ⟨w.heap.size + 1, 0, none⟩ = some (.slice (some ⟨bt, ot, none⟩) tl.length ct) ∧ v1.cell? ⟨bt, ot + a.start.toNat, none⟩ = some (.int .i64 st)) → (Grew w2 (v1.setCell ⟨g, o, none⟩ x) ∧ (v1.setCell ⟨g, o, none⟩ x).cell? ⟨w.heap.size, 0, none⟩ = some (.slice A a.ranks.length c) ∧ (v1.setCell ⟨g, o, none⟩ x).cell? ⟨w.heap.size, 1, none⟩ = some (.int .i64 a.start) ∧ (v1.setCell ⟨g, o, none⟩ x).cell? ⟨w.heap.size + 1, 0, none⟩ = some (.slice (some ⟨bt, ot, none⟩) tl.length ct) ∧ (v1.setCell ⟨g, o, none⟩ x).cell? ⟨bt, ot + a.start.toNat, none⟩ = some (.int .i64 st))) := by
      intro v1 g o x hg h
      refine ⟨grew_set_new h.1 hg _ _, ?_, ?_, ?_, ?_⟩
      · rw [World.cell?_setCell_other _ _ _ _ (by intro e; injection e with e; omega)]; exact h.2.1
      · rw [World.cell?_setCell_other _ _ _ _ (by intro e; injection e with e; omega)]; exact h.2.2.1
      · rw [World.cell?_setCell_other _ _ _ _ (by intro e; injection e with e; omega)]; exact h.2.2.2.1
      · have hbt' : bt < w.heap.size := hbt
        rw [World.cell?_setCell_other _ _ _ _ (by intro e; injection e with e; omega)]; exact h.2.2.2.2
    have HK := Lib.hid hks
    have HC : Hid (∀ wx, Grew w2 wx → Calls Tryd.prog 36 #[.slice A a.ranks.length c] wx fun e w' => ∃ u, e = .returned u ∧ Grew wx w' ∧ Own IntR w' wx.heap.size 3 1 (fun _ => True) u a.ranks) := fun wx hg => cloneI_calls a.ranks wx _ (hR.frm (grew_trans hG2 hg).1 (stays_rd moves_int)) (by omega)
    clear hks
    go_region_held3 (fun wx => (Grew w2 wx ∧ wx.cell? ⟨w.heap.size, 0, none⟩ = some (.slice A a.ranks.length c) ∧ wx.cell? ⟨w.heap.size, 1, none⟩ = some (.int .i64 a.start) ∧ wx.cell? ⟨w.heap.size + 1, 0, none⟩ = some (.slice (some ⟨bt, ot, none⟩) tl.length ct) ∧ wx.cell? ⟨bt, ot + a.start.toNat, none⟩ = some (.int .i64 st))) (first | exact HK0.out _ rfl | exact HK.out _ _ (by assumption) (by assumption) | exact HKA.out _ _ (by assumption) | exact HKC.out _ _ _ _ (by omega) (HKC.out _ _ _ _ (by omega) (HKC.out _ _ _ _ (by omega) (by assumption)))) ((go_at_call 36; refine (HC.out _ (And.left (by assumption))).mono ?_; rintro e v5 ⟨u5, rfl, hg5, ho5⟩; obtain ⟨Au5, cu5, rfl, hcu5⟩ := ho5.val; obtain ⟨hcc5, hcf5⟩ := grew_cells hg5; have hS5 := HK.out _ _ hg5 (by assumption)))
    · go_wp2_with fail
      go_meet
      case rel => exact ⟨_, rfl, JMid.one (grew_drew _) hg5 ho5 hlr⟩
    · go_wp2_with fail
      go_meet
      case rel => exact ⟨_, rfl, JMid.two (grew_trans (grew_alloc _ _) (grew_drew _)) (Nat.le_refl _) (ThreeAt.new _ _ _ _ _) hg5 ho5 hlr⟩
  case rest =>
    obtain ⟨g, rfl, r5, hG5, hg4, hO5, hR5⟩ := hcut
    obtain ⟨Ar, cr, hr5⟩ : ∃ Ar cr, r5 = .slice Ar a.ranks.length cr := by
      obtain ⟨v', hve, hsl⟩ := id hR5
      obtain ⟨A9, c9, rfl, _⟩ := hsl.val
      simp only [List.cons.injEq, and_true] at hve
      exact ⟨_, _, hve⟩
    subst hr5
    have hgs : g < wc.heap.size := hO5.1.lt
    have hGw5 : Grew w wc := grew_trans hG2 hG5
    have hws : w.heap.size + 2 < g := by omega
    have HR5 := Lib.hid hR5
    have HGW5 := Lib.hid hGw5
    have hs5 := hGw5.1.size
    have hb5 : Hid (∀ wr, GrewG g wc.heap.size wc wr → ∀ b, b < w.heap.size → wr.heap[b]? = w.heap[b]?) := fun wr h b hb => (h.block b (by omega) (by omega)).trans (frm_lt HGW5.out.1 b hb)
    have HXA : Hid (∀ wr, GrewG g wc.heap.size wc wr → ThreeAt wr w.heap.size (.slice A a.ranks.length c) (.int .i64 a.start) (.slice B a.moves.length d) 25 ∧ wr.cell? ⟨w.heap.size + 1, 0, none⟩ = some (.slice (some ⟨bt, ot, none⟩) tl.length ct)) := fun wr h =>
      ⟨(xa.frm hG5.1).move (h.block _ (by omega) (by omega)), (xv.frm_of hG5.1).move (h.block _ (by omega) (by omega)) |>.cell⟩
    have hsl5 := xo.frm hG5.1
    have HXO := Lib.hid hsl5
    clear hR5 hGw5 hsl5 hxp hxv0
    go_wp2_with fail
    go_loopw [24] (fun i wr => ∃ k : Nat, k ≤ qs.length ∧ i = .int .i64 k ∧ GrewG g wc.heap.size wc wr ∧ ∃ mv, OutAt wr g wc.heap.size (.slice Ar a.ranks.length cr) st mv ((qs.take k).map (rowQ a tl))) (fun i _ => qs.length - (intOf i).toNat)
    case atStart => exact ⟨0, Nat.zero_le _, rfl, .refl _ _ _, _, hO5⟩
    case round =>
      obtain ⟨k, hk, rfl, hfr, mv, hO⟩ := hrel
      by_cases hlt : k < qs.length
      · have hSr := hb5.out wr hfr
        have hUr := HU.out.move (S' := fun b => b < w.heap.size) (w' := wr) (r' := IntR (fun b => b < w.heap.size) wr) (fun b hb => hb) hSr (fun x _ cs h => h)
        obtain ⟨b8, o8, p8, rfl, hb8, hp8, hpt8⟩ := hUr.at1 k (by simpa using hlt)
        obtain ⟨hpv8, _⟩ := hpt8
        simp only [List.cons.injEq, and_true, List.getElem_map] at hpv8
        subst hpv8
        have hq := HQS.out _ (List.getElem_mem hlt)
        have HT : Hid ((qs.take (k + 1)).map (rowQ a tl) = (qs.take k).map (rowQ a tl) ++ [rowQ a tl qs[k]]) := by
          unfold Hid
          rw [List.take_succ_eq_append_getElem hlt, List.map_append]
          rfl
        have HL := Lib.hid (show ((qs.take k).map (rowQ a tl)).length = k by rw [List.length_map, List.length_take]; omega)
        generalize qs[k] = q at *
        have hMr := HM.out.move (S' := fun b => b < w.heap.size) (w' := wr) (r' := RuleR (fun b => b < w.heap.size) wr) (fun b hb => hb) hSr (fun x _ cs h => moves_rule _ _ _ _ _ _ (fun b hb => hb) hSr h)
        obtain ⟨b, o, p0, rfl, hb, hp0', hpt⟩ := hMr.at1 q hq
        have HRQ : Hid (rowQ a tl q = (a.moves[q]).map (altT tl)) := by unfold Hid rowQ; rw [show a.moves.getD q [] = a.moves[q] by simp [hq]]; rfl
        have HR := Lib.hid ((ok_rows HOK.out).2 _ (List.getElem_mem hq))
        have HS := Lib.hid (ok_state HOK.out _ (List.getElem_mem hq))
        have hrl := HR.out.1
        clear hMr hSr hUr
        generalize a.moves[q] = row at *
        obtain ⟨v2, hve2, hRow⟩ := hpt
        obtain rfl : p0 = v2 := by simpa using hve2
        obtain ⟨A2, c2, rfl, hc2, hm2⟩ := hRow.val
        clear hve2
        have HO := Lib.hid hO
        have hlg := hO.1.lt
        have hgn := hO.2.1
        have hnw := hO.2.2.1
        have HRow := Lib.hid hRow
        have HFR := Lib.hid hfr
        obtain ⟨⟨xa0, xa1, xa2⟩, hxv1⟩ : _ ∧ _ := ⟨(HXA.out wr hfr).1.cells, (HXA.out wr hfr).2⟩
        have iq0 : (0 : Int) ≤ (q : Int) := by omega
        have iq1 : (q : Int) < a.moves.length := by omega
        clear hO hRow hfr
        go_wp2_with fail
        obtain ⟨wo, hwo⟩ : ∃ wo : World, wo = wr := ⟨_, rfl⟩
        subst hwo
        go_loopw [10, 34] (fun u i wq => ∃ j : Nat, j ≤ row.length ∧ i = .int .i64 j ∧ Grew wo wq ∧ Own (WR AltsR) wq wo.heap.size 40 1 (fun b => wo.heap.size ≤ b) u ((row.take j).map (altT tl))) (fun _ i _ => row.length - (intOf i).toNat)
        case atStart => exact ⟨0, Nat.zero_le _, rfl, grew_refl _, Own.nil _ _ _ _ _ _⟩
        case round =>
          obtain ⟨j, hj, rfl, hfq, hQ⟩ := hrel
          obtain ⟨Aq, cq, he, hcq⟩ := hQ.val
          have hlj : ((row.take j).map (altT tl)).length = j := by rw [List.length_map, List.length_take]; omega
          rw [hlj] at he hcq
          subst he
          have hsq := hfq.1.size
          by_cases hltj : j < row.length
          · have hSq : ∀ b, b < w.heap.size → wr.heap[b]? = wo.heap[b]? := fun b hb => frm_lt hfq.1 b (by omega)
            have hRq := HRow.out.move (S' := fun b => b < w.heap.size) (w' := wr) (r' := AltsR (fun b => b < w.heap.size) wr) (fun b hb => hb) hSq (fun x _ cs h => moves_alts _ _ _ _ _ _ (fun b hb => hb) hSq h)
            obtain ⟨b3, o3, q0, rfl, hb3, hq0, hqt⟩ := hRq.at1 j hltj
            have HT2 : Hid ((row.take (j + 1)).map (altT tl) = (row.take j).map (altT tl) ++ [altT tl row[j]]) := by
              unfold Hid
              rw [List.take_succ_eq_append_getElem hltj, List.map_append]
              rfl
            have HAl2 := Lib.hid (HR.out.2 _ (List.getElem_mem hltj))
            have HAS := Lib.hid (HS.out _ (List.getElem_mem hltj))
            clear hRq hSq
            generalize row[j] = alts at *
            obtain ⟨v3, hve3, hAl⟩ := id hqt
            obtain rfl : q0 = v3 := by simpa using hve3
            obtain ⟨A3, c3, rfl, hc3, hm3⟩ := hAl.val
            have hal1 := HAl2.out.1
            have HBD : Hid (∀ l ∈ alts, ∀ x ∈ l, (0 ≤ x.1 ∧ x.1 < 4) ∧ 0 ≤ x.2 ∧ x.2 < tl.length) := fun l hl x hx => by
              have h1 := (HAl2.out.2 l hl).2 x hx
              have h2 := HAS.out l hl x hx
              have h3 := HTL.out
              omega
            have hxw : wr.cell? ⟨w.heap.size + 1, 0, none⟩ = some (.slice (some ⟨bt, ot, none⟩) tl.length ct) := frm_cell hfq.1 hxv1
            have HSW : Hid (SlO wr 1 (rdO IntR) tl (.slice (some ⟨bt, ot, none⟩) tl.length ct)) := by
              have h := HV.out.move (S' := fun b => b < wr.heap.size) (w' := wr) (r' := IntR (fun b => b < wr.heap.size) wr) (fun b hb => by have hb' : b < w.heap.size := hb; omega) (fun b hb => (frm_lt hfq.1 b (by have hb' : b < w.heap.size := hb; omega)).trans (hb5.out wo HFR.out b hb)) (fun x _ cs h => h)
              exact h
            have HMV := Lib.hid (moved_calls alts (toL tl) 70 #[.pointer (some ⟨w.heap.size + 1, 0, none⟩)] wr (.slice A3 alts.length c3) (enters_of Tryd.func70 (by kernel_rfl) rfl) (fun l hl x hx => by
                have hbd := HBD.out l hl x hx
                refine ⟨fun w' hw' => numD_calls x tl w' _ _ (frm_cell hw'.1 hxw) (HSW.out.frm hw'.1 (stays_rd moves_int)) hbd.2.1 hbd.2.2, ?_⟩
                have hlx : x.2.toNat < tl.length := by omega
                have h4 := HTB.out _ (List.getElem_mem hlx)
                have he : (toL tl x).2 = tl[x.2.toNat] := by unfold toL; simp [hlx]
                have he1 : (toL tl x).1 = x.1 := rfl
                unfold Nd.small
                rw [he, he1]
                omega)
              (moves_alts _ _ _ _ _ _ (fun b hb => by omega) (fun _ _ => rfl) hqt) (by omega) (fun l hl => Nat.le_trans (HAl2.out.2 l hl).1 (by omega)))
            have HQ := Lib.hid hQ
            have HLJ := Lib.hid hlj
            have HFQ := Lib.hid hfq
            clear hQ hlj hqt hAl hve3 hfq
            go_wp2_with fail
            refine HMV.out.mono ?_
            rintro e w4 ⟨u4, rfl, hf4, hO4⟩
            have hlmv : (mvd (toL tl) alts).length = alts.length := by unfold mvd; rw [List.length_map]
            have hlt4 := hO4.lt
            have HON := Lib.hid (once_calls (mvd (toL tl) alts) (mvd_small HBD.out HTB.out) (by rw [hlmv]; omega) w4 u4 hO4)
            obtain ⟨A4, c4, rfl, hc4⟩ := hO4.val
            have HLT4 := Lib.hid hlt4
            have HLMV := Lib.hid hlmv
            clear hO4 hlt4 hlmv
            generalize (mvd (toL tl) alts).length = ln at *
            dsimp only
            go_wp2_with fail
            refine HON.out.mono ?_
            rintro e w5 ⟨A5, c5, rfl, hg5', hr5⟩
            have hf5 : Grew wr w5 := grew_own hf4 (fun b hb => (HLT4.out b hb).1) hg5'.1 hg5'.2
            have hWa : WR AltsR (fun b => wr.heap.size ≤ b ∧ b < w5.heap.size) w5 (altT tl alts) [.slice A5 (altSet (mvd (toL tl) alts)).length c5] := by
              refine moves_WR moves_alts _ _ _ _ _ _ (fun b hb => ?_) (fun _ _ => rfl) hr5
              rcases hb with hb | hb
              · exact ⟨hb.1, Nat.lt_of_lt_of_le hb.2.1 hg5'.1.size⟩
              · have := HLT4.out b hb.symm
                exact ⟨this.1, by have h2 := hg5'.1.size; omega⟩
            have hat := altT_len tl alts
            have hate : (altSet (mvd (toL tl) alts)).length = (altT tl alts).length := rfl
            rw [hate] at hWa ⊢
            have HWA := Lib.hid hWa
            clear hWa hr5
            generalize (altT tl alts).length = ln5 at *
            dsimp only
            repeat ((fail_if_success at_builtin); first | go_values | go_skip | go_guarded | go_step | go_upon)
            have hf6 : Grew wr (w5.alloc (.cells #[.slice A5 ln5 c5] 40)) := grew_then_alloc hf5 _
            have hO5 := HQ.out.kept (moves_WR moves_alts) hf6.1 (ownNone _) (by simp)
            have htw := OneAt.new w5 (.slice A5 ln5 c5) 40
            have hlen := HLJ.out
            have hs6 := hf6.1.size
            have hs55 := hf5.1.size
            have hltO := HQ.out.lt
            refine Own.app1 (moves_WR moves_alts) elem_alts hO5 rfl _ _ rfl rfl rfl (altT tl alts) [.slice A5 ln5 c5] rfl (one_at htw) ?_ ?_ (by rw [hlen]; omega) (by omega) (by omega) ?_
            · intro u hu
              simp at hu
              subst hu
              rfl
            · refine moves_WR moves_alts _ _ _ _ _ _ (fun b hb => ⟨by omega, by simp; omega, fun e => ?_⟩) (fun b hb => Below.heap_alloc _ _ _ (by omega)) HWA.out
              have := (hltO b e.symm).2
              omega
            intro v7 w7 hO7 hg7 hp7
            have hfr7 : Grew wo w7 := grew_own (grew_trans HFQ.out hf6) (fun b hb => (hltO b hb).1) hg7.1 hg7.2
            rw [← HT2.out] at hO7
            obtain ⟨A7, c7, he7, hcc7⟩ := hO7.val
            have HO7 := Lib.hid hO7
            clear hO7 hO5 htw hltO
            have hl7 : ((row.take (j + 1)).map (altT tl)).length = j + 1 := by rw [List.length_map, List.length_take]; omega
            rw [hl7] at he7
            clear hl7
            subst he7
            go_wp2_with fail
            exact ⟨⟨j + 1, by omega, by go_num, hfr7, HO7.out⟩, by simp [intOf]; omega⟩
          · obtain rfl : j = row.length := by omega
            rw [List.take_length] at hQ
            have hO1 := HO.out.grew hfq
            obtain ⟨hc0, hc1, hc2'⟩ := hO1.1.cells
            have hfz := hO1.1.free 2
            obtain ⟨Am, cm, hme, hmc⟩ := hO1.2.2.2.val
            rw [HL.out] at hme hmc
            subst hme
            have hlm2 : (row.map (altT tl)).length = row.length := by simp
            have hWq := hQ.slW moves_alts (by omega) (S := fun b => wo.heap.size ≤ b ∧ b < wr.heap.size) (fun b h1 h2 => ⟨h1, h2⟩) (fun b hb => hQ.lt b hb)
            rw [← HRQ.out] at hWq
            have HWq := Lib.hid hWq
            have HO1 := Lib.hid hO1
            clear hWq hQ hO1 hlj
            repeat ((fail_if_success at_builtin); first | go_values | go_skip | go_guarded | go_step | go_upon)
            have hf5 : Grew wr (wr.alloc (.cells #[.slice Aq row.length cq] 51)) := grew_alloc _ _
            have hO5 := (HO1.out.grew hf5)
            have htw := OneAt.new wr (.slice Aq row.length cq) 51
            have hlen := HL.out
            have hltO := hO5.2.2.2.lt
            have hltO1 := HO1.out.2.2.2.lt
            refine Own.app1 (moves_WR moves_rule) elem_rule hO5.2.2.2 rfl _ _ rfl rfl rfl (rowQ a tl q) [.slice Aq row.length cq] rfl (one_at htw) ?_ ?_ (by rw [hlen]; omega) (by omega) (by simp; omega) ?_
            · intro u hu
              simp at hu
              subst hu
              rfl
            · refine moves_WR moves_rule _ _ _ _ _ _ (fun b hb => ⟨by omega, by simp; omega, fun e => ?_⟩) (fun b hb => Below.heap_alloc _ _ _ (by omega)) HWq.out
              have hO2 := HO.out.2.2.2.lt b e.symm
              omega
            intro v7 w7 hO7 hg7 hp7
            rw [← HT.out] at hO7
            have hT7 : ThreeAt w7 g (.slice Ar a.ranks.length cr) (.int .i64 st) (.slice Am k cm) 25 := hO5.1.move (hg7.1.block g (by simp; omega) (fun e => by have := (hltO g e.symm).1; omega))
            have hG7 : GrewG g wc.heap.size wo w7 := (GrewG.of (grew_trans hfq hf5) (by omega)).trans (.ofR hg7 (by simp; omega) (fun b hb => by have := (hltO b hb).1; omega))
            obtain ⟨A7, c7, he7, hcc7⟩ := hO7.val
            rw [show ((qs.take (k + 1)).map (rowQ a tl)).length = k + 1 by rw [List.length_map, List.length_take]; omega] at he7
            have hT8 := hT7.set2 v7
            have hO8 := hO7.kept (moves_WR moves_rule) (w' := w7.setCell ⟨g, 2, none⟩ v7) (row := some g) (frm_set (frm_refl _ _) _ _) (.inr fun e => by have := (hO7.lt g e).1; omega) (fun b hb e => by injection e with e; omega)
            have HG8 := Lib.hid (HFR.out.trans (hG7.set 2 v7))
            obtain ⟨hd0, hd1, hd2⟩ := hT7.cells
            have hfz7 := hT7.free 2
            have HO8 := Lib.hid (show OutAt (w7.setCell ⟨g, 2, none⟩ v7) g wc.heap.size (.slice Ar a.ranks.length cr) st v7 ((qs.take (k + 1)).map (rowQ a tl)) from ⟨hT8, hgn, by have := hg7.1.size; simp at this ⊢; omega, hO8⟩)
            clear hO7 hO5 htw hltO hO8 hT8 hT7 hG7
            subst he7
            go_wp2_with fail
            exact ⟨⟨k + 1, by omega, by go_num, HG8.out, _, HO8.out⟩, by simp [intOf]; omega⟩
      · obtain rfl : k = qs.length := by omega
        rw [List.take_length] at hO
        have hlx : (qs.map (rowQ a tl)).length = qs.length := by simp
        obtain ⟨Am, cm, hme, hmc⟩ := hO.2.2.2.val
        rw [hlx] at hme hmc
        subst hme
        have hgn := hO.2.1
        have hnw := hO.2.2.1
        have hGw : Grew w wr := GrewG.grew HGW5.out (by omega) (by omega) hfr
        have hxo9 : ThreeAt wr (w.heap.size + 2) (.slice none 0 0) (.int .i64 0) (.slice none 0 0) 25 := HXO.out.move (hfr.block _ (by omega) (by omega))
        have hsl9 := hO.2.2.2.slW moves_rule (S := fun q => w2.heap.size ≤ q ∧ q < wr.heap.size) (by rw [hlx]; omega) (fun q h1 h2 => ⟨by have := hG5.1.size; omega, h2⟩) (fun q hq => by have := hO.2.2.2.lt q hq; have := hG5.1.size; omega)
        have hrk9 : WR (RowS 1 IntR) (fun q => w2.heap.size ≤ q ∧ q < wr.heap.size) wr a.ranks [.slice Ar a.ranks.length cr] :=
          moves_WR (moves_row moves_int) _ _ _ _ _ _ (fun q hq => ⟨hq.1, by have := hq.2.1; omega⟩) (fun q hq => hfr.block q hq.2.1 hq.2.2) HR5.out
        have HAU : Hid (WR AuR (fun q => w2.heap.size ≤ q ∧ q < wr.heap.size) wr (numA a qs tl) [.slice Ar a.ranks.length cr, .int .i64 st, .slice Am qs.length cm]) :=
          ⟨.slice Ar a.ranks.length cr, _, by rw [hste.out], hrk9, hsl9, by rw [hste.out]; omega, by rw [hste.out]; omega⟩
        obtain ⟨he0, he1, he2⟩ := hO.1.cells
        obtain ⟨kx0, kx1, kx2⟩ := hxo9.cells
        have kxf := hxo9.free
        have kxf0 := kxf 0
        have kxf1 := kxf 1
        have kxf2 := kxf 2
        have HGW := Lib.hid hGw
        have hszr := hGw.1.size
        clear hO hsl9 hrk9 kxf hGw hxo9
        go_wp2_with fail
        refine bodyPost_ret (v := .agg #[.slice Ar a.ranks.length cr, .int .i64 st, .slice Am qs.length cm]) (by simp [results, Tryd.results34, go_sem, kx0, kx1, kx2, kxf0, kxf1, kxf2]) rfl ⟨.slice Ar a.ranks.length cr, .slice Am qs.length cm, ?_, ?_, ?_⟩
        · rw [hste.out]
        · exact grew_set_new (grew_set_new (grew_set_new HGW.out (by omega) _ _) (by omega) _ _) (by omega) _ _
        · rw [hste.out]
          refine moves_WR moves_au _ _ _ _ _ _ (fun q hq => ⟨by omega, by simp; omega⟩) (fun q hq => ?_) HAU.out
          rw [Below.heap_setCell _ _ _ _ (by show q ≠ w.heap.size + 2; omega), Below.heap_setCell _ _ _ _ (by show q ≠ w.heap.size + 2; omega), Below.heap_setCell _ _ _ _ (by show q ≠ w.heap.size + 2; omega)]
end Go.Proofs.YtjpdmncafacmaaaDoor
end
/- Rows of numbers and of truths in a block: made, read, written. -/
section
set_option linter.unusedVariables false
set_option linter.unusedSimpArgs false
namespace Go.Proofs.YtjpdmncafacmaaaDoor
open Go.RowKit

/-- A block that holds these values, not frozen. -/
def ValsAt (w : World) (g : Nat) (T : TypeId) (vs : List Value) : Prop := w.heap[g]? = some (.cells vs.toArray T (0, 0))
section
variable {w w' : World} {g : Nat} {T : TypeId} {vs : List Value}
theorem ValsAt.lt (h : ValsAt w g T vs) : g < w.heap.size := (Array.getElem?_eq_some_iff.1 h).1
theorem ValsAt.cell (h : ValsAt w g T vs) (i : Nat) : w.cell? ⟨g, i, none⟩ = vs[i]? := by
  unfold ValsAt at h
  simp [World.cell?, h]
theorem ValsAt.free (h : ValsAt w g T vs) : Unf w g := by
  intro o
  unfold ValsAt at h
  simp [World.frozen?, h]
theorem ValsAt.set (h : ValsAt w g T vs) (i : Nat) (v : Value) : ValsAt (w.setCell ⟨g, i, none⟩ v) g T (vs.set i v) := by
  unfold ValsAt at h ⊢
  simp [World.setCell, Array.getElem?_modify, h]
theorem ValsAt.move (h : ValsAt w g T vs) (hw : w'.heap[g]? = w.heap[g]?) : ValsAt w' g T vs := hw.trans h
theorem ValsAt.frm (h : ValsAt w g T vs) (hf : w.grownBy w' none) : ValsAt w' g T vs := h.move (frm_lt hf _ h.lt)
end
def intV (x : Int) : Value := .int .i64 x
def boolV (b : Bool) : Value := .bool b
theorem made_one (v : Value) (n : Nat) : madeCells #[v] n = (List.replicate n v).toArray := by
  unfold madeCells
  apply Array.ext
  · simp
  · intro i h1 h2
    simp [Nat.mod_one]
theorem mk_ints (n : Nat) (hn : n ≤ 1000) (w : World) : (Instr.makeSlice 22 (.int .i64 n) (.int .i64 n)).run Tryd.prog w = .ok (.slice (some ⟨w.heap.size, 0, none⟩) n n) (w.alloc (.cells (Array.replicate n (.int .i64 0)) 3)) := by
  obtain ⟨i, z, hi, hz, hsz, hby, hzs⟩ := elem_int.info
  have h := run_make (P := Tryd.prog) w 22 3 i z elem_int.under hi hz .i64 .i64 n n (by omega) (by omega) (by rw [hby]; omega) (by omega)
  rw [h]
  have hzc : z = .int .i64 0 := by
    have e := info_int
    rw [hi] at e
    simp at e
    rw [hz] at e
    simp at e
    exact e.1
  subst hzc
  rw [Int.toNat_natCast, hsz, Nat.mul_one, show (Value.int .i64 0).cells = #[.int .i64 0] from rfl, made_one]
  rw [List.toArray_replicate]
theorem info_bool : (Tryd.prog.info? 4).map (fun i => (i.zero, i.size, i.bytes)) = some (some (.bool false), 1, 1) := by kernel_rfl
theorem elem_bool : ElemInfo Tryd.prog 53 4 1 1 := .of Tryd.underlying53 info_bool rfl (by omega)
theorem mk_bools (n : Nat) (hn : n ≤ 1000) (w : World) : (Instr.makeSlice 53 (.int .i64 n) (.int .i64 n)).run Tryd.prog w = .ok (.slice (some ⟨w.heap.size, 0, none⟩) n n) (w.alloc (.cells (Array.replicate n (.bool false)) 4)) := by
  obtain ⟨i, z, hi, hz, hsz, hby, hzs⟩ := elem_bool.info
  have h := run_make (P := Tryd.prog) w 53 4 i z elem_bool.under hi hz .i64 .i64 n n (by omega) (by omega) (by rw [hby]; omega) (by omega)
  rw [h]
  have hzc : z = .bool false := by
    have e := info_bool
    rw [hi] at e
    simp at e
    rw [hz] at e
    simp at e
    exact e.1
  subst hzc
  rw [Int.toNat_natCast, hsz, Nat.mul_one, show (Value.bool false).cells = #[.bool false] from rfl, made_one]
  rw [List.toArray_replicate]
abbrev IntsAt (w : World) (g : Nat) (xs : List Int) : Prop := ValsAt w g 3 (xs.map intV)
abbrev BoolsAt (w : World) (g : Nat) (xs : List Bool) : Prop := ValsAt w g 4 (xs.map boolV)
theorem ints_new (w : World) (xs : List Int) : IntsAt (w.alloc (.cells (xs.map intV).toArray 3)) w.heap.size xs := by
  show (w.heap.push _)[w.heap.size]? = _
  simp
theorem bools_new (w : World) (xs : List Bool) : BoolsAt (w.alloc (.cells (xs.map boolV).toArray 4)) w.heap.size xs := by
  show (w.heap.push _)[w.heap.size]? = _
  simp
theorem ints_made (w : World) (n : Nat) : IntsAt (w.alloc (.cells (Array.replicate n (.int .i64 0)) 3)) w.heap.size (List.replicate n 0) := by
  have h := ints_new w (List.replicate n 0)
  rw [List.map_replicate, List.toArray_replicate] at h
  exact h
theorem bools_made (w : World) (n : Nat) : BoolsAt (w.alloc (.cells (Array.replicate n (.bool false)) 4)) w.heap.size (List.replicate n false) := by
  have h := bools_new w (List.replicate n false)
  rw [List.map_replicate, List.toArray_replicate] at h
  exact h
theorem IntsAt.put {w : World} {g : Nat} {xs : List Int} (h : IntsAt w g xs) (i : Nat) (x : Int) : IntsAt (w.setCell ⟨g, i, none⟩ (.int .i64 x)) g (xs.set i x) := by
  have := ValsAt.set h i (intV x)
  rw [← List.map_set] at this
  exact this
theorem BoolsAt.put {w : World} {g : Nat} {xs : List Bool} (h : BoolsAt w g xs) (i : Nat) (x : Bool) : BoolsAt (w.setCell ⟨g, i, none⟩ (.bool x)) g (xs.set i x) := by
  have := ValsAt.set h i (boolV x)
  rw [← List.map_set] at this
  exact this
theorem IntsAt.at {w : World} {g : Nat} {xs : List Int} (h : IntsAt w g xs) {i : Nat} (hi : i < xs.length) : w.cell? ⟨g, i, none⟩ = some (.int .i64 xs[i]) := by
  rw [ValsAt.cell h i]
  simp [hi, intV]
theorem BoolsAt.at {w : World} {g : Nat} {xs : List Bool} (h : BoolsAt w g xs) {i : Nat} (hi : i < xs.length) : w.cell? ⟨g, i, none⟩ = some (.bool xs[i]) := by
  rw [ValsAt.cell h i]
  simp [hi, boolV]
theorem IntsAt.sl {w : World} {g n : Nat} {xs : List Int} (h : IntsAt w g xs) (hn : n = xs.length) (hm : xs.length ≤ 1000) (hb : ∀ x ∈ xs, -9223372036854775808 ≤ x ∧ x ≤ 9223372036854775807) : SlO w 1 (rdO IntR) xs (.slice (some ⟨g, 0, none⟩) n n) := by
  subst hn
  refine ⟨_, _, rfl, Nat.le_refl _, by omega, fun _ => ⟨g, 0, rfl, ValsAt.lt h, fun i hi => ⟨[.int .i64 xs[i]], rfl, fun j hj => ?_, rfl, hb _ (List.getElem_mem hi)⟩⟩⟩
  obtain rfl : j = 0 := by omega
  simpa using h.at hi
end Go.Proofs.YtjpdmncafacmaaaDoor
end
/- mix's Reach: the states that are needed. -/
section
set_option linter.unusedVariables false
set_option linter.unusedSimpArgs false
namespace Go.Proofs.YtjpdmncafacmaaaDoor
open Go.RowKit

theorem bit_and : ∀ m, m < 64 → ∀ s, s < 6 → (m / 2 ^ s) &&& 1 = if m.testBit s then 1 else 0 := by decide
theorem bit_or_lt : ∀ m, m < 64 → ∀ s, s < 6 → m.testBit s = false → m < m ||| 2 ^ s ∧ m ||| 2 ^ s < 64 := by decide
theorem bit_or (m s t : Nat) : (m ||| 2 ^ s).testBit t = true ↔ m.testBit t = true ∨ t = s := by
  rw [Nat.testBit_or, Nat.testBit_two_pow, Bool.or_eq_true, decide_eq_true_iff]
  exact or_congr Iff.rfl ⟨Eq.symm, Eq.symm⟩
theorem bit_one (s t : Nat) : (2 ^ s).testBit t = true ↔ t = s := by
  rw [Nat.testBit_two_pow, decide_eq_true_iff]
  exact ⟨Eq.symm, Eq.symm⟩
theorem and_i64 (a : Nat) (ha : a < 64) : bits .and .i64 (a : Int) 1 = ((a &&& 1 : Nat) : Int) := by
  have hx : a &&& 1 ≤ 1 := Nat.and_le_right
  have h1 : (BitVec.ofInt 64 (a : Int)).toNat = a := by
    rw [BitVec.ofInt_natCast, BitVec.toNat_ofNat]; exact Nat.mod_eq_of_lt (by omega)
  have h2 : (BitVec.ofInt 64 (1 : Int)).toNat = 1 := by decide
  show IntKind.i64.wrap ((BitVec.ofInt 64 (a : Int) &&& BitVec.ofInt 64 (1 : Int)).toNat : Int) = _
  rw [BitVec.toNat_and, h1, h2]
  exact IntWalk.i64_in _ (by omega)
theorem bit_test (met st : Nat) (h : met < 64) (hs : st < 6) : (bits .and .i64 ((met : Int) / 2 ^ st) 1 == 0) = !met.testBit st := by
  rw [show ((met : Int) / 2 ^ st) = ((met / 2 ^ st : Nat) : Int) by rw [Int.natCast_ediv, Int.natCast_pow]; rfl, and_i64 _ (Nat.lt_of_le_of_lt (Nat.div_le_self _ _) h), bit_and met h st hs]
  cases met.testBit st <;> rfl
theorem filter_more (p : Nat → Bool) (n : Nat) (h : ∀ s, n ≤ s → p s = false) : ∀ d, (List.range (n + d)).filter p = (List.range n).filter p
  | 0 => rfl
  | d + 1 => by
    rw [show n + (d + 1) = (n + d) + 1 by omega, List.range_succ, List.filter_append, filter_more p n h d]
    simp [h (n + d) (by omega)]
theorem reach_list {a : Au} (h : a.ok = true) {met : Nat} (hm : met < 64) (he : ∀ s, met.testBit s = reachB a s) : listP met = reachL a := by
  have hn := (ok_parts h).2.2.1
  rw [bits_eq met hm]
  have e1 : (fun i : Nat => met.testBit i) = reachB a := funext he
  rw [e1]
  have := filter_more (reachB a) a.moves.length (fun s hs => by
    cases h2 : reachB a s
    · rfl
    · have := reach_lt h h2; omega) (6 - a.moves.length)
  rw [show a.moves.length + (6 - a.moves.length) = 6 by omega] at this
  exact this
/-- A table of states' new numbers, the first `k` of them laid. -/
def tlm (qs : List Nat) (n : Nat) : Nat → List Int
  | 0 => List.replicate n 0
  | k + 1 => (tlm qs n k).set (qs.getD k 0) (k : Int)
theorem tlm_len (qs : List Nat) (n : Nat) : ∀ k, (tlm qs n k).length = n
  | 0 => by simp [tlm]
  | k + 1 => by simp [tlm, tlm_len qs n k]
theorem tlm_bd (qs : List Nat) (n : Nat) : ∀ k, ∀ x ∈ tlm qs n k, 0 ≤ x ∧ x ≤ k
  | 0, x, hx => by
    have := List.eq_of_mem_replicate hx
    omega
  | k + 1, x, hx => by
    rcases List.mem_or_eq_of_mem_set hx with h | h
    · have := tlm_bd qs n k x h
      omega
    · omega
theorem tlm_at (qs : List Nat) (n : Nat) (hnd : qs.Nodup) (hq : ∀ q ∈ qs, q < n) : ∀ k, k ≤ qs.length → ∀ i (hi : i < qs.length), i < k → (tlm qs n k).getD qs[i] 0 = i
  | 0, _, i, hi, h => absurd h (Nat.not_lt_zero _)
  | k + 1, hkk, i, hi, h => by
    have hin := hq _ (List.getElem_mem hi)
    unfold tlm
    rw [List.getD_eq_getElem?_getD, List.getElem?_set]
    by_cases hik : i = k
    · subst hik
      rw [show qs.getD i 0 = qs[i] by simp [hi], if_pos rfl, if_pos (by rw [tlm_len]; exact hin)]
      rfl
    · have hik2 : i < k := by omega
      have hkl : k < qs.length := by omega
      have hne : qs.getD k 0 ≠ qs[i] := by
        rw [show qs.getD k 0 = qs[k] by simp [hkl]]
        intro e
        exact (List.pairwise_iff_getElem.1 hnd i k hi hkl hik2) e.symm
      rw [if_neg hne, ← List.getD_eq_getElem?_getD]
      exact tlm_at qs n hnd hq k (by omega) i hi hik2
theorem num_slices {S : Nat → Prop} {w : World} {V : Au} {r m : Value} (h : WR AuR S w V [r, .int .i64 V.start, m]) : ∃ A n c B p d, r = .slice A n c ∧ m = .slice B p d := by
  obtain ⟨r', m', he, ⟨v1, h1, s1⟩, ⟨v2, h2, s2⟩, _⟩ := h
  obtain ⟨A1, c1, rfl, _⟩ := s1.val
  obtain ⟨A2, c2, rfl, _⟩ := s2.val
  simp only [List.cons.injEq, and_true, true_and] at he h1 h2
  rw [h1] at he
  rw [h2] at he
  exact ⟨_, _, _, _, _, _, he.1, he.2⟩
theorem wp_scope_pass {P : Program} {ac : Act} {w : World} {Q : Exit → Act → World → Prop} {c rest : Code} (l : Nat) (J : Act → World → Prop) (μ : Act → World → Nat) (hf : findLabel c l = some (Code.skip.seq rest))
    (pass : ∀ a w, J a w → rest.wp P (Exit.jump l (fun a' w' => J a' w' ∧ μ a' w' < μ a w) Q) a w)
    (first : (∀ a w, J a w → rest.wp P (Exit.jump l J Q) a w) → c.wp P (Exit.jump l J Q) ac w) : (Code.scope c).wp P Q ac w :=
  wp_scope_jumps l J μ hf (first fun a w h => wp_mono (pass a w h) fun e a' w' hq => by
    cases e with
    | goto l' => exact ⟨hq.1, hq.2.1⟩
    | _ => exact hq) fun a w h => wp_seq (wp_skip (pass a w h))
set_option maxRecDepth 100000 in
set_option maxHeartbeats 4000000 in
theorem reach_calls (a : Au) (w : World) (hT : Tab w) (r m : Value) (ha : rdO AuR w a [r, .int .i64 a.start, m]) :
    Calls Tryd.prog 14 #[.agg #[r, .int .i64 a.start, m]] w (RetA w (reachV a) (reachE a)) := by
  obtain ⟨hR, hM, hs1, hs2⟩ := AuR.parts ha
  obtain ⟨A, c, rfl, hc, hlm⟩ := hR.val
  obtain ⟨B, d, rfl, hd, hlm2⟩ := hM.val
  have HA := Lib.hid ha
  have HTB := Lib.hid hT
  clear ha hT
  obtain ⟨w2, hw2⟩ : ∃ w2, w2 = (w.alloc (.cells #[.slice A a.ranks.length c, .int .i64 a.start, .slice B a.moves.length d] 25)).alloc (.cells #[.slice none 0 0, .int .i64 0, .slice none 0 0] 25) := ⟨_, rfl⟩
  have hG2 : Grew w w2 := by rw [hw2]; exact grew_then_alloc (grew_alloc _ _) _
  have xa : ThreeAt w2 w.heap.size (.slice A a.ranks.length c) (.int .i64 a.start) (.slice B a.moves.length d) 25 := by
    rw [hw2]; exact (ThreeAt.new w _ _ _ _).frm (frm_alloc _ _)
  have xo : ThreeAt w2 (w.heap.size + 1) (.slice none 0 0) (.int .i64 0) (.slice none 0 0) 25 := by
    have h := ThreeAt.new (w.alloc (.cells #[.slice A a.ranks.length c, .int .i64 a.start, .slice B a.moves.length d] 25)) (.slice none 0 0) (.int .i64 0) (.slice none 0 0) 25
    rw [World.size_alloc] at h
    rw [hw2]; exact h
  have hP := acheck_calls a w2 _ _ (rdO_frm moves_au hG2.1 HA.out)
  have hs2' := xo.lt
  have HM := Lib.hid hM
  cases hok : a.ok
  · rw [hok] at hP
    rw [hw2] at hP
    have HP := Lib.hid hP
    have HW2 := Lib.hid hw2
    have HJ : Hid (reachE a = 10 ∧ reachV a = Au.zero) := by
      unfold Hid reachE reachV
      rw [hok]
      exact ⟨rfl, rfl⟩
    clear hw2 hP hok hM
    go_enter Tryd.func14, Tryd.ntmps14
    go_wp2_with fail
    refine wp_scope_jumps 0 (fun _ _ => False) (fun _ _ => 0) rfl ?_ (fun _ _ h => h.elim)
    go_wp2_with fail
    refine HP.out.mono ?_
    rw [← HW2.out]
    rintro e w3 ⟨rfl, hf3⟩
    have hG3 := grew_trans hG2 hf3
    obtain ⟨xo0, xo1, xo2⟩ := (xo.frm hf3.1).cells
    have xof := (xo.frm hf3.1).free
    have xf0 := xof 0
    have xf1 := xof 1
    have xf2 := xof 2
    obtain ⟨xa0, xa1, xa2⟩ := (xa.frm hf3.1).cells
    have hs3 := (xo.frm hf3.1).lt
    dsimp only
    go_wp2_with fail
    try simp only [Exit.jump]
    refine bodyPost_ret (v := .tuple #[.agg #[.slice none 0 0, .int .i64 0, .slice none 0 0], .int .i64 10]) (by simp [results, Tryd.results14, go_sem, xo0, xo1, xo2, xf0, xf1, xf2]) rfl ⟨.slice none 0 0, .slice none 0 0, ?_, ?_, ?_⟩
    · rw [HJ.out.1, HJ.out.2]; rfl
    · exact grew_set_new (grew_set_new (grew_set_new hG3 (by omega) _ _) (by omega) _ _) (by omega) _ _
    · rw [HJ.out.2]
      exact au_zero _ _
  · rw [hok] at hP
    rw [hw2] at hP
    have HP := Lib.hid hP
    have HW2 := Lib.hid hw2
    have HOK := Lib.hid hok
    have HJ : Hid (reachE a = 0 ∧ reachV a = reachA a) := by
      unfold Hid reachE reachV
      rw [hok]
      exact ⟨rfl, rfl⟩
    obtain ⟨_, hm1, hm6, hst0, hst1, _⟩ := ok_parts hok
    obtain ⟨st0, hste⟩ : ∃ st0 : Nat, a.start = st0 := ⟨a.start.toNat, by omega⟩
    have hstn : Hid (a.start.toNat = st0) := by unfold Hid; omega
    have hst6 : st0 < 6 := by omega
    obtain ⟨hshs, hs64s⟩ := shl_i64 st0 hst6
    obtain ⟨pw, hpw⟩ : ∃ pw : Nat, pw = 2 ^ st0 := ⟨_, rfl⟩
    rw [← hpw] at hshs hs64s
    have HPW := Lib.hid hpw
    obtain ⟨J, hJ⟩ : ∃ J : Act → World → Prop, J = (fun a' w' => ∃ (met : Nat) (u6 u7 u8 u9 u10 u11 u12 u13 u14 u15 u16 u17 u18 u19 u20 u21 u22 u23 u24 u25 u26 u27 u28 u29 u30 u31 u32 u33 u34 u35 u36 u37 u38 u39 u40 u41 u42 u43 u44 u45 u46 u47 u48 u49 u50 u51 u52 u53 u54 u55 u56 u57 u58 u59 u60 u61 u62 u63 u64 u65 u66 u67 u68 u69 u70 u71 u72 u73 u74 u75 u76 u77 u78 u79 u80 u81 u82 u83 u84 u85 u86 u87 u88 u89 u90 u91 u92 : Value), met < 64 ∧ Hid (met.testBit a.start.toNat = true) ∧ Hid (∀ s, met.testBit s = true → reachB a s = true) ∧ Grew w2 w' ∧ a' = { tmps := #[.agg #[.slice A a.ranks.length c, .int .i64 a.start, .slice B a.moves.length d], .pointer (some ⟨w.heap.size, 0, none⟩), .pointer (some ⟨w.heap.size + 1, 0, none⟩), .int .i64 0, .int .i64 0, .int .i64 met, u6, u7, u8, u9, u10, u11, u12, u13, u14, u15, u16, u17, u18, u19, u20, u21, u22, u23, u24, u25, u26, u27, u28, u29, u30, u31, u32, u33, u34, u35, u36, u37, u38, u39, u40, u41, u42, u43, u44, u45, u46, u47, u48, u49, u50, u51, u52, u53, u54, u55, u56, u57, u58, u59, u60, u61, u62, u63, u64, u65, u66, u67, u68, u69, u70, u71, u72, u73, u74, u75, u76, u77, u78, u79, u80, u81, u82, u83, u84, u85, u86, u87, u88, u89, u90, u91, u92], defers := [] }) := ⟨_, rfl⟩
    have HSTE := Lib.hid hste
    have HJD := Lib.hid hJ
    clear hw2 hP hok hM hste hpw
    go_enter Tryd.func14, Tryd.ntmps14
    go_wp2_with fail
    refine wp_scope_pass 0 J (fun a' _ => 64 - (intOf (a'.tmps.getD 5 undef)).toNat) rfl ?pass fun hpass => ?first
    case first =>
      have HPASS := Lib.hid hpass
      clear hpass hJ
      go_wp2_with fail
      refine HP.out.mono ?_
      rw [← HW2.out]
      rintro e w3 ⟨rfl, hf3⟩
      obtain ⟨xa0, xa1, xa2⟩ := (xa.frm hf3.1).cells
      rw [HSTE.out] at xa1
      dsimp only
      go_wp2_with fail
      go_step3
      rename_i hK
      refine hK _ _ (HPASS.out _ _ ?_)
      rw [HJD.out]
      refine ⟨pw, _, _, _, _, _, _, _, _, _, _, _, _, _, _, _, _, _, _, _, _, _, _, _, _, _, _, _, _, _, _, _, _, _, _, _, _, _, _, _, _, _, _, _, _, _, _, _, _, _, _, _, _, _, _, _, _, _, _, _, _, _, _, _, _, _, _, _, _, _, _, _, _, _, _, _, _, _, _, _, _, _, _, _, _, _, _, _, hs64s, ?_, ?_, hf3, rfl⟩
      · unfold Hid
        rw [hstn.out, HPW.out, bit_one]
      · intro s hs
        rw [HPW.out, bit_one] at hs
        rw [hs, ← hstn.out]
        exact reach_start a
    case pass =>
      intro a1 w1 hJ1
      rw [hJ] at hJ1
      clear hJ
      obtain ⟨met, u6, u7, u8, u9, u10, u11, u12, u13, u14, u15, u16, u17, u18, u19, u20, u21, u22, u23, u24, u25, u26, u27, u28, u29, u30, u31, u32, u33, u34, u35, u36, u37, u38, u39, u40, u41, u42, u43, u44, u45, u46, u47, u48, u49, u50, u51, u52, u53, u54, u55, u56, u57, u58, u59, u60, u61, u62, u63, u64, u65, u66, u67, u68, u69, u70, u71, u72, u73, u74, u75, u76, u77, u78, u79, u80, u81, u82, u83, u84, u85, u86, u87, u88, u89, u90, u91, u92, hm64, HMS, HMR, hG1, rfl⟩ := hJ1
      have HLI := Lib.hid (list_calls met hm64 w1 (HTB.out.grew (grew_trans hG2 hG1)))
      go_wp2_with fail
      refine HLI.out.mono ?_
      rintro e wl ⟨ul, rfl, hfl, hOl⟩
      have hll : (listI met).length = (listP met).length := by unfold listI; simp
      have hl6 := bits_len met hm64
      have HSL := Lib.hid (hOl.sl moves_int (S := fun b => b < wl.heap.size) (by omega) (fun b _ h => h) (fun b _ h => h))
      obtain ⟨A8, c8, rfl, hc8⟩ := hOl.val
      rw [hll] at hc8 HSL ⊢
      clear hOl
      have hG1l := grew_trans hG1 hfl
      obtain ⟨ln, hln⟩ : ∃ ln, ln = (listP met).length := ⟨_, rfl⟩
      rw [← hln] at hl6 HSL hc8 ⊢
      have HLN := Lib.hid hln
      have HLL := Lib.hid hll
      clear hll hln
      dsimp only
      go_wp2_with fail
      go_loopw [5, 30] (fun z i wr => ∃ k : Nat, z = .int .i64 met ∧ k ≤ ln ∧ i = .int .i64 k ∧ Grew wl wr ∧ Hid (∀ j (h : j < (listP met).length), j < k → ∀ s ∈ needsOf a (listP met)[j], met.testBit s = true)) (fun _ i _ => ln - (intOf i).toNat)
      case atStart => exact ⟨0, rfl, Nat.zero_le _, rfl, grew_refl _, fun j h h0 => absurd h0 (Nat.not_lt_zero _)⟩
      case round =>
        obtain ⟨k, rfl, hk, rfl, hfr, HK⟩ := hrel
        have hGr := grew_trans hG1l hfr
        by_cases hlt : k < ln
        · have hkp : k < (listP met).length := by rw [← HLN.out]; exact hlt
          obtain ⟨b8, o8, p8, rfl, hb8, hp8', hpt8⟩ := HSL.out.at1 k (by rw [HLL.out, ← HLN.out]; exact hlt)
          have hp8 := frm_cell hfr.1 hp8'
          obtain ⟨hpv8, _⟩ := hpt8
          have hpe : (listI met)[k]'(by rw [HLL.out, ← HLN.out]; exact hlt) = (((listP met)[k] : Nat) : Int) := by unfold listI; simp
          rw [hpe] at hpv8
          simp only [List.cons.injEq, and_true] at hpv8
          subst hpv8
          have hqb : met.testBit (listP met)[k] = true := by
            have hmem : (listP met)[k] ∈ (List.range 6).filter fun i => met.testBit i := by
              rw [← bits_eq met hm64]
              exact List.getElem_mem hkp
            exact (List.mem_filter.1 hmem).2
          have HKS : Hid ((∀ s ∈ needsOf a (listP met)[k], met.testBit s = true) → ∀ j (h : j < (listP met).length), j < k + 1 → ∀ s ∈ needsOf a (listP met)[j], met.testBit s = true) := fun h1 j h h2 => by
            by_cases hjk : j = k
            · subst hjk; exact h1
            · exact HK.out j h (by omega)
          have hqr := HMR.out _ hqb
          have hqn := reach_lt HOK.out hqr
          have HQR := Lib.hid hqr
          clear hpe hqb hp8' hqr
          generalize (listP met)[k] = q at *
          have hSr : ∀ b, b < w.heap.size → wr.heap[b]? = w.heap[b]? := fun b hb => frm_lt (grew_trans hG2 hGr).1 b hb
          have hMr := HM.out.move (S' := fun b => b < w.heap.size) (w' := wr) (r' := RuleR (fun b => b < w.heap.size) wr) (fun b hb => hb) hSr (fun x _ cs h => moves_rule _ _ _ _ _ _ (fun b hb => hb) hSr h)
          obtain ⟨b, o, p0, rfl, hb, hp0, hpt⟩ := hMr.at1 q hqn
          have HND : Hid (a.moves.getD q [] = a.moves[q]) := by unfold Hid; simp [hqn]
          have HSM := Lib.hid (ok_state HOK.out _ (List.getElem_mem hqn))
          have hrl := ((ok_rows HOK.out).2 _ (List.getElem_mem hqn)).1
          have HRW := Lib.hid ((ok_rows HOK.out).2 _ (List.getElem_mem hqn))
          clear hMr hSr
          generalize a.moves[q] = row at *
          obtain ⟨v2, hve2, hRow⟩ := hpt
          obtain rfl : p0 = v2 := by simpa using hve2
          obtain ⟨A2, c2, rfl, hc2, hm2⟩ := hRow.val
          clear hve2
          have HRow := Lib.hid hRow
          obtain ⟨xa0, xa1, xa2⟩ := (xa.frm hGr.1).cells
          have iq0 : (0 : Int) ≤ (q : Int) := by omega
          have iq1 : (q : Int) < a.moves.length := by omega
          clear hRow
          go_wp2_with fail
          obtain ⟨wo, hwo⟩ : ∃ wo : World, wo = wr := ⟨_, rfl⟩
          subst hwo
          go_loopw [5, 40] (fun z i wq => ∃ f : Nat, z = .int .i64 met ∧ f ≤ row.length ∧ i = .int .i64 f ∧ Grew wo wq ∧ Hid (∀ j (h : j < row.length), j < f → ∀ l ∈ row[j], ∀ x ∈ l, met.testBit x.2.toNat = true)) (fun _ i _ => row.length - (intOf i).toNat)
          case atStart => exact ⟨0, rfl, Nat.zero_le _, rfl, grew_refl _, fun j h h0 => absurd h0 (Nat.not_lt_zero _)⟩
          case round =>
            obtain ⟨f, rfl, hf, rfl, hfq, HF⟩ := hrel
            by_cases hltf : f < row.length
            · have hRq := HRow.out.move (S' := fun b => b < w.heap.size) (w' := wr) (r' := AltsR (fun b => b < w.heap.size) wr) (fun b hb => hb) (fun b hb => frm_lt hfq.1 b (by have := (grew_trans hG2 hGr).1.size; omega)) (fun x _ cs h => moves_alts _ _ _ _ _ _ (fun b hb => hb) (fun b hb => frm_lt hfq.1 b (by have := (grew_trans hG2 hGr).1.size; omega)) h)
              obtain ⟨b3, o3, q0, rfl, hb3, hq0, hqt⟩ := hRq.at1 f hltf
              have HAS := Lib.hid (HSM.out _ (List.getElem_mem hltf))
              have hal := (HRW.out.2 _ (List.getElem_mem hltf)).1
              have HAL := Lib.hid (HRW.out.2 _ (List.getElem_mem hltf))
              have HNA := Lib.hid (fun (l : List Nd) (hl : l ∈ row[f]) (x : Nd) (hx : x ∈ l) => mem_needs (a := a) (q := q) HND.out (List.getElem_mem hltf) hl hx)
              have HFS : Hid ((∀ l ∈ row[f], ∀ x ∈ l, met.testBit x.2.toNat = true) → ∀ j (h : j < row.length), j < f + 1 → ∀ l ∈ row[j], ∀ x ∈ l, met.testBit x.2.toNat = true) := fun h1 j h h2 => by
                by_cases hjk : j = f
                · subst hjk; exact h1
                · exact HF.out j h (by omega)
              clear hRq
              generalize row[f] = alts at *
              obtain ⟨v3, hve3, hAl⟩ := id hqt
              obtain rfl : q0 = v3 := by simpa using hve3
              obtain ⟨A3, c3, rfl, hc3, hm3⟩ := hAl.val
              have HAl := Lib.hid hAl
              have hGq := grew_trans hGr hfq
              clear hqt hAl hve3
              go_wp2_with fail
              obtain ⟨wi, hwi⟩ : ∃ wi : World, wi = wr := ⟨_, rfl⟩
              subst hwi
              go_loopw [5, 46] (fun z i wq => ∃ e : Nat, z = .int .i64 met ∧ e ≤ alts.length ∧ i = .int .i64 e ∧ Grew wi wq ∧ Hid (∀ j (h : j < alts.length), j < e → ∀ x ∈ alts[j], met.testBit x.2.toNat = true)) (fun _ i _ => alts.length - (intOf i).toNat)
              case atStart => exact ⟨0, rfl, Nat.zero_le _, rfl, grew_refl _, fun j h h0 => absurd h0 (Nat.not_lt_zero _)⟩
              case round =>
                obtain ⟨e, rfl, he, rfl, hfp, HE⟩ := hrel
                by_cases hlte : e < alts.length
                · have hRp := HAl.out.move (S' := fun b => b < w.heap.size) (w' := wr) (r' := AltR (fun b => b < w.heap.size) wr) (fun b hb => hb) (fun b hb => frm_lt hfp.1 b (by have := (grew_trans hG2 hGq).1.size; omega)) (fun x _ cs h => moves_alt _ _ _ _ _ _ (fun b hb => hb) (fun b hb => frm_lt hfp.1 b (by have := (grew_trans hG2 hGq).1.size; omega)) h)
                  obtain ⟨b4, o4, p4, rfl, hb4, hp4, hpt4⟩ := hRp.at1 e hlte
                  have HLS := Lib.hid (HAS.out _ (List.getElem_mem hlte))
                  have hll := (HAL.out.2 _ (List.getElem_mem hlte)).1
                  have HNL := Lib.hid (HNA.out _ (List.getElem_mem hlte))
                  have HES : Hid ((∀ x ∈ alts[e], met.testBit x.2.toNat = true) → ∀ j (h : j < alts.length), j < e + 1 → ∀ x ∈ alts[j], met.testBit x.2.toNat = true) := fun h1 j h h2 => by
                    by_cases hjk : j = e
                    · subst hjk; exact h1
                    · exact HE.out j h (by omega)
                  clear hRp
                  generalize alts[e] = l at *
                  obtain ⟨A4, c4, h4, hc4, hm4⟩ := (row_val hpt4).val
                  subst h4
                  have HL := Lib.hid (row_val hpt4)
                  have hGp := grew_trans hGq hfp
                  clear hpt4
                  go_wp2_with fail
                  obtain ⟨wz, hwz⟩ : ∃ wz : World, wz = wr := ⟨_, rfl⟩
                  subst hwz
                  go_loopw [5, 52] (fun z i wq => ∃ p : Nat, z = .int .i64 met ∧ p ≤ l.length ∧ i = .int .i64 p ∧ Grew wz wq ∧ Hid (∀ j (h : j < l.length), j < p → met.testBit l[j].2.toNat = true)) (fun _ i _ => l.length - (intOf i).toNat)
                  case atStart => exact ⟨0, rfl, Nat.zero_le _, rfl, grew_refl _, fun j h h0 => absurd h0 (Nat.not_lt_zero _)⟩
                  case round =>
                    obtain ⟨p, rfl, hp, rfl, hfz, HP9⟩ := hrel
                    by_cases hltp : p < l.length
                    · have hRz := HL.out.move (S' := fun b => b < w.heap.size) (w' := wr) (r' := NdR (fun b => b < w.heap.size) wr) (fun b hb => hb) (fun b hb => frm_lt hfz.1 b (by have := (grew_trans hG2 hGp).1.size; omega)) (fun x _ cs h => h)
                      obtain ⟨b5, o5, y0, y1, h5e, hb5, hy0, hy1, hyt⟩ := hRz.at2 p hltp
                      subst h5e
                      obtain ⟨hyv, _⟩ := hyt
                      simp only [List.cons.injEq, and_true] at hyv
                      obtain ⟨rfl, rfl⟩ := hyv
                      have HPS : Hid (met.testBit l[p].2.toNat = true → ∀ j (h : j < l.length), j < p + 1 → met.testBit l[j].2.toNat = true) := fun h1 j h h2 => by
                        by_cases hjk : j = p
                        · subst hjk; exact h1
                        · exact HP9.out j h (by omega)
                      have hxs := HLS.out _ (List.getElem_mem hltp)
                      have HNX := Lib.hid (HNL.out _ (List.getElem_mem hltp))
                      clear hRz
                      generalize l[p] = x at *
                      obtain ⟨st, hst⟩ : ∃ st : Nat, x.2 = st := ⟨x.2.toNat, by omega⟩
                      have hst6' : st < 6 := by omega
                      have HST : Hid (x.2.toNat = st) := by unfold Hid; omega
                      rw [hst] at hy1
                      obtain ⟨hsh, hs64⟩ := shl_i64 st hst6'
                      have hst64 : (st : Int) ≤ 64 := by omega
                      obtain ⟨x0, x1, _, _⟩ := (TwoAt.new wr (.int .i64 x.1) (.int .i64 st) 44).cells
                      have hgx : Grew wr (wr.alloc (.cells #[.int .i64 x.1, .int .i64 st] 44)) := grew_alloc _ _
                      clear hst hxs
                      have hba := bit_and met hm64 st hst6'
                      have hbt := bit_test met st hm64 hst6'
                      cases hmb : met.testBit st
                      · rw [hmb] at hbt
                        obtain ⟨hb1, hb2⟩ := bit_or_lt met hm64 st hst6' hmb
                        have ho := or_i64 met (2 ^ st) hm64 hs64
                        obtain ⟨pw2, hpw2⟩ : ∃ pw2 : Nat, pw2 = met ||| 2 ^ st := ⟨_, rfl⟩
                        rw [← hpw2] at ho hb1 hb2
                        have HPW2 := Lib.hid hpw2
                        have hcp : ((2 ^ st : Nat) : Int) = (2 : Int) ^ st := by rw [Int.natCast_pow]; rfl
                        rw [hcp] at ho
                        clear hpw2 hmb hcp
                        go_wp2_with fail
                        go_step3
                        refine (show (0 : Nat) = 0 ∧ (J _ _ ∧ _) from ⟨rfl, ?_, ?_⟩)
                        · rw [HJD.out]
                          refine ⟨pw2, _, _, _, _, _, _, _, _, _, _, _, _, _, _, _, _, _, _, _, _, _, _, _, _, _, _, _, _, _, _, _, _, _, _, _, _, _, _, _, _, _, _, _, _, _, _, _, _, _, _, _, _, _, _, _, _, _, _, _, _, _, _, _, _, _, _, _, _, _, _, _, _, _, _, _, _, _, _, _, _, _, _, _, _, _, _, _, hb2, ?_, ?_, grew_trans hGp (grew_trans hfz hgx), rfl⟩
                          · unfold Hid
                            rw [HPW2.out, bit_or]
                            exact .inl HMS.out
                          · intro s hs
                            rw [HPW2.out, bit_or] at hs
                            rcases hs with hs | hs
                            · exact HMR.out s hs
                            · rw [hs, ← HST.out]
                              exact reach_step HQR.out HNX.out
                        · show 64 - (intOf (Value.int .i64 pw2)).toNat < 64 - (intOf (Value.int .i64 met)).toNat
                          simp [intOf]
                          omega
                      · rw [hmb] at hbt
                        have HNB : Hid (met.testBit x.2.toNat = true) := by unfold Hid; rw [HST.out]; exact hmb
                        clear hmb
                        go_wp2_with fail
                        exact ⟨⟨p + 1, rfl, by omega, by go_num, grew_trans hfz hgx, HPS.out HNB.out⟩, by simp [intOf]; omega⟩
                    · obtain rfl : p = l.length := by omega
                      have HD1 := Lib.hid (HES.out fun x hx => by
                        obtain ⟨j, hj, rfl⟩ := List.getElem_of_mem hx
                        exact HP9.out j hj hj)
                      go_wp2_with fail
                      exact ⟨⟨e + 1, rfl, by omega, by go_num, grew_trans hfp hfz, HD1.out⟩, by simp [intOf]; omega⟩
                · obtain rfl : e = alts.length := by omega
                  have HD1 := Lib.hid (HFS.out fun l hl x hx => by
                    obtain ⟨j, hj, rfl⟩ := List.getElem_of_mem hl
                    exact HE.out j hj hj x hx)
                  go_wp2_with fail
                  exact ⟨⟨f + 1, rfl, by omega, by go_num, grew_trans hfq hfp, HD1.out⟩, by simp [intOf]; omega⟩
            · obtain rfl : f = row.length := by omega
              have HD1 := Lib.hid (HKS.out fun s hs => by
                obtain ⟨alts, h1, l, h2, x, h3, rfl⟩ := needs_mem hs
                rw [HND.out] at h1
                obtain ⟨j, hj, rfl⟩ := List.getElem_of_mem h1
                exact HF.out j hj hj l h2 x h3)
              go_wp2_with fail
              exact ⟨⟨k + 1, rfl, by omega, by go_num, grew_trans hfr hfq, HD1.out⟩, by simp [intOf]; omega⟩
        · obtain rfl : k = ln := by omega
          have HEQ : Hid (∀ s, met.testBit s = reachB a s) := reach_eq HMS.out (fun q hq s hs => by
            have hq6 : q < 6 := Nat.lt_of_lt_of_le (reach_lt HOK.out (HMR.out q hq)) hm6
            have hmem : q ∈ listP met := by
              rw [bits_eq met hm64]
              exact List.mem_filter.2 ⟨List.mem_range.2 hq6, hq⟩
            obtain ⟨j, hj, rfl⟩ := List.getElem_of_mem hmem
            exact HK.out j hj (by rw [HLN.out]; exact hj) s hs) HMR.out
          have HLP := Lib.hid (reach_list HOK.out hm64 HEQ.out)
          have HLI2 := Lib.hid (list_calls met hm64 wr (HTB.out.grew (grew_trans hG2 hGr)))
          have hmk := fun w => mk_ints a.moves.length (by omega) w
          obtain ⟨xa0, xa1, xa2⟩ := (xa.frm hGr.1).cells
          go_wp2_with fail
          refine HLI2.out.mono ?_
          rintro e w5 ⟨us, rfl, hf5, hO5⟩
          have hll : (listI met).length = (listP met).length := by unfold listI; simp
          have hSS := hO5.sl moves_int (S := fun b => b < w5.heap.size) (by rw [hll, ← HLN.out]; omega) (fun b _ h => h) (fun b _ h => h)
          have hLE : listI met = (reachL a).map fun q : Nat => (q : Int) := by unfold listI; rw [HLP.out]
          rw [hLE] at hSS
          obtain ⟨A9, c9, rfl, hc9⟩ := hO5.val
          have hlk : (listI met).length = k := by rw [HLL.out, HLN.out]
          rw [hlk] at hSS hc9 ⊢
          have HSS := Lib.hid hSS
          have HKR : Hid ((reachL a).length = k) := by unfold Hid; rw [← HLP.out, HLN.out]
          clear hO5 hSS hLE hlk hll
          have hG5 := grew_trans hGr hf5
          obtain ⟨xa0, xa1, xa2⟩ := (xa.frm hG5.1).cells
          dsimp only
          go_wp2_with fail
          have hin := ints_made w5 a.moves.length
          have hG6 : Grew w5 (w5.alloc (.cells (Array.replicate a.moves.length (.int .i64 0)) 3)) := grew_alloc _ _
          generalize w5.alloc (.cells (Array.replicate a.moves.length (.int .i64 0)) 3) = w6 at *
          go_loopw [79] (fun i wr => ∃ e : Nat, e ≤ k ∧ i = .int .i64 e ∧ Grew w5 wr ∧ IntsAt wr w5.heap.size (tlm (reachL a) a.moves.length e)) (fun i _ => k - (intOf i).toNat)
          case atStart => exact ⟨0, Nat.zero_le _, rfl, hG6, hin⟩
          case round =>
            obtain ⟨e, he, rfl, hfe, hI⟩ := hrel
            have hle := tlm_len (reachL a) a.moves.length e
            by_cases hlte : e < k
            · have hek : e < (reachL a).length := by rw [HKR.out]; exact hlte
              obtain ⟨b9, o9, p9, rfl, hb9, hp9', hpt9⟩ := HSS.out.at1 e (by simpa using hek)
              have hp9 := frm_cell hfe.1 hp9'
              obtain ⟨hpv9, _⟩ := hpt9
              simp only [List.cons.injEq, and_true, List.getElem_map] at hpv9
              subst hpv9
              have hqn : (reachL a)[e] < a.moves.length := List.mem_range.1 (List.mem_filter.1 (List.getElem_mem hek)).1
              have HTS : Hid (tlm (reachL a) a.moves.length (e + 1) = (tlm (reachL a) a.moves.length e).set (reachL a)[e] (e : Int)) := by
                unfold Hid
                rw [show tlm (reachL a) a.moves.length (e + 1) = (tlm (reachL a) a.moves.length e).set ((reachL a).getD e 0) (e : Int) from rfl, show (reachL a).getD e 0 = (reachL a)[e] by simp [hek]]
              generalize (reachL a)[e] = q at *
              have hcq := hI.at (i := q) (by omega)
              have hfq := ValsAt.free hI q
              have HP9 := Lib.hid (hI.put q (e : Int))
              have iq0 : (0 : Int) ≤ (q : Int) := by omega
              have iq1 : (q : Int) < a.moves.length := by omega
              clear hp9'
              go_wp2_with fail
              exact ⟨⟨e + 1, by omega, by go_num, grew_set_new hfe (Nat.le_refl _) _ _, by rw [HTS.out]; exact HP9.out⟩, by simp [intOf]; omega⟩
            · obtain rfl : e = k := by omega
              have hGe := grew_trans hG5 hfe
              have hsl := hI.sl (n := a.moves.length) hle.symm (by omega) (fun x hx => by have := tlm_bd (reachL a) a.moves.length e x hx; omega)
              have HNC := Lib.hid (numbered_calls a HOK.out (reachL a) (fun q hq => List.mem_range.1 (List.mem_filter.1 hq).1) (by rw [HKR.out]; omega) (tlm (reachL a) a.moves.length e) hle (fun x hx => by have := tlm_bd (reachL a) a.moves.length e x hx; omega) wr _ _ _ _
                (rdO_frm moves_au (grew_trans hG2 hGe).1 HA.out) (HSS.out.frm hfe.1 (stays_rd moves_int)) hsl)
              have HNE : Hid (numA a (reachL a) (tlm (reachL a) a.moves.length e) = reachA a) := num_eq HOK.out fun q hq => by
                have hqn := reach_lt HOK.out hq
                have hmem : q ∈ reachL a := List.mem_filter.2 ⟨List.mem_range.2 hqn, hq⟩
                obtain ⟨i, hi, rfl⟩ := List.getElem_of_mem hmem
                rw [tab_at hqn, show cntB (reachB a) (reachL a)[i] = i from cntB_at (reachB a) a.moves.length i hi]
                have hik : i < e := by rw [← HKR.out]; exact hi
                exact tlm_at (reachL a) a.moves.length ((List.nodup_range).filter _) (fun q hq => List.mem_range.1 (List.mem_filter.1 hq).1) e (by rw [HKR.out]; omega) i hi hik
              rw [HNE.out, ← HKR.out] at HNC
              rw [HKR.out] at HNC
              have hse := hGe.1.size
              obtain ⟨xa0, xa1, xa2⟩ := (xa.frm hGe.1).cells
              have HXO := Lib.hid (xo.frm hGe.1)
              have HGE := Lib.hid (grew_trans hG2 hGe)
              clear hsl hle
              go_wp2_with fail
              refine HNC.out.mono ?_
              rintro e9 w9 ⟨r9, m9, rfl, hf9, hr9⟩
              obtain ⟨A1, n1, c1, B1, p1, d1, rfl, rfl⟩ := num_slices hr9
              have hx9 := HXO.out.frm hf9.1
              obtain ⟨kx0, kx1, kx2⟩ := hx9.cells
              have kxf := hx9.free
              have kxf0 := kxf 0
              have kxf1 := kxf 1
              have kxf2 := kxf 2
              have hs9 := hf9.1.size
              have HGW := Lib.hid (grew_trans HGE.out hf9)
              have HR9 := Lib.hid hr9
              clear hr9 hx9 kxf
              dsimp only
              go_wp2_with fail
              try simp only [Exit.jump]
              refine bodyPost_ret (v := .tuple #[.agg #[.slice A1 n1 c1, .int .i64 (reachA a).start, .slice B1 p1 d1], .int .i64 0]) (by simp [results, Tryd.results14, go_sem, kx0, kx1, kx2, kxf0, kxf1, kxf2]) rfl ⟨.slice A1 n1 c1, .slice B1 p1 d1, ?_, ?_, ?_⟩
              · rw [HJ.out.1, HJ.out.2]
              · exact grew_set_new (grew_set_new (grew_set_new HGW.out (by omega) _ _) (by omega) _ _) (by omega) _ _
              · rw [HJ.out.2]
                refine moves_WR moves_au _ _ _ _ _ _ (fun q hq => ⟨by have := hq.1; omega, by have := hq.2; simp; omega⟩) (fun q hq => ?_) HR9.out
                have hq1 : wr.heap.size ≤ q := hq.1
                rw [Below.heap_setCell _ _ _ _ (by show q ≠ w.heap.size + 1; omega), Below.heap_setCell _ _ _ _ (by show q ≠ w.heap.size + 1; omega), Below.heap_setCell _ _ _ _ (by show q ≠ w.heap.size + 1; omega)]
end Go.Proofs.YtjpdmncafacmaaaDoor
end
/- The reference's Reach: rounds until no more states are needed. -/
section
set_option linter.unusedVariables false
set_option linter.unusedSimpArgs false
namespace Go.Proofs.YtjpdmncafacmaaaDoor
open Go.RowKit

/-! ### The rounds' loops -/
def xN (q : Nat) (N : List Bool) (x : Nd) : List Bool := edgeN q N x.2.toNat
def lN (q : Nat) (N : List Bool) (l : List Nd) : List Bool := l.foldl (xN q) N
def altsN (q : Nat) (N : List Bool) (alts : List (List Nd)) : List Bool := alts.foldl (lN q) N
theorem rowN_eq {a : Au} {q : Nat} {row : List (List (List Nd))} (h : a.moves.getD q [] = row) (N : List Bool) : rowN a N q = row.foldl (altsN q) N := by
  unfold rowN needsOf
  rw [h, List.foldl_map, List.foldl_flatten, List.foldl_flatten]
  rfl
theorem fold_step {α : Type} (f : List Bool → α → List Bool) (L : List α) (N : List Bool) {k : Nat} (h : k < L.length) : (L.take (k + 1)).foldl f N = f ((L.take k).foldl f N) L[k] := by
  rw [List.take_succ_eq_append_getElem h, List.foldl_append]
  rfl
theorem edgeN_len (q : Nat) (N : List Bool) (s : Nat) : (edgeN q N s).length = N.length := by unfold edgeN; simp
def RQ (w3 wr : World) (g n : Nat) (N : List Bool) : Prop := Grew w3 wr ∧ N.length = n ∧ BoolsAt wr g N
theorem RQ.grew {w3 wr w' : World} {g n : Nat} {N : List Bool} (h : RQ w3 wr g n N) (hf : Grew wr w') : RQ w3 w' g n N := ⟨grew_trans h.1 hf, h.2.1, ValsAt.frm h.2.2 hf.1⟩
theorem RQ.edge {w3 wr : World} {g n : Nat} {N : List Bool} (h : RQ w3 wr g n N) (hg : w3.heap.size ≤ g) {q s : Nat} {b : Bool} (hb : b = (N.getD s false || N.getD q false)) : RQ w3 ((wr.setCell ⟨g, s, none⟩ (.bool b)).drew) g n (edgeN q N s) := by
  subst hb
  refine ⟨grew_trans (grew_set_new h.1 hg _ _) (grew_drew _), (edgeN_len _ _ _).trans h.2.1, ?_⟩
  exact ValsAt.frm (h.2.2.put s _) (grew_drew _).1

/-! ### The states' new numbers -/
def tlc (p : Nat → Bool) (n : Nat) : Nat → List Int
  | 0 => List.replicate n 0
  | k + 1 => (tlc p n k).set k (cntB p k : Int)
theorem tlc_len (p : Nat → Bool) (n : Nat) : ∀ k, (tlc p n k).length = n
  | 0 => by simp [tlc]
  | k + 1 => by simp [tlc, tlc_len p n k]
theorem cntB_le (p : Nat → Bool) (k : Nat) : cntB p k ≤ k := by
  unfold cntB
  exact Nat.le_trans (List.length_filter_le _ _) (by simp)
theorem tlc_bd (p : Nat → Bool) (n : Nat) : ∀ k, ∀ x ∈ tlc p n k, 0 ≤ x ∧ x ≤ k
  | 0, x, hx => by
    have := List.eq_of_mem_replicate hx
    omega
  | k + 1, x, hx => by
    rcases List.mem_or_eq_of_mem_set hx with h | h
    · have := tlc_bd p n k x h
      omega
    · have := cntB_le p k
      omega
theorem tlc_at (p : Nat → Bool) (n : Nat) : ∀ k j, j < k → j < n → (tlc p n k).getD j 0 = cntB p j
  | 0, j, h, _ => absurd h (Nat.not_lt_zero _)
  | k + 1, j, h, hn => by
    unfold tlc
    rw [List.getD_eq_getElem?_getD, List.getElem?_set]
    by_cases hjk : k = j
    · subst hjk
      rw [if_pos rfl, if_pos (by rw [tlc_len]; exact hn)]
      rfl
    · rw [if_neg hjk, ← List.getD_eq_getElem?_getD]
      exact tlc_at p n k j (by omega) hn

/-! ### The result under way -/
def BQ (w8 : World) (g : Nat) (r : Value) (st : Int) (mv : Value) (acc : List (List (List (List Nd)))) (wr : World) : Prop :=
  GrewG g w8.heap.size w8 wr ∧ ThreeAt wr g r (.int .i64 st) mv 25 ∧ Own RuleR wr w8.heap.size 51 1 (fun q => w8.heap.size ≤ q) mv acc
theorem BQ.push {w8 wr w' : World} {g : Nat} {r : Value} {st : Int} {mv : Value} {acc : List (List (List (List Nd)))} (h : BQ w8 g r st mv acc wr) (hg8 : g < w8.heap.size)
    (hf : Grew wr w') (hacc : acc.length ≤ 1000) {A : Option Addr} {c : Nat} {row : List (List (List Nd))} (hr : RuleR (fun q => w8.heap.size ≤ q ∧ q < w'.heap.size ∧ some q ≠ mv.ownBlock) w' row [.slice A row.length c]) :
    w'.cell? ⟨g, 2, none⟩ = some mv ∧ ∃ A9 c9 w9, (Builtin.append_ #[23, 23] 23 #[mv, .slice (some ⟨w'.heap.size, 0, none⟩) 1 1]).run Tryd.prog (w'.alloc (.cells #[.slice A row.length c] 51)) = .ok (.slice A9 (acc.length + 1) c9) w9 ∧
      w9.cell? ⟨g, 2, none⟩ = some mv ∧ w9.frozen? ⟨g, 2, none⟩ = false ∧ BQ w8 g r st (.slice A9 (acc.length + 1) c9) (acc ++ [row]) (w9.setCell ⟨g, 2, none⟩ (.slice A9 (acc.length + 1) c9)) := by
  obtain ⟨hP, hT, hO⟩ := h
  have hs8 := hP.size
  have hsr := hf.1.size
  have hT' := hT.frm hf.1
  refine ⟨hT'.cells.2.2, ?_⟩
  have hf2 := grew_then_alloc hf (.cells #[.slice A row.length c] 51)
  have hO2 := hO.kept moves_rule hf2.1 (ownNone _) (by simp)
  have htw := OneAt.new w' (.slice A row.length c) 51
  have hltO := hO.lt
  obtain ⟨v9, w9, hrun, hO9, hg9, hp9⟩ := Own.app_run moves_rule elem_rule hO2 23 (g := w'.heap.size) row [.slice A row.length c] rfl (one_at htw) (by
      intro u hu
      simp at hu
      subst hu
      rfl) (moves_rule _ _ _ _ _ _ (fun q hq => ⟨hq.1, by simp; omega, hq.2.2⟩) (fun q hq => Below.heap_alloc _ _ _ hq.2.1) hr) (by omega) (by omega) (by simp; omega)
  obtain ⟨A9, c9, he9, _⟩ := hO9.val
  rw [List.length_append, List.length_singleton] at he9
  subst he9
  have hgm : mv.ownBlock ≠ some g := fun e => by
    have := (hltO g e).1
    omega
  have hT9 : ThreeAt w9 g r (.int .i64 st) mv 25 := (hT.frm hf2.1).move (hg9.1.block g (by simp; have := hT.lt; omega) (fun e => hgm e.symm))
  refine ⟨A9, c9, w9, hrun, hT9.cells.2.2, hT9.free 2, ?_, hT9.set2 _, ?_⟩
  · exact ((hP.trans (.of hf2 hs8)).trans (.ofR hg9 (by simp; omega) (fun q hq => (hltO q hq).1))).set 2 _
  · exact hO9.kept moves_rule (frm_set (frm_refl _ _) _ _) (.inr fun e => by have := (hO9.lt g e).1; omega) (fun q hq e => by injection e with e; omega)
theorem bq_row {w8 wr : World} {g : Nat} {r : Value} {st : Int} {mv : Value} {acc : List (List (List (List Nd)))} (h : BQ w8 g r st mv acc wr) (hg8 : g < w8.heap.size) (hacc : acc.length ≤ 1000)
    {row : List (List (List Nd))} {tl : List Int} {v u : Value} (hm0 : rdO RuleR wr row [v]) (hto : SlO wr 1 (rdO IntR) tl u) (hb : ∀ l ∈ row, ∀ x ∈ l, ∀ y ∈ x, 0 ≤ y.2 ∧ y.2 < tl.length) (hlm : row.length ≤ 1000) (hll : ∀ l ∈ row, l.length ≤ 1000 ∧ ∀ x ∈ l, x.length ≤ 900) :
    ∀ wx, Grew wr wx → Calls Tryd.prog 35 #[v, u] wx fun e w' => ∃ A c, e = .returned (.slice A row.length c) ∧ w'.cell? ⟨g, 2, none⟩ = some mv ∧
      ∃ A9 c9 w9, (Builtin.append_ #[23, 23] 23 #[mv, .slice (some ⟨w'.heap.size, 0, none⟩) 1 1]).run Tryd.prog (w'.alloc (.cells #[.slice A row.length c] 51)) = .ok (.slice A9 (acc.length + 1) c9) w9 ∧
      w9.cell? ⟨g, 2, none⟩ = some mv ∧ w9.frozen? ⟨g, 2, none⟩ = false ∧ BQ w8 g r st (.slice A9 (acc.length + 1) c9) (acc ++ [row.map (rmv (toL tl))]) (w9.setCell ⟨g, 2, none⟩ (.slice A9 (acc.length + 1) c9)) := by
  intro wx hx
  refine (rmoves_calls row tl wx v u (rdO_frm moves_rule hx.1 hm0) (hto.frm hx.1 (stays_rd moves_int)) hb hlm hll).mono ?_
  rintro e w' ⟨z, rfl, hg, ho⟩
  have hlen : (row.map (rmv (toL tl))).length = row.length := by simp
  have hs8 := h.1.size
  have hsx := hx.1.size
  have hlto := ho.lt
  have hltm := h.2.2.lt
  have hsl := ho.sl2 moves_alts (by omega) (S := fun q => w8.heap.size ≤ q ∧ q < w'.heap.size ∧ some q ≠ mv.ownBlock) (fun q h1 h2 => ⟨by omega, h2, fun e => by have := (hltm q e.symm).2; omega⟩) (fun q hq => by
    have := hlto q hq
    exact ⟨by omega, this.2, fun e => by have := (hltm q e.symm).2; omega⟩)
  obtain ⟨A, c, rfl, _⟩ := ho.val
  have hp := h.push hg8 (grew_trans hx hg) hacc (row := row.map (rmv (toL tl))) ⟨_, rfl, hsl⟩
  rw [hlen] at hp
  exact ⟨A, c, by rw [hlen], hp⟩
def rowR (a : Au) (tl : List Int) (q : Nat) : List (List (List Nd)) := (a.moves.getD q []).map (rmv (toL tl))
set_option maxRecDepth 100000 in
set_option maxHeartbeats 4000000 in
theorem rreach_calls (a : Au) (w : World) (r m : Value) (hA : rdO AuR w a [r, .int .i64 a.start, m]) :
    Calls Tryd.prog 15 #[.agg #[r, .int .i64 a.start, m]] w (RetQ w (reachV a) (reachE a)) := by
  obtain ⟨hR, hMv, hs1, hs2⟩ := AuR.parts hA
  obtain ⟨A, c, rfl, hc, hlm⟩ := hR.val
  obtain ⟨B, d, rfl, hd, hlm2⟩ := hMv.val
  obtain ⟨w2, hw2⟩ : ∃ w2, w2 = (w.alloc (.cells #[.slice A a.ranks.length c, .int .i64 a.start, .slice B a.moves.length d] 25)).alloc (.cells #[.slice none 0 0, .int .i64 0, .slice none 0 0] 25) := ⟨_, rfl⟩
  have hG2 : Grew w w2 := by rw [hw2]; exact grew_then_alloc (grew_alloc _ _) _
  have xa : ThreeAt w2 w.heap.size (.slice A a.ranks.length c) (.int .i64 a.start) (.slice B a.moves.length d) 25 := by
    rw [hw2]; exact (ThreeAt.new w _ _ _ _).frm (frm_alloc _ _)
  have xr : ThreeAt w2 (w.heap.size + 1) (.slice none 0 0) (.int .i64 0) (.slice none 0 0) 25 := by
    have h := ThreeAt.new (w.alloc (.cells #[.slice A a.ranks.length c, .int .i64 a.start, .slice B a.moves.length d] 25)) (.slice none 0 0) (.int .i64 0) (.slice none 0 0) 25
    rw [World.size_alloc] at h
    rw [hw2]; exact h
  have hIS : Calls Tryd.prog 18 #[.agg #[.slice A a.ranks.length c, .int .i64 a.start, .slice B a.moves.length d]] w2 (RetD w2 (.bool a.ok)) := by
    have h := ris_calls a w2 _ _ (rdO_frm moves_au hG2.1 hA)
    rw [← ok_eq] at h
    exact h
  have xa' := xa
  rw [hw2] at xa' hIS
  obtain ⟨xa0, xa1, xa2⟩ := xa'.cells
  have HIS := Lib.hid hIS
  have HW2 := Lib.hid hw2
  have HA := Lib.hid hA
  have HM := Lib.hid hMv
  have HR := Lib.hid hR
  clear hIS hw2 hA hR hMv
  go_enter Tryd.func15, Tryd.ntmps15
  go_wp2_with fail
  refine HIS.out.mono ?_
  rw [← HW2.out]
  rintro e w3 ⟨rfl, hf3⟩
  have hG3 := grew_trans hG2 hf3
  have hs3 := (xr.frm hf3.1).lt
  cases hok : a.ok
  · have xo := xr.frm hf3.1
    obtain ⟨xo0, xo1, xo2⟩ := xo.cells
    have xf0 := xo.free 0
    have xf1 := xo.free 1
    have xf2 := xo.free 2
    have HJ : Hid (reachE a = 10 ∧ reachV a = Au.zero) := by
      unfold Hid reachE reachV
      rw [hok]
      exact ⟨rfl, rfl⟩
    clear hok
    dsimp only
    go_wp2_with fail
    refine bodyPost_ret (v := .tuple #[.agg #[.slice none 0 0, .int .i64 0, .slice none 0 0], .int .i64 10]) (by simp [results, Tryd.results15, go_sem, xo0, xo1, xo2, xf0, xf1, xf2]) rfl ⟨.slice none 0 0, .slice none 0 0, ?_, ?_, ?_⟩
    · rw [HJ.out.1, HJ.out.2]; rfl
    · exact grew_set_new (grew_set_new (grew_set_new hG3 (by omega) _ _) (by omega) _ _) (by omega) _ _
    · rw [HJ.out.2]
      exact au_zero _ _
  obtain ⟨xa0, xa1, xa2⟩ := (xa.frm hf3.1).cells
  have hla := (ok_rows hok).1
  have hlr := (ranksOk_parts (ok_parts hok).1).1
  obtain ⟨_, hm1, hm6, hst0, hst1, _⟩ := ok_parts hok
  have HOK := Lib.hid hok
  have is0 : (0 : Int) ≤ a.start := hst0
  have is1 : a.start < a.moves.length := by omega
  obtain ⟨w4, hw4⟩ : ∃ w4, w4 = w3.alloc (.cells (Array.replicate a.moves.length (.bool false)) 4) := ⟨_, rfl⟩
  have hmk := mk_bools a.moves.length (by omega) w3
  rw [← hw4] at hmk
  have HJ : Hid (reachE a = 0 ∧ reachV a = reachA a) := by
    unfold Hid reachE reachV
    rw [hok]
    exact ⟨rfl, rfl⟩
  clear hok hst0
  have hin := bools_made w3 a.moves.length
  have hf4 : Grew w3 w4 := by rw [hw4]; exact grew_alloc _ _
  rw [← hw4] at hin
  have hc0 : w4.cell? ⟨w3.heap.size, a.start.toNat, none⟩ = some (.bool false) := by
    have h := hin.at (i := a.start.toNat) (by simpa using hst1)
    rw [List.getElem_replicate] at h
    exact h
  have hfz0 : w4.frozen? ⟨w3.heap.size, a.start.toNat, none⟩ = false := ValsAt.free hin a.start.toNat
  have HIN : Hid (RQ w3 (w4.setCell ⟨w3.heap.size, a.start.toNat, none⟩ (.bool true)) w3.heap.size a.moves.length (startN a)) := ⟨grew_set_new hf4 (Nat.le_refl _) _ _, by unfold startN; simp, hin.put a.start.toNat true⟩
  have xa4 := (xa.frm hf3.1).frm hf4.1
  obtain ⟨xb0, xb1, xb2⟩ := xa4.cells
  have hs34 := hf4.1.size
  clear hin xa4 hw4
  dsimp only
  go_wp2_with fail
  generalize w4.setCell ⟨w3.heap.size, a.start.toNat, none⟩ (.bool true) = w5 at *
  have hxa : Hid (∀ wr, Grew w3 wr → ThreeAt wr w.heap.size (.slice A a.ranks.length c) (.int .i64 a.start) (.slice B a.moves.length d) 25) := fun wr h => (xa.frm hf3.1).frm h.1
  go_loopw [35] (fun i wr => ∃ k : Nat, k ≤ a.moves.length ∧ i = .int .i64 k ∧ Hid (RQ w3 wr w3.heap.size a.moves.length (iterN a (startN a) k))) (fun i _ => a.moves.length - (intOf i).toNat)
  case atStart => exact ⟨0, Nat.zero_le _, rfl, HIN.out⟩
  case round =>
    obtain ⟨k, hk, rfl, HK⟩ := hrel
    by_cases hlt : k < a.moves.length
    · obtain ⟨xa0, xa1, xa2⟩ := (hxa.out wr HK.out.1).cells
      have HNX : Hid (iterN a (startN a) (k + 1) = (List.range a.moves.length).foldl (rowN a) (iterN a (startN a) k)) := rfl
      generalize iterN a (startN a) k = N0 at *
      go_wp2_with fail
      go_loopw [40] (fun i wr => ∃ q : Nat, q ≤ a.moves.length ∧ i = .int .i64 q ∧ Hid (RQ w3 wr w3.heap.size a.moves.length ((List.range q).foldl (rowN a) N0))) (fun i _ => a.moves.length - (intOf i).toNat)
      case atStart => exact ⟨0, Nat.zero_le _, rfl, HK.out⟩
      case round =>
        obtain ⟨q, hq, rfl, HQ⟩ := hrel
        by_cases hltq : q < a.moves.length
        · have hGr := grew_trans hG3 HQ.out.1
          obtain ⟨b, o, p0, rfl, hb, hp0', hpt⟩ := HM.out.at1 q hltq
          have hp0 := frm_cell hGr.1 hp0'
          have HRN : Hid ((List.range (q + 1)).foldl (rowN a) N0 = (a.moves[q]).foldl (altsN q) ((List.range q).foldl (rowN a) N0)) := by
            unfold Hid
            rw [List.range_succ, List.foldl_append]
            exact rowN_eq (by simp [hltq]) _
          have HSM := Lib.hid (ok_state HOK.out _ (List.getElem_mem hltq))
          have hrl := ((ok_rows HOK.out).2 _ (List.getElem_mem hltq)).1
          have HRW := Lib.hid ((ok_rows HOK.out).2 _ (List.getElem_mem hltq))
          generalize a.moves[q] = row at *
          generalize (List.range q).foldl (rowN a) N0 = N1 at *
          have hRow := row_val hpt
          obtain ⟨A2, c2, rfl, hc2, hm2⟩ := hRow.val
          have HRow := Lib.hid hRow
          have iq0 : (0 : Int) ≤ (q : Int) := by omega
          have iq1 : (q : Int) < a.moves.length := by omega
          clear hRow hpt hp0'
          obtain ⟨xa0, xa1, xa2⟩ := (hxa.out wr HQ.out.1).cells
          go_wp2_with fail
          go_loopw [47] (fun i wq => ∃ f : Nat, f ≤ row.length ∧ i = .int .i64 f ∧ Hid (RQ w3 wq w3.heap.size a.moves.length ((row.take f).foldl (altsN q) N1))) (fun i _ => row.length - (intOf i).toNat)
          case atStart => exact ⟨0, Nat.zero_le _, rfl, HQ.out⟩
          case round =>
            obtain ⟨f, hf, rfl, HF⟩ := hrel
            by_cases hltf : f < row.length
            · have hGf := grew_trans hG3 HF.out.1
              obtain ⟨b3, o3, q0, rfl, hb3, hq0', hqt⟩ := HRow.out.at1 f hltf
              have hq0 := frm_cell hGf.1 hq0'
              have HFN := Lib.hid (fold_step (altsN q) row N1 hltf)
              have HAS := Lib.hid (HSM.out _ (List.getElem_mem hltf))
              have hal := (HRW.out.2 _ (List.getElem_mem hltf)).1
              have HAL := Lib.hid (HRW.out.2 _ (List.getElem_mem hltf))
              generalize row[f] = alts at *
              generalize (row.take f).foldl (altsN q) N1 = N2 at *
              have hAl := row_val hqt
              obtain ⟨A3, c3, rfl, hc3, hm3⟩ := hAl.val
              have HAl := Lib.hid hAl
              clear hqt hAl hq0'
              go_wp2_with fail
              go_loopw [53] (fun i wq => ∃ e : Nat, e ≤ alts.length ∧ i = .int .i64 e ∧ Hid (RQ w3 wq w3.heap.size a.moves.length ((alts.take e).foldl (lN q) N2))) (fun i _ => alts.length - (intOf i).toNat)
              case atStart => exact ⟨0, Nat.zero_le _, rfl, HF.out⟩
              case round =>
                obtain ⟨e, he, rfl, HE⟩ := hrel
                by_cases hlte : e < alts.length
                · have hGe := grew_trans hG3 HE.out.1
                  obtain ⟨b4, o4, p4, rfl, hb4, hp4', hpt4⟩ := HAl.out.at1 e hlte
                  have hp4 := frm_cell hGe.1 hp4'
                  have HEN := Lib.hid (fold_step (lN q) alts N2 hlte)
                  have HLS := Lib.hid (HAS.out _ (List.getElem_mem hlte))
                  have hll := (HAL.out.2 _ (List.getElem_mem hlte)).1
                  generalize alts[e] = l at *
                  generalize (alts.take e).foldl (lN q) N2 = N3 at *
                  have hL := row_val hpt4
                  obtain ⟨A4, c4, rfl, hc4, hm4⟩ := hL.val
                  have HL := Lib.hid hL
                  clear hpt4 hL hp4'
                  go_wp2_with fail
                  go_loopw [59] (fun i wq => ∃ p : Nat, p ≤ l.length ∧ i = .int .i64 p ∧ Hid (RQ w3 wq w3.heap.size a.moves.length ((l.take p).foldl (xN q) N3))) (fun i _ => l.length - (intOf i).toNat)
                  case atStart => exact ⟨0, Nat.zero_le _, rfl, HE.out⟩
                  case round =>
                    obtain ⟨p, hp, rfl, HP9⟩ := hrel
                    by_cases hltp : p < l.length
                    · have hGp := grew_trans hG3 HP9.out.1
                      obtain ⟨b5, o5, y0, y1, h5e, hb5, hy0', hy1', hyt⟩ := HL.out.at2 p hltp
                      subst h5e
                      have hy0 := frm_cell hGp.1 hy0'
                      have hy1 := frm_cell hGp.1 hy1'
                      obtain ⟨hyv, _⟩ := hyt
                      simp only [List.cons.injEq, and_true] at hyv
                      obtain ⟨rfl, rfl⟩ := hyv
                      have HPN : Hid ((l.take (p + 1)).foldl (xN q) N3 = edgeN q ((l.take p).foldl (xN q) N3) (l[p]).2.toNat) := fold_step (xN q) l N3 hltp
                      have hxs := HLS.out _ (List.getElem_mem hltp)
                      generalize l[p] = x at *
                      generalize (l.take p).foldl (xN q) N3 = N4 at *
                      obtain ⟨st, hst⟩ : ∃ st : Nat, x.2 = st := ⟨x.2.toNat, by omega⟩
                      have HST : Hid (x.2.toNat = st) := by unfold Hid; omega
                      have hstn : st < a.moves.length := by omega
                      rw [hst] at hy1
                      clear hst hxs hy0' hy1'
                      have hRx := HP9.out.grew (grew_alloc wr (.cells #[.int .i64 x.1, .int .i64 st] 44))
                      obtain ⟨x0, x1, _, _⟩ := (TwoAt.new wr (.int .i64 x.1) (.int .i64 st) 44).cells
                      have hcs := hRx.2.2.at (i := st) (by rw [hRx.2.1]; exact hstn)
                      have hcq := hRx.2.2.at (i := q) (by rw [hRx.2.1]; exact hltq)
                      have hfs := ValsAt.free hRx.2.2 st
                      have is0' : (0 : Int) ≤ (st : Int) := by omega
                      have is1' : (st : Int) < a.moves.length := by omega
                      have HRX := Lib.hid hRx
                      have HED := Lib.hid (fun b hb => hRx.edge (Nat.le_refl _) (q := q) (s := st) (b := b) hb)
                      rw [HST.out] at HPN
                      have hds : Hid (N4.getD st false = N4[st]'(by rw [hRx.2.1]; exact hstn)) := by unfold Hid; simp [hRx.2.1, hstn]
                      have hdq : Hid (N4.getD q false = N4[q]'(by rw [hRx.2.1]; exact hltq)) := by unfold Hid; simp [hRx.2.1, hltq]
                      generalize N4[st]'(by rw [hRx.2.1]; exact hstn) = bs at *
                      generalize N4[q]'(by rw [hRx.2.1]; exact hltq) = bq at *
                      clear hRx
                      go_wp2_with fail
                      generalize wr.alloc (.cells #[.int .i64 x.1, .int .i64 st] 44) = w8 at *
                      cases bs with
                      | true =>
                        have hE2 := Lib.hid (HED.out true (by rw [hds.out]; rfl))
                        go_still_tail 15, (by kernel_rfl)
                        go_wp2_with fail
                        exact ⟨⟨p + 1, by omega, by go_num, by rw [HPN.out]; exact hE2.out⟩, by simp [intOf]; omega⟩
                      | false =>
                        have hE2 := Lib.hid (HED.out bq (by rw [hds.out, hdq.out]; rfl))
                        go_still_tail 15, (by kernel_rfl)
                        go_wp2_with fail
                        exact ⟨⟨p + 1, by omega, by go_num, by rw [HPN.out]; exact hE2.out⟩, by simp [intOf]; omega⟩
                    · obtain rfl : p = l.length := by omega
                      rw [List.take_length] at HP9
                      go_wp2_with fail
                      exact ⟨⟨e + 1, by omega, by go_num, by rw [HEN.out]; exact HP9.out⟩, by simp [intOf]; omega⟩
                · obtain rfl : e = alts.length := by omega
                  rw [List.take_length] at HE
                  go_wp2_with fail
                  exact ⟨⟨f + 1, by omega, by go_num, by rw [HFN.out]; exact HE.out⟩, by simp [intOf]; omega⟩
            · obtain rfl : f = row.length := by omega
              rw [List.take_length] at HF
              go_wp2_with fail
              exact ⟨⟨q + 1, by omega, by go_num, by rw [HRN.out]; exact HF.out⟩, by simp [intOf]; omega⟩
        · obtain rfl : q = a.moves.length := by omega
          go_wp2_with fail
          exact ⟨⟨k + 1, by omega, by go_num, by rw [HNX.out]; exact HQ.out⟩, by simp [intOf]; omega⟩
    · obtain rfl : k = a.moves.length := by omega
      have HNB : Hid (∀ s, (iterN a (startN a) a.moves.length).getD s false = reachB a s) := iter_reach HOK.out
      generalize iterN a (startN a) a.moves.length = N at *
      have hmk2 := fun w => mk_ints a.moves.length (by omega) w
      obtain ⟨xa0, xa1, xa2⟩ := (hxa.out wr HK.out.1).cells
      have HK0 := HK.out
      go_wp2_with fail
      have hin := ints_made wr a.moves.length
      obtain ⟨g2, hg2⟩ : ∃ g2, g2 = wr.heap.size := ⟨_, rfl⟩
      have hRQ6 := HK0.grew (grew_alloc wr (.cells (Array.replicate a.moves.length (.int .i64 0)) 3))
      rw [← hg2] at hin
      have hg2s : w3.heap.size < g2 := by rw [hg2]; exact ValsAt.lt HK0.2.2
      have hg2l := ValsAt.lt hin
      generalize wr.alloc (.cells (Array.replicate a.moves.length (.int .i64 0)) 3) = w6 at *
      rw [← hg2]
      clear hg2
      go_loopw [14, 89] (fun z i wq => ∃ e : Nat, e ≤ a.moves.length ∧ z = .int .i64 (cntB (reachB a) e) ∧ i = .int .i64 e ∧ Hid (RQ w3 wq w3.heap.size a.moves.length N) ∧ Hid (IntsAt wq g2 (tlc (reachB a) a.moves.length e))) (fun _ i _ => a.moves.length - (intOf i).toNat)
      case atStart => exact ⟨0, Nat.zero_le _, rfl, rfl, hRQ6, hin⟩
      case round =>
        obtain ⟨e, he, rfl, rfl, HRE, HI⟩ := hrel
        have hle := tlc_len (reachB a) a.moves.length e
        by_cases hlte : e < a.moves.length
        · have hcN := HRE.out.2.2.at (i := e) (by rw [HRE.out.2.1]; exact hlte)
          have hNe : N[e]'(by rw [HRE.out.2.1]; exact hlte) = reachB a e := by
            rw [← HNB.out e]
            simp [HRE.out.2.1, hlte]
          rw [hNe] at hcN
          have hcI := HI.out.at (i := e) (by rw [hle]; exact hlte)
          have hfI := ValsAt.free HI.out e
          have HI2 : Hid (IntsAt (wr.setCell ⟨g2, e, none⟩ (.int .i64 (cntB (reachB a) e))) g2 (tlc (reachB a) a.moves.length (e + 1))) := HI.out.put e _
          have HR2 : Hid (RQ w3 (wr.setCell ⟨g2, e, none⟩ (.int .i64 (cntB (reachB a) e))) w3.heap.size a.moves.length N) :=
            ⟨grew_set_new HRE.out.1 (by omega) _ _, HRE.out.2.1, ValsAt.move HRE.out.2.2 (Below.heap_setCell _ _ _ _ (by show w3.heap.size ≠ g2; omega))⟩
          have hcs := cntB_succ (reachB a) e
          have hcl := cntB_le (reachB a) e
          have HCS := Lib.hid hcs
          clear hNe hcs
          obtain ⟨cn, hcn⟩ : ∃ cn, cn = cntB (reachB a) e := ⟨_, rfl⟩
          rw [← hcn] at HI2 HR2 HCS hcl ⊢
          clear hcn
          cases hre : reachB a e
          · rw [hre] at hcN HCS
            have HCE : Hid (cntB (reachB a) (e + 1) = cn) := by unfold Hid; rw [HCS.out]; simp
            clear hre
            go_wp2_with fail
            exact ⟨⟨e + 1, by omega, by rw [HCE.out], by go_num, HR2.out, HI2.out⟩, by simp [intOf]; omega⟩
          · rw [hre] at hcN HCS
            have HCE : Hid (cntB (reachB a) (e + 1) = cn + 1) := by unfold Hid; rw [HCS.out]; simp
            clear hre
            go_wp2_with fail
            exact ⟨⟨e + 1, by omega, by rw [HCE.out]; go_num, by go_num, HR2.out, HI2.out⟩, by simp [intOf]; omega⟩
        · obtain rfl : e = a.moves.length := by omega
          have hcS := HI.out.at (i := a.start.toNat) (by rw [hle]; exact hst1)
          have HTE : Hid (numA a (reachL a) (tlc (reachB a) a.moves.length a.moves.length) = reachA a) := num_eq HOK.out fun q hq => by
            have hqn := reach_lt HOK.out hq
            rw [tlc_at _ _ _ _ hqn hqn, tab_at hqn]
          obtain ⟨tl, htl⟩ : ∃ tl, tl = tlc (reachB a) a.moves.length a.moves.length := ⟨_, rfl⟩
          have htb : ∀ x ∈ tl, 0 ≤ x ∧ x ≤ 6 := fun x hx => by rw [htl] at hx; have := tlc_bd _ _ _ x hx; omega
          have htb0 := htb
          simp only [← htl] at hcS HI HTE hle
          have HSTA : Hid (tl[a.start.toNat]'(by rw [hle]; exact hst1) = (reachA a).start) := by
            unfold Hid
            rw [← HTE.out]
            unfold numA
            have hsl : a.start.toNat < tl.length := by rw [hle]; exact hst1
            simp [hsl]
          have hstb := htb _ (List.getElem_mem (by rw [hle]; exact hst1))
          generalize tl[a.start.toNat]'(by rw [hle]; exact hst1) = st at *
          obtain ⟨cfin, hcfin⟩ : ∃ cfin, cfin = cntB (reachB a) a.moves.length := ⟨_, rfl⟩
          rw [← hcfin]
          have HTB := Lib.hid htb
          have HLE := Lib.hid hle
          obtain ⟨xa0, xa1, xa2⟩ := (hxa.out wr HRE.out.1).cells
          clear htl htb htb0 hcfin hle
          have hlw := (hxa.out wr HRE.out.1).lt
          have hRE0 := HRE.out
          have hsr3 := hRE0.1.1.size
          have hg2r := ValsAt.lt HI.out
          have hg3r := ValsAt.lt hRE0.2.2
          repeat ((fail_if_success at_builtin); first | go_values | go_skip | go_guarded | go_step | go_upon)
          have hfB : Grew wr (wr.alloc (.cells #[.slice none 0 0, .int .i64 st, .slice none 0 0] 25)) := grew_alloc _ _
          have tB := ThreeAt.new wr (.slice none 0 0) (.int .i64 st) (.slice none 0 0) 25
          have hGB : Grew w (wr.alloc (.cells #[.slice none 0 0, .int .i64 st, .slice none 0 0] 25)) := grew_trans (grew_trans hG3 hRE0.1) hfB
          have hS2 : Sl (fun b => b < w.heap.size) (wr.alloc (.cells #[.slice none 0 0, .int .i64 st, .slice none 0 0] 25)) 1 (IntR (fun b => b < w.heap.size) (wr.alloc (.cells #[.slice none 0 0, .int .i64 st, .slice none 0 0] 25))) a.ranks (.slice A a.ranks.length c) :=
            Sl.move HR.out (fun b hb => hb) (frm_lt hGB.1) fun x _ cs h => moves_int _ _ _ _ _ _ (fun b hb => hb) (frm_lt hGB.1) h
          have hszB : (wr.alloc (.cells #[.slice none 0 0, .int .i64 st, .slice none 0 0] 25)).heap.size = wr.heap.size + 1 := World.size_alloc _ _
          obtain ⟨gs, hgs⟩ : ∃ gs, gs = wr.heap.size := ⟨_, rfl⟩
          rw [← hgs] at tB hszB hlw hsr3 hg2r hg3r ⊢
          have HIB := Lib.hid (ValsAt.frm HI.out hfB.1)
          have HNB2 := Lib.hid (ValsAt.frm hRE0.2.2 hfB.1)
          have HNL : Hid (N.length = a.moves.length) := hRE0.2.1
          have hG3B : Grew w3 (wr.alloc (.cells #[.slice none 0 0, .int .i64 st, .slice none 0 0] 25)) := grew_trans hRE0.1 hfB
          clear hgs hRE0 hfB HI HRE
          generalize wr.alloc (.cells #[.slice none 0 0, .int .i64 st, .slice none 0 0] 25) = wB at *
          obtain ⟨v3, wC, hrun, hO3, hg3, hp3⟩ := Own.app_sl moves_int elem_int (Own.nil IntR wB wB.heap.size 3 1 (fun _ => True)) 22 hS2 (fun b hb => ⟨trivial, by omega, fun e => by cases e⟩) (fun x cs h u hu => by
            obtain ⟨rfl, _⟩ := h
            simp only [List.mem_cons, List.not_mem_nil, or_false] at hu
            subst hu
            rfl) (by simp; omega) (by omega) (Nat.le_refl _)
          refine append_list _ _ rfl rfl rfl rfl hrun ?_
          have hGC : Grew wB wC := ⟨frm_weak hg3.1, hg3.2⟩
          rw [List.nil_append] at hO3
          have hsC := hGC.1.size
          have hRK : RowS 1 IntR (fun q => gs < q ∧ q < wC.heap.size) wC a.ranks [v3] := WR.rd (moves_row moves_int) ((own_int (ok' := fun _ => False) hO3).slW moves_int (by omega) (fun b h _ => h.elim) (fun b hb => by have := hO3.lt b hb; omega))
          obtain ⟨Ar, cr, rfl, hcr⟩ := hO3.val
          have tC := tB.frm hGC.1
          have htC := tC.set0 (.slice Ar a.ranks.length cr)
          have hfC0 := tC.free 0
          obtain ⟨tc0, tc1, tc2⟩ := tC.cells
          have hset : ∀ q, q ≠ gs → (wC.setCell ⟨gs, 0, none⟩ (.slice Ar a.ranks.length cr)).heap[q]? = wC.heap[q]? := fun q hq => Below.heap_setCell _ _ _ _ hq
          have HI8 := Lib.hid (ValsAt.move (ValsAt.frm HIB.out hGC.1) (hset g2 (by omega)))
          have HN8 := Lib.hid (ValsAt.move (ValsAt.frm HNB2.out hGC.1) (hset w3.heap.size (by omega)))
          have hG38 : Grew w3 (wC.setCell ⟨gs, 0, none⟩ (.slice Ar a.ranks.length cr)) := grew_set_new (grew_trans hG3B hGC) (by omega) _ _
          have HRK8 : Hid (RowS 1 IntR (fun q => gs < q ∧ q < wC.heap.size) (wC.setCell ⟨gs, 0, none⟩ (.slice Ar a.ranks.length cr)) a.ranks [.slice Ar a.ranks.length cr]) := moves_row moves_int _ _ _ _ _ _ (fun q hq => hq) (fun q hq => hset q (by omega)) hRK
          have HT8 := Lib.hid htC
          have hs8C : (wC.setCell ⟨gs, 0, none⟩ (.slice Ar a.ranks.length cr)).heap.size = wC.heap.size := by simp
          obtain ⟨xa0, xa1, xa2⟩ := (hxa.out wC (grew_trans hG3B hGC)).cells
          obtain ⟨w8, hw8⟩ : ∃ w8, w8 = wC.setCell ⟨gs, 0, none⟩ (.slice Ar a.ranks.length cr) := ⟨_, rfl⟩
          rw [← hw8] at HI8 HN8 HRK8 HT8 hs8C hG38
          have HW8 := Lib.hid hw8
          have h8g : gs < w8.heap.size := HT8.out.lt
          have hg28 : g2 < w8.heap.size := ValsAt.lt HI8.out
          have h38 : w3.heap.size < w8.heap.size := ValsAt.lt HN8.out
          have HG38 := Lib.hid hG38
          have hxf : Hid (wC.heap.size ≤ w8.heap.size) := by unfold Hid; omega
          clear hRK htC hset hO3 hrun hS2 hp3 tC hw8 hG38 hs8C HIB HNB2
          have HSTP : Hid (∀ (wx : World), Grew wC wx → wx.cell? ⟨gs, 0, none⟩ = some (.slice none 0 0)) := fun wx h => frm_cell h.1 tc0
          have hlwC : w.heap.size < wC.heap.size := by omega
          go_wp2_with fail
          rw [← HW8.out]
          clear tc0 tc1 tc2 hfC0 xa0 xa1 xa2
          have hsW : w.heap.size + 1 < w3.heap.size := hs3
          go_loopw [117] (fun i wr => ∃ (k : Nat) (mv : Value) (acc : List (List (List (List Nd)))), k ≤ a.moves.length ∧ i = .int .i64 k ∧ acc.length ≤ k ∧ Hid (acc = ((List.range k).filter (reachB a)).map (rowR a tl)) ∧ BQ w8 gs (.slice Ar a.ranks.length cr) st mv acc wr) (fun i _ => a.moves.length - (intOf i).toNat)
          case atStart => exact ⟨0, _, [], Nat.zero_le _, rfl, Nat.le_refl _, rfl, .refl _ _ _, HT8.out, Own.nil _ _ _ _ _ _⟩
          case round =>
            obtain ⟨k, mv, acc, hk, rfl, hal, HACC, hBQ⟩ := hrel
            have hG3r : Grew w3 wr := GrewG.grew HG38.out (by omega) (by omega) hBQ.1
            obtain ⟨xa0, xa1, xa2⟩ := (hxa.out wr hG3r).cells
            obtain ⟨gc0, gc1, gc2⟩ := hBQ.2.1.cells
            obtain ⟨Am, cm, hme, hmc⟩ := hBQ.2.2.val
            subst hme
            by_cases hlt : k < a.moves.length
            · have hNr := ValsAt.move HN8.out (hBQ.1.block w3.heap.size h38 (by omega))
              have hIr := ValsAt.move HI8.out (hBQ.1.block g2 hg28 (by omega))
              have hcN := BoolsAt.at hNr (i := k) (by rw [HNL.out]; exact hlt)
              have hNe : N[k]'(by rw [HNL.out]; exact hlt) = reachB a k := by
                rw [← HNB.out k]
                simp [HNL.out, hlt]
              rw [hNe] at hcN
              have HFR : Hid (((List.range (k + 1)).filter (reachB a)).map (rowR a tl) = ((List.range k).filter (reachB a)).map (rowR a tl) ++ if reachB a k then [rowR a tl k] else []) := by
                unfold Hid
                rw [List.range_succ, List.filter_append, List.map_append]
                congr 1
                cases h : reachB a k <;> simp [h]
              have HGr := Lib.hid (grew_trans hG3 hG3r)
              obtain ⟨b, o, p0, rfl, hb, hp0', hpt⟩ := HM.out.at1 k hlt
              have hp0 := frm_cell HGr.out.1 hp0'
              have HRE : Hid (rowR a tl k = (a.moves[k]).map (rmv (toL tl))) := by unfold Hid rowR; rw [show a.moves.getD k [] = a.moves[k] by simp [hlt]]
              have HOS := Lib.hid (ok_state HOK.out _ (List.getElem_mem hlt))
              have HOR := Lib.hid ((ok_rows HOK.out).2 _ (List.getElem_mem hlt))
              have hrl := HOR.out.1
              generalize a.moves[k] = row at *
              obtain ⟨A2, c2, rfl⟩ := row_slice hpt
              have HTr := Lib.hid (IntsAt.sl hIr (n := a.moves.length) HLE.out.symm (by rw [HLE.out]; omega) (fun x hx => by have := HTB.out x hx; omega))
              have HMV := Lib.hid (bq_row hBQ h8g (by omega) (rdO_frm moves_rule HGr.out.1 hpt) HTr.out (fun l hl x hx y hy => by rw [HLE.out]; exact HOS.out l hl x hx y hy) (by omega) (fun l hl => ⟨by have := (HOR.out.2 l hl).1; omega, fun x hx => by have := ((HOR.out.2 l hl).2 x hx).1; omega⟩))
              have HG0 : Grew wr wr.drew := grew_drew _
              have HAL := Lib.hid hal
              have HBQ := Lib.hid hBQ
              have ik0 : (0 : Int) ≤ (k : Int) := by omega
              have ik1 : (k : Int) < a.moves.length := by omega
              clear hp0' hpt hBQ hal hNe hNr hIr
              cases hre : reachB a k
              · rw [hre] at hcN HFR
                have HF2 : Hid (acc = ((List.range (k + 1)).filter (reachB a)).map (rowR a tl)) := by unfold Hid; rw [HFR.out, HACC.out]; simp
                clear hre
                go_wp2_with fail
                exact ⟨⟨k + 1, _, acc, by omega, by go_num, by have := HAL.out; omega, HF2, HBQ.out⟩, by simp [intOf]; omega⟩
              · rw [hre] at hcN HFR
                have HF2 : Hid (acc ++ [row.map (rmv (toL tl))] = ((List.range (k + 1)).filter (reachB a)).map (rowR a tl)) := by unfold Hid; rw [HFR.out, HACC.out, HRE.out]; simp
                clear hre gc0 gc1
                go_wp2_with fail
                go_region_law (first | (rw [if_pos (by rfl)]; refine append_wp (.tmp 127) (.tmp 131) rfl rfl rfl hrun9 ?_) | (go_simp; go_at_call 35; (with_reducible refine (HMV.out _ (by assumption)).mono ?_); rintro e w5' ⟨A8, c8, rfl, gc5, A9, c9, w9, hrun9, gc9, gf9, hBR9⟩; have hgl5 : gs < w5'.heap.size := World.block_lt_of_cell? _ _ gc5; dsimp only))
                all_goals
                  have HBR9 := Lib.hid hBR9
                  clear hBR9 hrun9
                  go_wp2_with fail
                  exact ⟨⟨k + 1, _, acc ++ [row.map (rmv (toL tl))], by omega, by go_num, by rw [List.length_append, List.length_singleton]; have := HAL.out; omega, HF2, HBR9.out⟩, by simp [intOf]; omega⟩
            · obtain rfl : k = a.moves.length := by omega
              have HAE : Hid (acc = (reachA a).moves) := by
                unfold Hid
                rw [HACC.out, ← HTE.out]
                rfl
              have xr9 := (xr.frm hf3.1).frm hG3r.1
              obtain ⟨kx0, kx1, kx2⟩ := xr9.cells
              have kxf0 := xr9.free 0
              have kxf1 := xr9.free 1
              have kxf2 := xr9.free 2
              have hsl9 := hBQ.2.2.sl2 moves_rule (S := fun q => w3.heap.size ≤ q ∧ q < wr.heap.size) (by omega) (fun q h1 h2 => ⟨by omega, h2⟩) (fun q hq => by have := hBQ.2.2.lt q hq; omega)
              have hrk9 : RowS 1 IntR (fun q => w3.heap.size ≤ q ∧ q < wr.heap.size) wr a.ranks [.slice Ar a.ranks.length cr] := moves_row moves_int _ _ _ _ _ _ (fun q hq => ⟨by omega, by have := hxf.out; have := hBQ.1.size; omega⟩) (fun q hq => hBQ.1.block q (by have := hxf.out; omega) (by omega)) HRK8.out
              have HRK9 := Lib.hid hrk9
              have HSL9 := Lib.hid hsl9
              have HG9 := Lib.hid (grew_trans hG3 hG3r)
              have hs9 := hG3r.1.size
              clear hsl9 hrk9 xr9 hBQ
              go_wp2_with fail
              refine bodyPost_ret (v := .tuple #[.agg #[.slice Ar a.ranks.length cr, .int .i64 st, .slice Am acc.length cm], .int .i64 0]) (by simp [results, Tryd.results15, go_sem, kx0, kx1, kx2, kxf0, kxf1, kxf2]) rfl ⟨.slice Ar a.ranks.length cr, .slice Am acc.length cm, ?_, ?_, ?_⟩
              · rw [HJ.out.1, HJ.out.2, HSTA.out]
              · exact grew_set_new (grew_set_new (grew_set_new HG9.out (by omega) _ _) (by omega) _ _) (by omega) _ _
              · rw [HJ.out.2]
                have hset : ∀ q, q ≠ w.heap.size + 1 → (((wr.setCell ⟨w.heap.size + 1, 0, none⟩ (.slice Ar a.ranks.length cr)).setCell ⟨w.heap.size + 1, 1, none⟩ (.int .i64 st)).setCell ⟨w.heap.size + 1, 2, none⟩ (.slice Am acc.length cm)).heap[q]? = wr.heap[q]? := fun q hq => by
                  rw [Below.heap_setCell _ _ _ _ (by show q ≠ w.heap.size + 1; exact hq), Below.heap_setCell _ _ _ _ (by show q ≠ w.heap.size + 1; exact hq), Below.heap_setCell _ _ _ _ (by show q ≠ w.heap.size + 1; exact hq)]
                refine ⟨_, _, rfl, ?_, ?_, by rw [← HSTA.out]; omega, by rw [← HSTA.out]; omega⟩
                · exact moves_row moves_int _ _ _ _ _ _ (fun b hb => by have := hb.2; simp; omega) (fun b hb => hset b (by omega)) HRK9.out
                · refine ⟨_, rfl, ?_⟩
                  rw [← HAE.out]
                  exact Sl.move HSL9.out (fun b hb => by have := hb.2; simp; omega) (fun b hb => hset b (by omega)) fun x _ cs h => moves_rule _ _ _ _ _ _ (fun b hb => by have := hb.2; simp; omega) (fun b hb => hset b (by omega)) h
end Go.Proofs.YtjpdmncafacmaaaDoor
end
/- The law MixReach, beside the chapter's example. -/
section
set_option linter.unusedVariables false
set_option linter.unusedSimpArgs false
namespace Go.Proofs.YtjpdmncafacmaaaDoor
open Go.RowKit

set_option maxRecDepth 100000 in
set_option maxHeartbeats 1000000 in
theorem lreach_calls (a : Au) (w : World) (hT : Tab w) (r m : Value) (ha : rdO AuR w a [r, .int .i64 a.start, m]) :
    Calls Tryd.prog 5 #[.agg #[r, .int .i64 a.start, m]] w (RetD w (.bool true)) := by
  have HA := Lib.hid ha
  have HTB := Lib.hid hT
  clear ha hT
  obtain ⟨w2, hw2⟩ : ∃ w2, w2 = w.alloc (.cells #[r, .int .i64 a.start, m] 25) := ⟨_, rfl⟩
  have hG2 : Grew w w2 := by rw [hw2]; exact grew_alloc _ _
  have xa : ThreeAt w2 w.heap.size r (.int .i64 a.start) m 25 := by rw [hw2]; exact ThreeAt.new w _ _ _ _
  have hP := reach_calls a w2 (HTB.out.grew hG2) _ _ (rdO_frm moves_au hG2.1 HA.out)
  rw [hw2] at hP
  have HP := Lib.hid hP
  have HW2 := Lib.hid hw2
  have HJ0 := Lib.hid (reach_zero a)
  clear hw2 hP
  go_enter Tryd.func5, Tryd.ntmps5
  go_wp2_with fail
  refine HP.out.mono ?_
  rw [← HW2.out]
  rintro e w3 ⟨r3, m3, rfl, hf3, hr3⟩
  have HRF : Hid (∀ w5, Grew w w5 → Calls Tryd.prog _ #[.agg #[r, .int .i64 a.start, m]] w5 (RetQ w5 (reachV a) (reachE a))) := fun w5 hg => rreach_calls a w5 _ _ (rdO_frm moves_au hg.1 HA.out)
  generalize hV : reachV a = V at *
  generalize hE : reachE a = E at *
  obtain ⟨A3, n3, c3, B3, p3, d3, rfl, rfl⟩ := au_slices hr3
  have HR3 := Lib.hid hr3
  have hG3 := grew_trans hG2 hf3
  obtain ⟨xa0, xa1, xa2⟩ := (xa.frm hf3.1).cells
  have hl3' := (xa.frm hf3.1).lt
  clear hr3 hV hE
  go_wp2_with fail
  have x5 := ThreeAt.new w3 (.slice A3 n3 c3) (.int .i64 V.start) (.slice B3 p3 d3) 25
  have hG4 := grew_then_alloc hG3 (.cells #[.slice A3 n3 c3, .int .i64 V.start, .slice B3 p3 d3] 25)
  refine (HRF.out _ hG4).mono ?_
  rintro e w5 ⟨r5, m5, rfl, hf5, hr5⟩
  obtain ⟨A5, n5, c5, B5, p5, d5, rfl, rfl⟩ := auQ_slices hr5
  have hf35 := grew_trans (grew_alloc w3 (.cells #[.slice A3 n3 c3, .int .i64 V.start, .slice B3 p3 d3] 25)) hf5
  have hG5 := grew_trans hG3 hf35
  obtain ⟨x50, x51, x52⟩ := (x5.frm hf5.1).cells
  have hl5 := (x5.frm hf5.1).lt
  have HR5 := Lib.hid hr5
  have x7 := ThreeAt.new w5 (.slice A5 n5 c5) (.int .i64 V.start) (.slice B5 p5 d5) 25
  have hG6 := grew_then_alloc hG5 (.cells #[.slice A5 n5 c5, .int .i64 V.start, .slice B5 p5 d5] 25)
  have HIS := Lib.hid (isV_calls V E HJ0.out.1 HJ0.out.2 (w5.alloc (.cells #[.slice A5 n5 c5, .int .i64 V.start, .slice B5 p5 d5] 25)) _ _ _ _
    (rdO_frm moves_au (frm_alloc w5 _) (au_read HR3.out hf35)) (rdO_frm moves_au (frm_alloc w5 _) HR5.out))
  clear hr5 xa0 xa1 xa2 x5
  go_wp2_with fail
  refine HIS.out.mono ?_
  rintro e w8 ⟨rfl, hf8⟩
  dsimp only
  go_wp2_with fail
  refine (alive_calls _ (HTB.out.grew (grew_trans hG6 hf8))).mono ?_
  rintro e w9 ⟨rfl, hf9⟩
  dsimp only
  go_wp2_with fail
  exact bodyPost_ret (results_tmp rfl _ _ _) rfl ⟨rfl, grew_trans hG6 (grew_trans hf8 hf9)⟩
end Go.Proofs.YtjpdmncafacmaaaDoor
end
/- MixReach: the law's walk lifted to its row, and the tied card. -/
section
set_option linter.unusedVariables false
set_option linter.unusedSimpArgs false
namespace Go.Proofs.YtjpdmncafacmaaaDoor.mixReach
open Go.ChangeShapes Go.WideShapes Go.ChangeAt Go.RowKit
open Go.ChangeMaps (open_string shut_string)
theorem own : ownKnob Tryd.prog.godebug = none := by kernel_rfl
theorem laidOut : laidOutB Tryd.prog = true := by kernel_rfl
theorem gTab : Tryd.prog.globalNamed "math/bits.deBruijn64tab" = some 1 := by kernel_rfl
theorem gTabType : (Tryd.prog.globals[1]?).map (·.type) = some 131 := by kernel_rfl
theorem cellsTab : Tryd.prog.cellsOf 131 = 64 := by kernel_rfl
theorem cellsU8 : Tryd.prog.cellsOf 5 = 1 := by kernel_rfl
theorem table {W : World} (h : laidMetH Tryd.prog Rows.mixReachRow.laid W) : Tab W :=
  tab_of (Lib.tabIs_of_head (rest := []) gTab gTabType Tryd.underlying131 Tryd.underlying5 cellsU8 cellsTab (laidMet.tail h))
set_option maxRecDepth 100000 in
theorem contract (H : Type) (enc : TypeId × Value → H) (W : World) (base : Nat) (args : Array Value) (ds gs : List (DataW H)) (before : List MemPlace)
    (hval0 : ∀ (j : Nat) t v, Tryd.f5.params[j]? = some t → args[j]? = some v → Value.okWide Tryd.prog W .any base t v)
    (hW : DataW.Whole enc Tryd.prog Tryd.f5.params.toList Rows.mixReachSpec.vars false W args.toList ds gs before) (hL : laidMetH Tryd.prog Rows.mixReachRow.laid W)
    (hsz0 : (DataW.weightsEach Tryd.prog (Tryd.f5.params.toList ++ Rows.mixReachSpec.plain.varTypes Tryd.prog) (ds ++ gs)).all (· ≤ reachBytes) = true) :
    Calls Tryd.prog 5 args W fun e W' => ∃ v, e = .returned v ∧ Rows.mixReachSpec.post enc Tryd.prog Tryd.f5 false true false false W args v W' := by
  have hsz : (DataW.weightsEach Tryd.prog (Tryd.f5.params.toList ++ Rows.mixReachSpec.plain.varTypes Tryd.prog) (ds ++ gs)).all (· ≤ reachBytes) = true := hsz0
  have hval : ∀ (j : Nat) t v, Tryd.f5.params[j]? = some t → args[j]? = some v → Value.okWide Tryd.prog W .any base t v := hval0
  have hW' := hW
  obtain ⟨p, q, hA0, hV, rfl, hfz, hnd⟩ := hW
  have hA : DataW.TrodAll enc Tryd.prog W 0 (fun _ => true) true Tryd.f5.params.toList args.toList ds p := hA0
  rw [Tryd.params5] at hA hval hsz
  obtain ⟨a0, vs0, d0, ds0, p0, q0, hargs, rfl, rfl, h0, r0⟩ := trodAll_cons hA
  obtain ⟨rfl, rfl, rfl⟩ := trodAll_nil r0
  obtain rfl : args = #[a0] := by cases args; simp_all
  obtain ⟨rfl, rfl⟩ := trodVars_none hV
  have k0 := h0
  have lt0 : ∀ x ∈ p0, x.block < W.heap.size := by obtain ⟨m, hm⟩ := k0; exact DataW.trod_lt m _ _ _ hm
  have o0 := arg_au (hval 0 25 a0 rfl rfl) h0 (fun n hn => by simpa using List.all_eq_true.1 hsz _ (DataW.weights_mem_each (j := 0) (t := 25) rfl rfl n hn))
  obtain ⟨t0, v0, u0, rfl, x0⟩ := o0
  have htab := table hL
  clear hA0 hval0 hsz0
  refine (lreach_calls t0 W htab v0 u0 x0).mono fun e W' ⟨he, hf⟩ => ?_
  have bel : Below W.heap.size W W' := ⟨hf.1.os, hf.1.tape, hf.1.output, hf.1.size, fun k hk => hf.1.block k hk (by simp)⟩
  subst he
  exact ⟨_, rfl, _, _, _, [], _, [], hW', trodAll_mk1 (shut_bool Tryd.underlying4 _), (trodAll_cons_mk (Below.trod laidOut (by kernel_rfl) (of_decide_eq_true (by kernel_rfl)) k0 bel lt0) trodAll_mk0), rfl, bel.frame _, fun h => by cases h⟩

/-- A world for the witness: the listed variables hold what their initialisers lay. -/
noncomputable def laidWorld (os : Os) : World :=
  { World.holding Tryd.prog os ⟨#[], #[], []⟩ with heap := laidHeap (World.holding Tryd.prog os ⟨#[], #[], []⟩).heap }
theorem laid_met (os : Os) : laidMet Tryd.prog Rows.mixReachRow.laid ((laidWorld os).forCall (fun _ _ => 0) ⟨#[], #[.agg #[.slice none 0 0, .int .i64 0, .slice none 0 0]], []⟩).memory :=
  laidMet_of_run' 64 (by kernel_rfl) (by kernel_rfl)
theorem reads (os : Os) {H : Type} (enc : TypeId × Value → H) : ∃ places, DataW.whole enc Tryd.prog ((laidWorld os).forCall (fun _ _ => 0) ⟨#[], #[.agg #[.slice none 0 0, .int .i64 0, .slice none 0 0]], []⟩).memory Tryd.f5.params.toList Rows.mixReachSpec.vars false #[(.agg #[.slice none 0 0, .int .i64 0, .slice none 0 0] : Value)].toList 64 = some ([.agg [.nil, .lit (.int .i64 0), .nil]], [], places) :=
  ⟨[], by kernel_rfl⟩
set_option maxRecDepth 100000 in
theorem lifted (os : Os) (started : os.Started) (H : Type) (enc : TypeId × Value → H) (F : Stop.Interp) :
    ReturnsInHanded {} Tryd.checked os 5 .any ((OpenSpec.ofChange Rows.mixReachSpec).preRow enc Tryd.prog Tryd.f5 Rows.mixReachRow.domain false Rows.mixReachRow.laid) (((OpenSpec.ofChange Rows.mixReachSpec).at F).post enc Tryd.prog Tryd.f5 false true false false) := by
  obtain ⟨places, hx⟩ := reads os enc
  refine returnsInHanded_of_row (C := Tryd.checked) (s := OpenSpec.ofChange Rows.mixReachSpec) own started (by kernel_rfl) Tryd.func5
    (witness_row_at (enc := enc) (C := Tryd.checked) false (laidWorld os) #[.agg #[.slice none 0 0, .int .i64 0, .slice none 0 0]] rfl (by kernel_rfl) (by kernel_rfl) (by kernel_rfl)
      (OpenSpec.preRow_of_cond 64 hx (by kernel_rfl) (fun k hk => by cases hk) (by kernel_rfl) (laid_met os))) ?_
  intro W base args ds gs before hval hW _ _ hsz hL _ _
  exact contract H enc W base args ds gs before hval hW hL hsz
theorem said : Rows.MixReachSaid :=
  OpenClaim.holds_of_cond 5 Tryd.f5 rfl rfl rfl rfl rfl rfl rfl ⟨rfl, rfl, rfl, rfl, rfl⟩ rfl rfl rfl rfl rfl (by kernel_rfl) Tryd.func5 (by kernel_rfl)
    (of_decide_eq_true (by kernel_rfl)) (by unfold Func.isWrapper; first | (rw [if_pos (by decide +kernel)]; kernel_rfl) | (rw [if_neg (by decide +kernel)]; exact ⟨rfl, rfl⟩))
    (fun os started H enc _ F => by rw [OpenClaim.pre_eq_preRow]; exact lifted os started H enc F)
set_option maxRecDepth 100000 in
theorem plain (f : FuncId) (fn : Func) (hf : Tryd.pinned.checked.prog.funcNamed "virgation/virgationlaw10.MixReach" = some f) (hfn : Tryd.pinned.checked.prog.funcs[f]? = some fn) :
    false = Tryd.pinned.checked.prog.looks [] ∧ ∀ (j : Nat) t, fn.params[j]? = some t → Tryd.pinned.checked.prog.wantsStandIn t = false := by
  obtain rfl : f = 5 := Option.some.inj ((show Tryd.prog.funcNamed "virgation/virgationlaw10.MixReach" = some 5 by kernel_rfl).symm.trans hf) |>.symm
  obtain rfl : fn = Tryd.f5 := (Option.some.inj (Tryd.func5.symm.trans hfn)).symm
  refine ⟨by kernel_rfl, fun j t ht => ?_⟩
  rw [Tryd.params5] at ht
  have s0 : Tryd.prog.wantsStandIn 25 = false := by kernel_rfl
  have hm := Array.mem_of_getElem? ht
  simp only [List.mem_toArray, List.mem_cons, List.not_mem_nil, or_false] at hm
  rcases hm with rfl
  all_goals assumption
theorem card : Rows.MixReachCardSaid :=
  Claim7.holds_tied_plain_at .later [] _ _ _ _ said (fun _ h => by cases h) (by kernel_rfl) (fun _ h => by cases h) mixReach_row_tie rfl ⟨rfl, rfl⟩ (by kernel_rfl) rfl plain (by kernel_rfl)
end Go.Proofs.YtjpdmncafacmaaaDoor.mixReach
namespace Go.Proofs.YtjpdmncafacmaaaDoor
/-- The card, under a short name, for the claim. -/
theorem mixReach_holds : Rows.MixReachCardSaid := mixReach.card
end Go.Proofs.YtjpdmncafacmaaaDoor
end
