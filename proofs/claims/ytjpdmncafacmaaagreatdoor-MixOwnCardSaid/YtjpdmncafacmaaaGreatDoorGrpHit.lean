/- GrpHit: parts of the walks, one section each: the texts Cont, PlainW, Vals, Bits24, List24, HitP, HitN, HitW, DualA, DualB, NoneP, WaysP. -/
import Derived.Test.YtjpdmncafacmaaaGreatDoorGrpC
import Derived.Test.YtjpdmncafacmaaaGreatDoorClos
import Derived.Test.YtjpdmncafacmaaaGreatDoorJoinW
import Derived.Test.YtjpdmncafacmaaaGreatDoorGrpA
import Derived.Laws.MakeOwn
import Derived.Test.YtjpdmncafacmaaaGreatDoorRefBothD
import Derived.Test.YtjpdmncafacmaaaGreatDoorOnce
import Derived.Test.YtjpdmncafacmaaaGreatDoorGrpB
/- contains: a list of needs holds every need of another one. -/
section
set_option linter.unusedVariables false
set_option linter.unusedSimpArgs false
namespace Go.Proofs.YtjpdmncafacmaaaGreatDoor
open Go.RowKit

def IdxD (w : World) (b : Bool) (e : Ending) (w' : World) : Prop := ∃ z : Int, e = .returned (.int .i64 z) ∧ decide (z ≥ 0) = b ∧ (-1 ≤ z ∧ z ≤ 140737488351232) ∧ Grew w w'
set_option maxRecDepth 20000 in
set_option maxHeartbeats 1000000 in
theorem index_calls (xs : List Nd) (y : Nd) (w : World) (v : Value) (hx : SlO w 2 (rdO NdR) xs v) :
    Calls Tryz.prog 117 #[v, .agg #[.int .i64 y.1, .int .i64 y.2]] w (IdxD w (xs.any (eqN y))) := by
  obtain ⟨A, c, rfl, hc, hm⟩ := hx.val
  go_enter Tryz.func117, Tryz.ntmps117
  go_wp2_with fail
  obtain ⟨wo, hwo⟩ : ∃ wo : World, wo = w.alloc (.cells #[.int .i64 y.1, .int .i64 y.2] 80) := ⟨_, rfl⟩
  have hty : TwoAt wo w.heap.size (.int .i64 y.1) (.int .i64 y.2) 80 := by rw [hwo]; exact TwoAt.new _ _ _ _
  have hfo : Grew w wo := by rw [hwo]; exact grew_alloc w _
  rw [← hwo]
  clear hwo
  have HT := Lib.hid hty
  have HFO := Lib.hid hfo
  clear hty hfo
  generalize w.heap.size = gx at *
  go_loopw [8] (fun i wr => ∃ k : Nat, k ≤ xs.length ∧ i = .int .i64 k ∧ Grew wo wr ∧ Hid (xs.any (eqN y) = (xs.drop k).any (eqN y))) (fun i _ => xs.length - (intOf i).toNat)
  case atStart => exact ⟨0, Nat.zero_le _, rfl, grew_refl _, rfl⟩
  case round =>
    obtain ⟨k, hk, rfl, hfr, HC⟩ := hrel
    by_cases hlt : k < xs.length
    · obtain ⟨b, o, p0, p1, rfl, hb, hp0, hp1, hpt⟩ := (hx.frm (grew_trans HFO.out hfr).1 (stays_rd moves_nd)).at2 k hlt
      obtain ⟨hpv, _⟩ := hpt
      simp only [List.cons.injEq, and_true] at hpv
      obtain ⟨rfl, rfl⟩ := hpv
      have hd : Hid ((xs.drop k).any (eqN y) = (eqN y xs[k] || (xs.drop (k + 1)).any (eqN y))) := by
        unfold Hid
        rw [List.drop_eq_getElem_cons hlt, List.any_cons]
      generalize xs[k] = x at *
      obtain ⟨x0, x1, _, _⟩ := (HT.out.move (frm_lt hfr.1 _ HT.out.lt)).cells
      have e2 : (0 : Int) ≤ (k : Int) := by omega
      have e3 : (k : Int) < xs.length := by omega
      have e3' : (k : Int) ≤ xs.length := by omega
      cases heq : eqN y x
      · have HD : Hid (xs.any (eqN y) = (xs.drop (k + 1)).any (eqN y)) := by
          unfold Hid
          rw [HC.out, hd.out, heq, Bool.false_or]
        have hrun : ∀ w : World, (binOp .eql 80 (.agg #[.int .i64 y.1, .int .i64 y.2]) (.agg #[.int .i64 x.1, .int .i64 x.2])).run Tryz.prog w = .ok (.bool false) w := fun w => by rw [run_eqN, heq]
        clear heq
        go_wp2_with fail
        go_quiet (fail)
        have hG := grew_trans hfr (⟨frm_drewN _ nq, Nat.le_add_right _ _⟩ : Grew _ _)
        go_wp2_with fail
        exact ⟨⟨k + 1, by omega, by go_num, hG, HD⟩, by simp [intOf]; omega⟩
      · have HD : Hid (xs.any (eqN y) = true) := by
          unfold Hid
          rw [HC.out, hd.out, heq, Bool.true_or]
        have hrun : ∀ w : World, (binOp .eql 80 (.agg #[.int .i64 y.1, .int .i64 y.2]) (.agg #[.int .i64 x.1, .int .i64 x.2])).run Tryz.prog w = .ok (.bool true) w := fun w => by rw [run_eqN, heq]
        clear heq
        go_wp2_with fail
        go_quiet (fail)
        have hG := grew_trans hfr (⟨frm_drewN _ nq, Nat.le_add_right _ _⟩ : Grew _ _)
        go_wp2_with fail
        refine bodyPost_ret (results_tmp rfl _ _ _) rfl ⟨(k : Int), rfl, ?_, by omega, grew_trans HFO.out hG⟩
        rw [HD.out]
        exact decide_eq_true (by omega)
    · have HD : Hid (xs.any (eqN y) = false) := by
        unfold Hid
        rw [HC.out, List.drop_eq_nil_of_le (by omega)]
        rfl
      go_wp2_with fail
      refine bodyPost_ret (results_tmp rfl _ _ _) rfl ⟨-1, rfl, ?_, by omega, grew_trans HFO.out hfr⟩
      rw [HD.out]
      rfl
set_option maxRecDepth 20000 in
theorem hasN_calls (xs : List Nd) (y : Nd) (w : World) (v : Value) (hx : SlO w 2 (rdO NdR) xs v) :
    Calls Tryz.prog 88 #[v, .agg #[.int .i64 y.1, .int .i64 y.2]] w (RetD w (.bool (xs.any (eqN y)))) := by
  obtain ⟨A, c, rfl, hc, hm⟩ := hx.val
  have hfa := grew_alloc w (.cells #[.int .i64 y.1, .int .i64 y.2] 80)
  have H := Lib.hid (index_calls xs y _ _ (hx.frm hfa.1 (stays_rd moves_nd)))
  have HFA := Lib.hid hfa
  clear hx hfa
  go_enter Tryz.func88, Tryz.ntmps88
  go_wp2_with fail
  refine H.out.mono ?_
  rintro e w1 ⟨z, rfl, hz, hzb, hf⟩
  have HZ := Lib.hid hz
  clear hz
  go_wp2_with fail
  exact bodyPost_ret (results_tmp rfl _ _ _) rfl ⟨by rw [← HZ.out]; rfl, grew_trans HFA.out hf⟩
/-- What a function value says of a need, from a world on. -/
def PredFn (F : Nat) (cb : Array Value) (w : World) (b : Bool) (x : Nd) : Prop :=
  ∀ w', Grew w w' → Calls Tryz.prog F (#[.agg #[.int .i64 x.1, .int .i64 x.2]] ++ cb) w' (RetD w' (.bool b))
set_option maxRecDepth 20000 in
set_option maxHeartbeats 1000000 in
theorem idxF_calls (xs : List Nd) (p : Nd → Bool) (F : Nat) (cb : Array Value) (w : World) (v : Value) (eg : ∀ args w, (callFunc F args).run Tryz.prog w = .ok (.enter F args) w)
    (hF : ∀ x ∈ xs, PredFn F cb w (p x) x) (hx : SlO w 2 (rdO NdR) xs v) :
    Calls Tryz.prog 109 #[v, .func (.func F) #[] cb] w (IdxD w (xs.any p)) := by
  obtain ⟨A, c, rfl, hc, hm⟩ := hx.val
  have HF := Lib.hid hF
  clear hF
  go_enter Tryz.func109, Tryz.ntmps109
  go_wp2_with fail
  go_loopw [8] (fun i wr => ∃ k : Nat, k ≤ xs.length ∧ i = .int .i64 k ∧ Grew w wr ∧ Hid (xs.any p = (xs.drop k).any p)) (fun i _ => xs.length - (intOf i).toNat)
  case atStart => exact ⟨0, Nat.zero_le _, rfl, grew_refl _, rfl⟩
  case round =>
    obtain ⟨k, hk, rfl, hfr, HC⟩ := hrel
    by_cases hlt : k < xs.length
    · obtain ⟨b, o, p0, p1, rfl, hb, hp0, hp1, hpt⟩ := (hx.frm hfr.1 (stays_rd moves_nd)).at2 k hlt
      obtain ⟨hpv, _⟩ := hpt
      simp only [List.cons.injEq, and_true] at hpv
      obtain ⟨rfl, rfl⟩ := hpv
      have hd : Hid ((xs.drop k).any p = (p xs[k] || (xs.drop (k + 1)).any p)) := by
        unfold Hid
        rw [List.drop_eq_getElem_cons hlt, List.any_cons]
      have H1 := Lib.hid (HF.out _ (List.getElem_mem hlt) wr hfr)
      generalize xs[k] = x at *
      go_wp2_with fail
      go_at_fn F
      refine H1.out.mono ?_
      rintro e w1 ⟨rfl, hf⟩
      dsimp only
      have hG := grew_trans hfr hf
      cases heq : p x
      · have HD : Hid (xs.any p = (xs.drop (k + 1)).any p) := by
          unfold Hid
          rw [HC.out, hd.out, heq, Bool.false_or]
        clear heq
        go_wp2_with fail
        exact ⟨⟨k + 1, by omega, by go_num, hG, HD⟩, by simp [intOf]; omega⟩
      · have HD : Hid (xs.any p = true) := by
          unfold Hid
          rw [HC.out, hd.out, heq, Bool.true_or]
        clear heq
        go_wp2_with fail
        refine bodyPost_ret (results_tmp rfl _ _ _) rfl ⟨(k : Int), rfl, ?_, by omega, hG⟩
        rw [HD.out]
        exact decide_eq_true (by omega)
    · have HD : Hid (xs.any p = false) := by
        unfold Hid
        rw [HC.out, List.drop_eq_nil_of_le (by omega)]
        rfl
      go_wp2_with fail
      refine bodyPost_ret (results_tmp rfl _ _ _) rfl ⟨-1, rfl, ?_, by omega, hfr⟩
      rw [HD.out]
      rfl
set_option maxRecDepth 20000 in
theorem hasF_calls (xs : List Nd) (p : Nd → Bool) (F : Nat) (cb : Array Value) (w : World) (v : Value) (eg : ∀ args w, (callFunc F args).run Tryz.prog w = .ok (.enter F args) w)
    (hF : ∀ x ∈ xs, PredFn F cb w (p x) x) (hx : SlO w 2 (rdO NdR) xs v) :
    Calls Tryz.prog 71 #[v, .func (.func F) #[] cb] w (RetD w (.bool (xs.any p))) := by
  have H := Lib.hid (idxF_calls xs p F cb w v eg hF hx)
  obtain ⟨A, c, rfl, hc, hm⟩ := hx.val
  clear hF hx
  go_enter Tryz.func71, Tryz.ntmps71
  go_wp2_with fail
  refine H.out.mono ?_
  rintro e w1 ⟨z, rfl, hz, hzb, hf⟩
  have HZ := Lib.hid hz
  clear hz
  go_wp2_with fail
  exact bodyPost_ret (results_tmp rfl _ _ _) rfl ⟨by rw [← HZ.out]; rfl, hf⟩
set_option maxRecDepth 20000 in
theorem cont1_calls (l : List Nd) (x : Nd) (w : World) (v : Value) (g : Nat) (hg : w.cell? ⟨g, 0, none⟩ = some v) (hx : SlO w 2 (rdO NdR) l v) :
    Calls Tryz.prog 87 #[.agg #[.int .i64 x.1, .int .i64 x.2], .pointer (some ⟨g, 0, none⟩)] w (RetD w (.bool (!l.any (eqN x)))) := by
  have hlt := World.block_lt_of_cell? _ _ hg
  have hl : g < w.heap.size := by simpa using hlt
  obtain ⟨A, c, rfl, hc, hm⟩ := hx.val
  have hfa := grew_alloc w (.cells #[.int .i64 x.1, .int .i64 x.2] 80)
  have H := Lib.hid (hasN_calls l x _ _ (hx.frm hfa.1 (stays_rd moves_nd)))
  have HFA := Lib.hid hfa
  clear hx hfa
  go_enter Tryz.func87, Tryz.ntmps87
  go_wp2_with fail
  refine H.out.mono ?_
  rintro e w1 ⟨rfl, hf⟩
  go_wp2_with fail
  exact bodyPost_ret (results_tmp rfl _ _ _) rfl ⟨rfl, grew_trans HFA.out hf⟩
set_option maxRecDepth 20000 in
theorem cont_calls (l part : List Nd) (w : World) (v u : Value) (hx : SlO w 2 (rdO NdR) l v) (hy : SlO w 2 (rdO NdR) part u) :
    Calls Tryz.prog 43 #[v, u] w (RetD w (.bool (within part l))) := by
  obtain ⟨wo, hwo⟩ : ∃ wo : World, wo = w.alloc (.cells #[v] 76) := ⟨_, rfl⟩
  have hfa : Grew w wo := by rw [hwo]; exact grew_alloc w _
  have hg : wo.cell? ⟨w.heap.size, 0, none⟩ = some v := by
    have hb : wo.heap[w.heap.size]? = some (.cells #[v] 76) := by
      rw [hwo]
      show (w.heap.push _)[w.heap.size]? = _
      simp
    simp [World.cell?, hb]
  have H := Lib.hid (hasF_calls part (fun x => !l.any (eqN x)) 87 #[.pointer (some ⟨w.heap.size, 0, none⟩)] wo u (enters_of Tryz.func87 (by kernel_rfl) rfl)
    (fun x _ w' hw' => cont1_calls l x w' v w.heap.size (frm_cell hw'.1 hg) (hx.frm (grew_trans hfa hw').1 (stays_rd moves_nd))) (hy.frm hfa.1 (stays_rd moves_nd)))
  have HE : Hid (within part l = !part.any (fun x => !l.any (eqN x))) := by
    unfold Hid within
    rw [List.not_any_eq_all_not]
    simp
  obtain ⟨A, c, rfl, hc, hm⟩ := hx.val
  obtain ⟨B, d, rfl, hd, hm2⟩ := hy.val
  have HFA := Lib.hid hfa
  clear hx hy hfa hg
  go_enter Tryz.func43, Tryz.ntmps43
  go_wp2_with fail
  rw [← hwo]
  refine H.out.mono ?_
  rintro e w1 ⟨rfl, hf⟩
  go_wp2_with fail
  exact bodyPost_ret (results_tmp rfl _ _ _) rfl ⟨by rw [HE.out]; rfl, grew_trans HFA.out hf⟩
end Go.Proofs.YtjpdmncafacmaaaGreatDoor
end
/- mix's Plain: the alternatives that contain others are left out. -/
section
set_option linter.unusedVariables false
set_option linter.unusedSimpArgs false
namespace Go.Proofs.YtjpdmncafacmaaaGreatDoor
open Go.RowKit

def plainM (m : List (List (List (List Nd)))) : List (List (List (List Nd))) := m.map (·.map smallest)
def plainA (a : Au) : Au := ⟨a.ranks, a.start, plainM a.moves⟩
def plainE (a : Au) : Int := if a.ok then 0 else 10
def plainV (a : Au) : Au := if a.ok then plainA a else Au.zero
theorem own_nd {w : World} {base e k : Nat} {ok ok' : Nat → Prop} {v : Value} {xs : List Nd} (h : Own NdR w base e k ok v xs) : Own (WR NdR) w base e k ok' v xs := h
set_option maxRecDepth 100000 in
set_option maxHeartbeats 4000000 in
theorem plain_calls (a : Au) (w : World) (r m : Value) (ha : rdO AuR w a [r, .int .i64 a.start, m]) :
    Calls Tryz.prog 15 #[.agg #[r, .int .i64 a.start, m]] w (RetA w (plainV a) (plainE a)) := by
  obtain ⟨hR, hM, hs1, hs2⟩ := AuR.parts ha
  obtain ⟨A, c, rfl, hc, hlm⟩ := hR.val
  obtain ⟨B, d, rfl, hd, hlm2⟩ := hM.val
  have HA := Lib.hid ha
  clear ha
  obtain ⟨w2, hw2⟩ : ∃ w2, w2 = (w.alloc (.cells #[.slice A a.ranks.length c, .int .i64 a.start, .slice B a.moves.length d] 25)).alloc (.cells #[.slice none 0 0, .int .i64 0, .slice none 0 0] 25) := ⟨_, rfl⟩
  have hG2 : Grew w w2 := by rw [hw2]; exact grew_then_alloc (grew_alloc _ _) _
  have xa : ThreeAt w2 w.heap.size (.slice A a.ranks.length c) (.int .i64 a.start) (.slice B a.moves.length d) 25 := by
    rw [hw2]; exact (ThreeAt.new w _ _ _ _).frm (frm_alloc _ _)
  have xo : ThreeAt w2 (w.heap.size + 1) (.slice none 0 0) (.int .i64 0) (.slice none 0 0) 25 := by
    have h := ThreeAt.new (w.alloc (.cells #[.slice A a.ranks.length c, .int .i64 a.start, .slice B a.moves.length d] 25)) (.slice none 0 0) (.int .i64 0) (.slice none 0 0) 25
    rw [World.size_alloc] at h
    rw [hw2]; exact h
  have hP := acheck_calls a w2 _ _ (rdO_frm moves_au hG2.1 HA.out)
  rw [hw2] at hP
  have HP := Lib.hid hP
  have HW2 := Lib.hid hw2
  clear hw2 hP
  go_enter Tryz.func15, Tryz.ntmps15
  go_wp2_with fail
  refine HP.out.mono ?_
  rw [← HW2.out]
  rintro e w3 ⟨rfl, hf3⟩
  have hG3 := grew_trans hG2 hf3
  replace xa := xa.frm hf3.1
  replace xo := xo.frm hf3.1
  obtain ⟨xa0, xa1, xa2⟩ := xa.cells
  obtain ⟨xo0, xo1, xo2⟩ := xo.cells
  have xof := xo.free
  have hs3 := xo.lt
  cases hok : a.ok
  · have xf0 := xof 0
    have xf1 := xof 1
    have xf2 := xof 2
    have HJ : Hid (plainE a = 10 ∧ plainV a = Au.zero) := by
      unfold Hid plainE plainV
      rw [hok]
      exact ⟨rfl, rfl⟩
    clear hok
    go_wp2_with fail
    refine bodyPost_ret (v := .tuple #[.agg #[.slice none 0 0, .int .i64 0, .slice none 0 0], .int .i64 10]) (by simp [results, Tryz.results15, go_sem, xo0, xo1, xo2, xf0, xf1, xf2]) rfl ⟨.slice none 0 0, .slice none 0 0, ?_, ?_, ?_⟩
    · rw [HJ.out.1, HJ.out.2]; rfl
    · exact grew_set_new (grew_set_new (grew_set_new hG3 (by omega) _ _) (by omega) _ _) (by omega) _ _
    · rw [HJ.out.2]
      exact au_zero _ _
  · have hla := (ok_rows hok).1
    have hlr := (ranksOk_parts (ok_parts hok).1).1
    have HAO := Lib.hid hok
    clear hok xa0 xa1 xa2 xo0 xo1 xo2 xof
    go_wp2_with fail
    go_cut [5] (fun s5 wx => ∃ g, s5 = .pointer (some ⟨g, 0, none⟩) ∧ JMid w3 g a.ranks a.start wx)
    case first =>
      obtain ⟨xa0, xa1, xa2⟩ := xa.cells
      have hk0 : ∀ wx, wx = w3.drew → (Grew w3 wx ∧ wx.cell? ⟨w.heap.size, 0, none⟩ = some (.slice A a.ranks.length c) ∧ wx.cell? ⟨w.heap.size, 1, none⟩ = some (.int .i64 a.start)) := by
        rintro wx rfl
        exact ⟨grew_drew _, xa0, xa1⟩
      have hks : ∀ v1 v2 : World, Grew v1 v2 → (Grew w3 v1 ∧ v1.cell? ⟨w.heap.size, 0, none⟩ = some (.slice A a.ranks.length c) ∧ v1.cell? ⟨w.heap.size, 1, none⟩ = some (.int .i64 a.start)) → (Grew w3 v2 ∧ v2.cell? ⟨w.heap.size, 0, none⟩ = some (.slice A a.ranks.length c) ∧ v2.cell? ⟨w.heap.size, 1, none⟩ = some (.int .i64 a.start)) :=
        fun v1 v2 hf h => ⟨grew_trans h.1 hf, frm_cell hf.1 h.2.1, frm_cell hf.1 h.2.2⟩
      have hka : ∀ (v1 : World) (o : Obj), (Grew w3 v1 ∧ v1.cell? ⟨w.heap.size, 0, none⟩ = some (.slice A a.ranks.length c) ∧ v1.cell? ⟨w.heap.size, 1, none⟩ = some (.int .i64 a.start)) → (Grew w3 (v1.alloc o) ∧ (v1.alloc o).cell? ⟨w.heap.size, 0, none⟩ = some (.slice A a.ranks.length c) ∧ (v1.alloc o).cell? ⟨w.heap.size, 1, none⟩ = some (.int .i64 a.start)) :=
        fun v1 o h => hks _ _ (grew_alloc _ _) h
      have hkc : ∀ (v1 : World) (g o : Nat) (x : Value), w3.heap.size ≤ g → (Grew w3 v1 ∧ v1.cell? ⟨w.heap.size, 0, none⟩ = some (.slice A a.ranks.length c) ∧ v1.cell? ⟨w.heap.size, 1, none⟩ = some (.int .i64 a.start)) → (Grew w3 (v1.setCell ⟨g, o, none⟩ x) ∧ (v1.setCell ⟨g, o, none⟩ x).cell? ⟨w.heap.size, 0, none⟩ = some (.slice A a.ranks.length c) ∧ (v1.setCell ⟨g, o, none⟩ x).cell? ⟨w.heap.size, 1, none⟩ = some (.int .i64 a.start)) := by
        intro v1 g o x hg h
        refine ⟨grew_set_new h.1 hg _ _, ?_, ?_⟩
        · rw [World.cell?_setCell_other _ _ _ _ (by intro e; injection e with e; omega)]; exact h.2.1
        · rw [World.cell?_setCell_other _ _ _ _ (by intro e; injection e with e; omega)]; exact h.2.2
      have HKC := Lib.hid hkc
      have HK := Lib.hid hks
      have HK0 := Lib.hid hk0
      have HKA := Lib.hid hka
      have HC : Hid (∀ wx, Grew w3 wx → Calls Tryz.prog 41 #[.slice A a.ranks.length c] wx fun e w' => ∃ u, e = .returned u ∧ Grew wx w' ∧ Own IntR w' wx.heap.size 3 1 (fun _ => True) u a.ranks) := fun wx hg => cloneI_calls a.ranks wx _ (hR.frm (grew_trans hG3 hg).1 (stays_rd moves_int)) (by omega)
      clear hks hk0 hka hkc
      go_region_held3 (fun wx => Grew w3 wx ∧ wx.cell? ⟨w.heap.size, 0, none⟩ = some (.slice A a.ranks.length c) ∧ wx.cell? ⟨w.heap.size, 1, none⟩ = some (.int .i64 a.start)) (first | exact HK0.out _ rfl | exact HK.out _ _ (by assumption) (by assumption) | exact HKA.out _ _ (by assumption) | exact HKC.out _ _ _ _ (by omega) (HKC.out _ _ _ _ (by omega) (HKC.out _ _ _ _ (by omega) (by assumption)))) ((go_at_call 41; refine (HC.out _ (And.left (by assumption))).mono ?_; rintro e v5 ⟨u5, rfl, hg5, ho5⟩; obtain ⟨Au5, cu5, rfl, hcu5⟩ := ho5.val; obtain ⟨hcc5, hcf5⟩ := grew_cells hg5; have hS5 := HK.out _ _ hg5 (by assumption)))
      · go_wp2_with fail
        go_meet
        case rel => exact ⟨_, rfl, JMid.one (grew_drew _) hg5 ho5 hlr⟩
      · go_wp2_with fail
        go_meet
        case rel => exact ⟨_, rfl, JMid.two (grew_trans (grew_alloc _ _) (grew_drew _)) (Nat.le_refl _) (ThreeAt.new _ _ _ _ _) hg5 ho5 hlr⟩
    case rest =>
      obtain ⟨g, rfl, r5, hG5, hg4, hO5, hR5⟩ := hcut
      obtain ⟨Ar, cr, hr5⟩ : ∃ Ar cr, r5 = .slice Ar a.ranks.length cr := by
        obtain ⟨v', hve, hsl⟩ := id hR5
        obtain ⟨A9, c9, rfl, _⟩ := hsl.val
        simp only [List.cons.injEq, and_true] at hve
        exact ⟨_, _, hve⟩
      subst hr5
      obtain ⟨tA0, tA1, tA2⟩ := (xa.frm hG5.1).cells
      have hgs : g < wc.heap.size := hO5.1.lt
      have hGw5 : Grew w wc := grew_trans hG3 hG5
      have HM := Lib.hid hM
      have hws : w.heap.size + 1 < g := by omega
      have HR5 := Lib.hid hR5
      have HGW5 := Lib.hid hGw5
      have hs5 := hGw5.1.size
      have hb5 : Hid (∀ wr, GrewG g wc.heap.size wc wr → ∀ b, b < w.heap.size → wr.heap[b]? = w.heap[b]?) := fun wr h b hb => (h.block b (by omega) (by omega)).trans (frm_lt HGW5.out.1 b hb)
      clear hM hR5 hGw5
      go_wp2_with fail
      go_loopw [32] (fun i wr => ∃ k : Nat, k ≤ a.moves.length ∧ i = .int .i64 k ∧ GrewG g wc.heap.size wc wr ∧ ∃ mv, OutAt wr g wc.heap.size (.slice Ar a.ranks.length cr) a.start mv (plainM (a.moves.take k))) (fun i _ => a.moves.length - (intOf i).toNat)
      case atStart => exact ⟨0, Nat.zero_le _, rfl, .refl _ _ _, _, hO5⟩
      case round =>
        obtain ⟨k, hk, rfl, hfr, mv, hO⟩ := hrel
        by_cases hlt : k < a.moves.length
        · have hSr := hb5.out wr hfr
          have hMr := HM.out.move (S' := fun b => b < w.heap.size) (w' := wr) (r' := RuleR (fun b => b < w.heap.size) wr) (fun b hb => hb) hSr (fun x _ cs h => moves_rule _ _ _ _ _ _ (fun b hb => hb) hSr h)
          obtain ⟨b, o, p0, rfl, hb, hp0, hpt⟩ := hMr.at1 k hlt
          have HT : Hid (plainM (a.moves.take (k + 1)) = plainM (a.moves.take k) ++ [(a.moves[k]).map smallest]) := by
            unfold Hid plainM
            rw [List.take_succ_eq_append_getElem hlt, List.map_append]
            rfl
          have HL := Lib.hid (show (plainM (a.moves.take k)).length = k by unfold plainM; rw [List.length_map, List.length_take]; omega)
          have HR := Lib.hid ((ok_rows HAO.out).2 _ (List.getElem_mem hlt))
          have hrl := HR.out.1
          clear hMr hSr
          generalize a.moves[k] = row at *
          obtain ⟨v2, hve2, hRow⟩ := hpt
          obtain rfl : p0 = v2 := by simpa using hve2
          obtain ⟨A2, c2, rfl, hc2, hm2⟩ := hRow.val
          clear hve2
          have HO := Lib.hid hO
          have hlg := hO.1.lt
          have hgn := hO.2.1
          have hnw := hO.2.2.1
          have HRow := Lib.hid hRow
          clear hO hRow
          go_wp2_with fail
          obtain ⟨wo, hwo⟩ : ∃ wo : World, wo = wr := ⟨_, rfl⟩
          subst hwo
          go_loopw [8, 38] (fun u i wq => ∃ j : Nat, j ≤ row.length ∧ i = .int .i64 j ∧ Grew wo wq ∧ Own (WR AltsR) wq wo.heap.size 50 1 (fun b => wo.heap.size ≤ b) u ((row.take j).map smallest)) (fun _ i _ => row.length - (intOf i).toNat)
          case atStart => exact ⟨0, Nat.zero_le _, rfl, grew_refl _, Own.nil _ _ _ _ _ _⟩
          case round =>
            obtain ⟨j, hj, rfl, hfq, hQ⟩ := hrel
            obtain ⟨Aq, cq, he, hcq⟩ := hQ.val
            have hlj : ((row.take j).map smallest).length = j := by rw [List.length_map, List.length_take]; omega
            rw [hlj] at he hcq
            subst he
            by_cases hltj : j < row.length
            · have hSq : ∀ b, b < w.heap.size → wr.heap[b]? = wo.heap[b]? := fun b hb => frm_lt hfq.1 b (by omega)
              have hRq := HRow.out.move (S' := fun b => b < w.heap.size) (w' := wr) (r' := AltsR (fun b => b < w.heap.size) wr) (fun b hb => hb) hSq (fun x _ cs h => moves_alts _ _ _ _ _ _ (fun b hb => hb) hSq h)
              obtain ⟨b3, o3, q0, rfl, hb3, hq0, hqt⟩ := hRq.at1 j hltj
              have HT2 : Hid ((row.take (j + 1)).map smallest = (row.take j).map smallest ++ [smallest row[j]]) := by
                unfold Hid
                rw [List.take_succ_eq_append_getElem hltj, List.map_append]
                rfl
              have HAl2 := Lib.hid (HR.out.2 _ (List.getElem_mem hltj))
              clear hRq hSq
              generalize row[j] = alts at *
              obtain ⟨v3, hve3, hAl⟩ := id hqt
              obtain rfl : q0 = v3 := by simpa using hve3
              obtain ⟨A3, c3, rfl, hc3, hm3⟩ := hAl.val
              have hal1 := HAl2.out.1
              have HAl := Lib.hid hAl
              have HQ := Lib.hid hQ
              have HLJ := Lib.hid hlj
              have HFQ := Lib.hid hfq
              have hsq := hfq.1.size
              clear hQ hlj hqt hAl hve3 hfq
              go_wp2_with fail
              obtain ⟨wi, hwi⟩ : ∃ wi : World, wi = wr := ⟨_, rfl⟩
              subst hwi
              go_loopw [11, 44] (fun z i wp => ∃ (e n : Nat) (B : Option Addr) (y : Nat), e ≤ alts.length ∧ i = .int .i64 e ∧ z = .slice B n y ∧ n = (smallTo alts e).length ∧ n ≤ y ∧ Grew wi wp ∧ Own (WR AltR) wp wi.heap.size 76 1 (fun b => wi.heap.size ≤ b) z (smallTo alts e)) (fun _ i _ => alts.length - (intOf i).toNat)
              case atStart => exact ⟨0, 0, none, 0, Nat.zero_le _, rfl, rfl, rfl, Nat.le_refl _, grew_refl _, Own.nil _ _ _ _ _ _⟩
              case round =>
                obtain ⟨e, n, B, y, hel, rfl, rfl, hnl, hny, hfp, hP⟩ := hrel
                have hnk : n ≤ e := by rw [hnl]; exact smallTo_len _ _
                have HNL := Lib.hid hnl
                have HP := Lib.hid hP
                have HFP := Lib.hid hfp
                have hsp := hfp.1.size
                clear hnl hP
                by_cases hlte : e < alts.length
                · have hSp : ∀ b, b < w.heap.size → wr.heap[b]? = wi.heap[b]? := fun b hb => frm_lt hfp.1 b (by omega)
                  have hRp := HAl.out.move (S' := fun b => b < w.heap.size) (w' := wr) (r' := AltR (fun b => b < w.heap.size) wr) (fun b hb => hb) hSp (fun x _ cs h => moves_alt _ _ _ _ _ _ (fun b hb => hb) hSp h)
                  obtain ⟨b4, o4, p4, rfl, hb4, hp4, hpt4⟩ := hRp.at1 e hlte
                  obtain ⟨A4, n4, c4, rfl⟩ : ∃ A1 n1 c1, p4 = .slice A1 n1 c1 := by
                    obtain ⟨A1, c1, h, _⟩ := (row_val hpt4).val
                    exact ⟨_, _, _, h⟩
                  have HPT := Lib.hid hpt4
                  have HD : Hid (alts.getD e [] = alts[e]) := by unfold Hid; simp [hlte]
                  have hll := (HAl2.out.2 _ (List.getElem_mem hlte)).1
                  generalize alts[e] = l at *
                  clear hpt4 hRp hSp hfp
                  go_wp2_with fail
                  obtain ⟨wz, hwz⟩ : ∃ wz : World, wz = wr := ⟨_, rfl⟩
                  subst hwz
                  go_loopw [14, 51] (fun z i wp => ∃ (k2 : Nat) (mo : Bool), k2 ≤ alts.length ∧ i = .int .i64 k2 ∧ z = .bool mo ∧ Hid (keepTo alts e k2 = !mo) ∧ Grew wz wp) (fun _ i _ => alts.length - (intOf i).toNat)
                  case atStart => exact ⟨0, false, Nat.zero_le _, rfl, rfl, rfl, grew_refl _⟩
                  case round =>
                    obtain ⟨k2, mo, hk2, rfl, rfl, HM, hfz⟩ := hrel
                    by_cases hltz : k2 < alts.length
                    · have hgz := grew_trans HFP.out hfz
                      have hSz : ∀ b, b < w.heap.size → wr.heap[b]? = wi.heap[b]? := fun b hb => frm_lt hgz.1 b (by omega)
                      have hRz := HAl.out.move (S' := fun b => b < w.heap.size) (w' := wr) (r' := AltR (fun b => b < w.heap.size) wr) (fun b hb => hb) hSz (fun x _ cs h => moves_alt _ _ _ _ _ _ (fun b hb => hb) hSz h)
                      obtain ⟨b5, o5, q5, hbe, hb5', hq5, hqt5⟩ := hRz.at1 k2 hltz
                      simp only [Option.some.injEq, Addr.mk.injEq, and_true] at hbe
                      obtain ⟨rfl, rfl⟩ := hbe
                      obtain ⟨A5, n5, c5, rfl⟩ : ∃ A1 n1 c1, q5 = .slice A1 n1 c1 := by
                        obtain ⟨A1, c1, h, _⟩ := (row_val hqt5).val
                        exact ⟨_, _, _, h⟩
                      have HDj : Hid (alts.getD k2 [] = alts[k2]) := by unfold Hid; simp [hltz]
                      have hsz := hfz.1.size
                      generalize alts[k2] = x at *
                      have HC := Lib.hid (cont_calls l x wr (.slice A4 n4 c4) (.slice A5 n5 c5) (RowS.sl (moves_alt _ _ _ _ _ _ (fun q hq => by omega) (fun q hq => frm_lt hfz.1 q (by omega)) HPT.out)) (RowS.sl (moves_alt _ _ _ _ _ _ (fun q hq => by omega) (fun q hq => rfl) hqt5)))
                      have HK := Lib.hid (keepTo_succ alts e k2)
                      rw [HD.out, HDj.out] at HK
                      clear hqt5 hSz hRz
                      cases mo with
                      | true =>
                        have HK2 : Hid (keepTo alts e (k2 + 1) = !true) := by unfold Hid; rw [HK.out, HM.out]; rfl
                        go_wp2_with fail
                        exact ⟨⟨k2 + 1, true, by omega, by go_num, rfl, HK2, hfz⟩, by simp [intOf]; omega⟩
                      | false =>
                        by_cases hke : k2 = e
                        · have e1 : ((k2 : Int) != (e : Int)) = false := by simp [hke]
                          have HK2 : Hid (keepTo alts e (k2 + 1) = !false) := by unfold Hid; rw [HK.out, HM.out]; simp [hke]
                          clear hke
                          go_wp2_with fail
                          exact ⟨⟨k2 + 1, false, by omega, by go_num, rfl, HK2, hfz⟩, by simp [intOf]; omega⟩
                        · have e1 : ((k2 : Int) != (e : Int)) = true := by simp; omega
                          have HK2 : Hid (keepTo alts e (k2 + 1) = !within x l) := by
                            unfold Hid; rw [HK.out, HM.out]
                            have : (e == k2) = false := by simp; omega
                            rw [this]; simp
                          clear hke
                          go_wp2_with fail
                          refine HC.out.mono ?_
                          rintro e w1 ⟨rfl, hf1⟩
                          dsimp only
                          go_wp2_with fail
                          exact ⟨⟨k2 + 1, _, by omega, by go_num, rfl, HK2, grew_trans hfz hf1⟩, by simp [intOf]; omega⟩
                    · have hke : k2 = alts.length := by omega
                      subst hke
                      have hgz := grew_trans HFP.out hfz
                      have hsz := hfz.1.size
                      have HT3 := Lib.hid (smallTo_succ alts e)
                      rw [HD.out, HM.out] at HT3
                      cases mo with
                      | true =>
                        have HT4 : Hid (smallTo alts (e + 1) = smallTo alts e) := by unfold Hid; rw [HT3.out]; simp
                        go_wp2_with fail
                        exact ⟨⟨e + 1, n, B, y, by omega, by go_num, rfl, by rw [HT4.out]; exact HNL.out, hny, hgz, by rw [HT4.out]; exact HP.out.kept (moves_WR moves_alt) hfz.1 (ownNone _) (by simp)⟩, by simp [intOf]; omega⟩
                      | false =>
                        have HT4 : Hid (smallTo alts (e + 1) = smallTo alts e ++ [l]) := by unfold Hid; rw [HT3.out]; simp
                        have HCL := Lib.hid (cloneN_calls l wr (.slice A4 n4 c4) (moves_alt _ _ _ _ _ _ (fun q hq => by omega) (fun q hq => frm_lt hfz.1 q (by omega)) HPT.out) (by omega))
                        go_wp2_with fail
                        refine HCL.out.mono ?_
                        rintro e9 w4 ⟨u4, rfl, hf4, hO4⟩
                        have hW4 := (own_nd (ok' := fun _ => False) hO4).slW moves_nd (by omega) (S := fun b => wr.heap.size ≤ b ∧ b < w4.heap.size) (fun b h1 h2 => h1.elim) (fun b hb => hO4.lt b hb)
                        obtain ⟨A6, c6, rfl, hc6⟩ := hO4.val
                        have HW4 := Lib.hid hW4
                        clear hO4 hW4
                        dsimp only
                        repeat ((fail_if_success at_builtin); first | go_values | go_skip | go_guarded | go_step | go_upon)
                        have hf5 : Grew wr (w4.alloc (.cells #[.slice A6 l.length c6] 76)) := grew_then_alloc hf4 _
                        have hP5 := HP.out.kept (moves_WR moves_alt) (grew_trans hfz hf5).1 (ownNone _) (by simp)
                        have htw := OneAt.new w4 (.slice A6 l.length c6) 76
                        have hs4 := hf4.1.size
                        have hs55 := hf5.1.size
                        have hltP := HP.out.lt
                        refine Own.app1 (moves_WR moves_alt) elem_alt hP5 rfl _ _ rfl rfl rfl l [.slice A6 l.length c6] rfl (one_at htw) ?_ ?_ (by rw [← HNL.out]; omega) (by omega) (by simp; omega) ?_
                        · intro u hu
                          simp at hu
                          subst hu
                          rfl
                        · refine moves_WR moves_alt _ _ _ _ _ _ (fun b hb => ⟨by omega, by simp; omega, fun e => ?_⟩) (fun b hb => Below.heap_alloc _ _ _ (by omega)) HW4.out
                          have := (hltP b e.symm).2
                          omega
                        intro v7 w7 hO7 hg7 hp7
                        have hfr7 : Grew wi w7 := grew_own (grew_trans hgz hf5) (fun b hb => (hltP b hb).1) hg7.1 hg7.2
                        rw [← HT4.out] at hO7
                        obtain ⟨A7, c7, he7, hcc7⟩ := hO7.val
                        have HO7 := Lib.hid hO7
                        clear hO7 hP5 htw hltP
                        obtain ⟨n7, hn7⟩ : ∃ n7, n7 = (smallTo alts (e + 1)).length := ⟨_, rfl⟩
                        rw [← hn7] at he7 hcc7
                        subst he7
                        have HN7 := Lib.hid hn7
                        clear hn7
                        go_wp2_with fail
                        exact ⟨⟨e + 1, n7, A7, c7, by omega, by go_num, rfl, HN7.out, hcc7, hfr7, HO7.out⟩, by simp [intOf]; omega⟩
                · obtain rfl : e = alts.length := by omega
                  have hls : (smallest alts).length = n := HNL.out.symm
                  have HLS := Lib.hid hls
                  have hW4 := HP.out.slW moves_alt (by have := HNL.out; omega) (S := fun b => wi.heap.size ≤ b ∧ b < wr.heap.size) (fun b h1 h2 => ⟨h1, h2⟩) (fun b hb => HP.out.lt b hb)
                  have HW4 := Lib.hid hW4
                  clear hW4 hls
                  repeat ((fail_if_success at_builtin); first | go_values | go_skip | go_guarded | go_step | go_upon)
                  have hf5 : Grew wi (wr.alloc (.cells #[.slice B n y] 50)) := grew_then_alloc HFP.out _
                  have hO5 := HQ.out.kept (moves_WR moves_alts) hf5.1 (ownNone _) (by simp)
                  have htw := OneAt.new wr (.slice B n y) 50
                  have hlen := HLJ.out
                  have hs55 := hf5.1.size
                  have hltO := HQ.out.lt
                  refine Own.app1 (moves_WR moves_alts) elem_alts hO5 rfl _ _ rfl rfl rfl (smallest alts) [.slice B n y] rfl (one_at htw) ?_ ?_ (by rw [hlen]; omega) (by omega) (by omega) ?_
                  · intro u hu
                    simp at hu
                    subst hu
                    rfl
                  · refine moves_WR moves_alts _ _ _ _ _ _ (fun b hb => ⟨by omega, by simp; omega, fun e => ?_⟩) (fun b hb => Below.heap_alloc _ _ _ (by omega)) HW4.out
                    have := (hltO b e.symm).2
                    omega
                  intro v7 w7 hO7 hg7 hp7
                  have hfr7 : Grew wo w7 := grew_own (grew_trans HFQ.out hf5) (fun b hb => (hltO b hb).1) hg7.1 hg7.2
                  rw [← HT2.out] at hO7
                  obtain ⟨A7, c7, he7, hcc7⟩ := hO7.val
                  have HO7 := Lib.hid hO7
                  clear hO7 hO5 htw hltO
                  have hl7 : ((row.take (j + 1)).map smallest).length = j + 1 := by rw [List.length_map, List.length_take]; omega
                  rw [hl7] at he7
                  clear hl7
                  subst he7
                  go_wp2_with fail
                  exact ⟨⟨j + 1, by omega, by go_num, hfr7, HO7.out⟩, by simp [intOf]; omega⟩
            · obtain rfl : j = row.length := by omega
              rw [List.take_length] at hQ
              have hO1 := HO.out.grew hfq
              obtain ⟨hc0, hc1, hc2'⟩ := hO1.1.cells
              have hfz := hO1.1.free 2
              obtain ⟨Am, cm, hme, hmc⟩ := hO1.2.2.2.val
              rw [HL.out] at hme hmc
              subst hme
              have hsq := hfq.1.size
              have hlm2 : (row.map smallest).length = row.length := by simp
              have hWq := hQ.slW moves_alts (by omega) (S := fun b => wo.heap.size ≤ b ∧ b < wr.heap.size) (fun b h1 h2 => ⟨h1, h2⟩) (fun b hb => hQ.lt b hb)
              have HWq := Lib.hid hWq
              have HO1 := Lib.hid hO1
              clear hWq hQ hO1 hlj
              repeat ((fail_if_success at_builtin); first | go_values | go_skip | go_guarded | go_step | go_upon)
              have hf5 : Grew wr (wr.alloc (.cells #[.slice Aq row.length cq] 49)) := grew_alloc _ _
              have hO5 := (HO1.out.grew hf5)
              have htw := OneAt.new wr (.slice Aq row.length cq) 49
              have hlen := HL.out
              have hltO := hO5.2.2.2.lt
              have hltO1 := HO1.out.2.2.2.lt
              refine Own.app1 (moves_WR moves_rule) elem_rule hO5.2.2.2 rfl _ _ rfl rfl rfl (row.map smallest) [.slice Aq row.length cq] rfl (one_at htw) ?_ ?_ (by rw [hlen]; omega) (by omega) (by simp; omega) ?_
              · intro u hu
                simp at hu
                subst hu
                rfl
              · refine moves_WR moves_rule _ _ _ _ _ _ (fun b hb => ⟨by omega, by simp; omega, fun e => ?_⟩) (fun b hb => Below.heap_alloc _ _ _ (by omega)) HWq.out
                have hO2 := HO.out.2.2.2.lt b e.symm
                omega
              intro v7 w7 hO7 hg7 hp7
              rw [← HT.out] at hO7
              have hT7 : ThreeAt w7 g (.slice Ar a.ranks.length cr) (.int .i64 a.start) (.slice Am k cm) 25 := hO5.1.move (hg7.1.block g (by simp; omega) (fun e => by have := (hltO g e.symm).1; omega))
              have hG7 : GrewG g wc.heap.size wo w7 := (GrewG.of (grew_trans hfq hf5) (by omega)).trans (.ofR hg7 (by simp; omega) (fun b hb => by have := (hltO b hb).1; omega))
              obtain ⟨A7, c7, he7, hcc7⟩ := hO7.val
              rw [show (plainM (a.moves.take (k + 1))).length = k + 1 by unfold plainM; rw [List.length_map, List.length_take]; omega] at he7
              have hT8 := hT7.set2 v7
              have hO8 := hO7.kept (moves_WR moves_rule) (w' := w7.setCell ⟨g, 2, none⟩ v7) (row := some g) (frm_set (frm_refl _ _) _ _) (.inr fun e => by have := (hO7.lt g e).1; omega) (fun b hb e => by injection e with e; omega)
              have HG8 := Lib.hid (hfr.trans (hG7.set 2 v7))
              obtain ⟨hd0, hd1, hd2⟩ := hT7.cells
              have hfz7 := hT7.free 2
              have HO8 := Lib.hid (show OutAt (w7.setCell ⟨g, 2, none⟩ v7) g wc.heap.size (.slice Ar a.ranks.length cr) a.start v7 (plainM (a.moves.take (k + 1))) from ⟨hT8, hgn, by have := hg7.1.size; simp at this ⊢; omega, hO8⟩)
              clear hO7 hO5 htw hltO hO8 hT8 hT7 hG7
              subst he7
              go_wp2_with fail
              exact ⟨⟨k + 1, by omega, by go_num, HG8.out, _, HO8.out⟩, by simp [intOf]; omega⟩
        · obtain rfl : k = a.moves.length := by omega
          rw [List.take_length] at hO
          have hlx : (plainM a.moves).length = a.moves.length := by unfold plainM; simp
          obtain ⟨Am, cm, hme, hmc⟩ := hO.2.2.2.val
          rw [hlx] at hme hmc
          subst hme
          have hgn := hO.2.1
          have hnw := hO.2.2.1
          have hGw : Grew w wr := GrewG.grew HGW5.out (by omega) (by omega) hfr
          have hxo9 : ThreeAt wr (w.heap.size + 1) (.slice none 0 0) (.int .i64 0) (.slice none 0 0) 25 := (xo.frm hG5.1).move (hfr.block _ (by omega) (by omega))
          have hsl9 := hO.2.2.2.slW moves_rule (S := fun q => w3.heap.size ≤ q ∧ q < wr.heap.size) (by rw [hlx]; omega) (fun q h1 h2 => ⟨by omega, h2⟩) (fun q hq => by have := hO.2.2.2.lt q hq; omega)
          have hrk9 : WR (RowS 1 IntR) (fun q => w3.heap.size ≤ q ∧ q < wr.heap.size) wr a.ranks [.slice Ar a.ranks.length cr] :=
            moves_WR (moves_row moves_int) _ _ _ _ _ _ (fun q hq => ⟨hq.1, by have := hq.2.1; omega⟩) (fun q hq => hfr.block q hq.2.1 hq.2.2) HR5.out
          have HAU := Lib.hid (show WR AuR (fun q => w3.heap.size ≤ q ∧ q < wr.heap.size) wr (plainA a) [.slice Ar a.ranks.length cr, .int .i64 a.start, .slice Am a.moves.length cm] from
            ⟨.slice Ar a.ranks.length cr, _, rfl, hrk9, hsl9, hs1, hs2⟩)
          obtain ⟨he0, he1, he2⟩ := hO.1.cells
          obtain ⟨kx0, kx1, kx2⟩ := hxo9.cells
          have kxf := hxo9.free
          have kxf0 := kxf 0
          have kxf1 := kxf 1
          have kxf2 := kxf 2
          have HJ : Hid (plainE a = 0 ∧ plainV a = plainA a) := by
            unfold Hid plainE plainV
            rw [HAO.out]
            exact ⟨rfl, rfl⟩
          have HGW := Lib.hid hGw
          have hszr := hGw.1.size
          clear hO hsl9 hrk9 kxf hGw hxo9
          go_wp2_with fail
          refine bodyPost_ret (v := .tuple #[.agg #[.slice Ar a.ranks.length cr, .int .i64 a.start, .slice Am a.moves.length cm], .int .i64 0]) (by simp [results, Tryz.results15, go_sem, kx0, kx1, kx2, kxf0, kxf1, kxf2]) rfl ⟨.slice Ar a.ranks.length cr, .slice Am a.moves.length cm, ?_, ?_, ?_⟩
          · rw [HJ.out.1, HJ.out.2]; rfl
          · exact grew_set_new (grew_set_new (grew_set_new HGW.out (by omega) _ _) (by omega) _ _) (by omega) _ _
          · rw [HJ.out.2]
            refine moves_WR moves_au _ _ _ _ _ _ (fun q hq => ⟨by omega, by simp; omega⟩) (fun q hq => ?_) HAU.out
            rw [Below.heap_setCell _ _ _ _ (by show q ≠ w.heap.size + 1; omega), Below.heap_setCell _ _ _ _ (by show q ≠ w.heap.size + 1; omega), Below.heap_setCell _ _ _ _ (by show q ≠ w.heap.size + 1; omega)]
end Go.Proofs.YtjpdmncafacmaaaGreatDoor
end
/- Rows of numbers and of truths in a block: made, read, written. -/
section
set_option linter.unusedVariables false
set_option linter.unusedSimpArgs false
namespace Go.Proofs.YtjpdmncafacmaaaGreatDoor
open Go.RowKit

/-- A block that holds these values, not frozen. -/
def ValsAt (w : World) (g : Nat) (T : TypeId) (vs : List Value) : Prop := w.heap[g]? = some (.cells vs.toArray T (0, 0))
section
variable {w w' : World} {g : Nat} {T : TypeId} {vs : List Value}
theorem ValsAt.lt (h : ValsAt w g T vs) : g < w.heap.size := (Array.getElem?_eq_some_iff.1 h).1
theorem ValsAt.cell (h : ValsAt w g T vs) (i : Nat) : w.cell? ⟨g, i, none⟩ = vs[i]? := by
  unfold ValsAt at h
  simp [World.cell?, h]
theorem ValsAt.free (h : ValsAt w g T vs) : Unf w g := by
  intro o
  unfold ValsAt at h
  simp [World.frozen?, h]
theorem ValsAt.set (h : ValsAt w g T vs) (i : Nat) (v : Value) : ValsAt (w.setCell ⟨g, i, none⟩ v) g T (vs.set i v) := by
  unfold ValsAt at h ⊢
  simp [World.setCell, Array.getElem?_modify, h]
theorem ValsAt.move (h : ValsAt w g T vs) (hw : w'.heap[g]? = w.heap[g]?) : ValsAt w' g T vs := hw.trans h
theorem ValsAt.frm (h : ValsAt w g T vs) (hf : w.grownBy w' none) : ValsAt w' g T vs := h.move (frm_lt hf _ h.lt)
end
def intV (x : Int) : Value := .int .i64 x
def boolV (b : Bool) : Value := .bool b
theorem made_one (v : Value) (n : Nat) : madeCells #[v] n = (List.replicate n v).toArray := by
  unfold madeCells
  apply Array.ext
  · simp
  · intro i h1 h2
    simp [Nat.mod_one]
theorem mk_ints (n : Nat) (hn : n ≤ 1000) (w : World) : (Instr.makeSlice 22 (.int .i64 n) (.int .i64 n)).run Tryz.prog w = .ok (.slice (some ⟨w.heap.size, 0, none⟩) n n) (w.alloc (.cells (Array.replicate n (.int .i64 0)) 3)) := by
  obtain ⟨i, z, hi, hz, hsz, hby, hzs⟩ := elem_int.info
  have h := run_make (P := Tryz.prog) w 22 3 i z elem_int.under hi hz .i64 .i64 n n (by omega) (by omega) (by rw [hby]; omega) (by omega)
  rw [h]
  have hzc : z = .int .i64 0 := by
    have e := info_int
    rw [hi] at e
    simp at e
    rw [hz] at e
    simp at e
    exact e.1
  subst hzc
  rw [Int.toNat_natCast, hsz, Nat.mul_one, show (Value.int .i64 0).cells = #[.int .i64 0] from rfl, made_one]
  rw [List.toArray_replicate]
theorem info_bool : (Tryz.prog.info? 4).map (fun i => (i.zero, i.size, i.bytes)) = some (some (.bool false), 1, 1) := by kernel_rfl
theorem elem_bool : ElemInfo Tryz.prog 68 4 1 1 := .of Tryz.underlying68 info_bool rfl (by omega)
theorem mk_bools (n : Nat) (hn : n ≤ 1000) (w : World) : (Instr.makeSlice 68 (.int .i64 n) (.int .i64 n)).run Tryz.prog w = .ok (.slice (some ⟨w.heap.size, 0, none⟩) n n) (w.alloc (.cells (Array.replicate n (.bool false)) 4)) := by
  obtain ⟨i, z, hi, hz, hsz, hby, hzs⟩ := elem_bool.info
  have h := run_make (P := Tryz.prog) w 68 4 i z elem_bool.under hi hz .i64 .i64 n n (by omega) (by omega) (by rw [hby]; omega) (by omega)
  rw [h]
  have hzc : z = .bool false := by
    have e := info_bool
    rw [hi] at e
    simp at e
    rw [hz] at e
    simp at e
    exact e.1
  subst hzc
  rw [Int.toNat_natCast, hsz, Nat.mul_one, show (Value.bool false).cells = #[.bool false] from rfl, made_one]
  rw [List.toArray_replicate]
abbrev IntsAt (w : World) (g : Nat) (xs : List Int) : Prop := ValsAt w g 3 (xs.map intV)
abbrev BoolsAt (w : World) (g : Nat) (xs : List Bool) : Prop := ValsAt w g 4 (xs.map boolV)
theorem ints_new (w : World) (xs : List Int) : IntsAt (w.alloc (.cells (xs.map intV).toArray 3)) w.heap.size xs := by
  show (w.heap.push _)[w.heap.size]? = _
  simp
theorem bools_new (w : World) (xs : List Bool) : BoolsAt (w.alloc (.cells (xs.map boolV).toArray 4)) w.heap.size xs := by
  show (w.heap.push _)[w.heap.size]? = _
  simp
theorem ints_made (w : World) (n : Nat) : IntsAt (w.alloc (.cells (Array.replicate n (.int .i64 0)) 3)) w.heap.size (List.replicate n 0) := by
  have h := ints_new w (List.replicate n 0)
  rw [List.map_replicate, List.toArray_replicate] at h
  exact h
theorem bools_made (w : World) (n : Nat) : BoolsAt (w.alloc (.cells (Array.replicate n (.bool false)) 4)) w.heap.size (List.replicate n false) := by
  have h := bools_new w (List.replicate n false)
  rw [List.map_replicate, List.toArray_replicate] at h
  exact h
theorem IntsAt.put {w : World} {g : Nat} {xs : List Int} (h : IntsAt w g xs) (i : Nat) (x : Int) : IntsAt (w.setCell ⟨g, i, none⟩ (.int .i64 x)) g (xs.set i x) := by
  have := ValsAt.set h i (intV x)
  rw [← List.map_set] at this
  exact this
theorem BoolsAt.put {w : World} {g : Nat} {xs : List Bool} (h : BoolsAt w g xs) (i : Nat) (x : Bool) : BoolsAt (w.setCell ⟨g, i, none⟩ (.bool x)) g (xs.set i x) := by
  have := ValsAt.set h i (boolV x)
  rw [← List.map_set] at this
  exact this
theorem IntsAt.at {w : World} {g : Nat} {xs : List Int} (h : IntsAt w g xs) {i : Nat} (hi : i < xs.length) : w.cell? ⟨g, i, none⟩ = some (.int .i64 xs[i]) := by
  rw [ValsAt.cell h i]
  simp [hi, intV]
theorem BoolsAt.at {w : World} {g : Nat} {xs : List Bool} (h : BoolsAt w g xs) {i : Nat} (hi : i < xs.length) : w.cell? ⟨g, i, none⟩ = some (.bool xs[i]) := by
  rw [ValsAt.cell h i]
  simp [hi, boolV]
theorem IntsAt.sl {w : World} {g n : Nat} {xs : List Int} (h : IntsAt w g xs) (hn : n = xs.length) (hm : xs.length ≤ 1000) (hb : ∀ x ∈ xs, -9223372036854775808 ≤ x ∧ x ≤ 9223372036854775807) : SlO w 1 (rdO IntR) xs (.slice (some ⟨g, 0, none⟩) n n) := by
  subst hn
  refine ⟨_, _, rfl, Nat.le_refl _, by omega, fun _ => ⟨g, 0, rfl, ValsAt.lt h, fun i hi => ⟨[.int .i64 xs[i]], rfl, fun j hj => ?_, rfl, hb _ (List.getElem_mem hi)⟩⟩⟩
  obtain rfl : j = 0 := by omega
  simpa using h.at hi
end Go.Proofs.YtjpdmncafacmaaaGreatDoor
end
/- Sets of bits, of any size below a bound: the lowest one, taken off one by one. -/
section
set_option linter.unusedVariables false
set_option linter.unusedSimpArgs false
namespace Go.Proofs.YtjpdmncafacmaaaGreatDoor
open Go.RowKit

/-- The bits of a number, in order, below `n`. -/
def bitsH : Nat → Nat → List Nat
  | 0, _ => []
  | n + 1, x => (if x % 2 = 1 then [0] else []) ++ (bitsH n (x / 2)).map (· + 1)
theorem bitsH_mem : ∀ n x k, k ∈ bitsH n x ↔ k < n ∧ x.testBit k = true
  | 0, x, k => by simp [bitsH]
  | n + 1, x, k => by
    unfold bitsH
    rw [List.mem_append, List.mem_map]
    cases k with
    | zero =>
      rw [Nat.testBit_zero]
      by_cases h : x % 2 = 1 <;> simp [h]
    | succ k =>
      rw [Nat.testBit_succ]
      have ih := bitsH_mem n (x / 2) k
      constructor
      · rintro (h | ⟨j, hj, he⟩)
        · by_cases h1 : x % 2 = 1 <;> simp [h1] at h
        · obtain rfl : j = k := by omega
          have := ih.1 hj
          exact ⟨by omega, this.2⟩
      · rintro ⟨h1, h2⟩
        exact .inr ⟨k, ih.2 ⟨by omega, h2⟩, rfl⟩
theorem bitsH_zero : ∀ n, bitsH n 0 = []
  | 0 => rfl
  | n + 1 => by simp [bitsH, bitsH_zero n]
theorem bitsH_len : ∀ n x, (bitsH n x).length ≤ n
  | 0, x => by simp [bitsH]
  | n + 1, x => by
    unfold bitsH
    rw [List.length_append, List.length_map]
    have := bitsH_len n (x / 2)
    by_cases h : x % 2 = 1 <;> simp [h] <;> omega
theorem land_even (a b : Nat) : (2 * a) &&& (2 * b) = 2 * (a &&& b) := by
  apply Nat.eq_of_testBit_eq
  intro i
  cases i with
  | zero => simp [Nat.testBit_zero, Nat.testBit_and]
  | succ i =>
    rw [Nat.testBit_and]
    simp [Nat.testBit_succ, Nat.testBit_and]
theorem land_odd_even (a b : Nat) : (2 * a + 1) &&& (2 * b) = 2 * (a &&& b) := by
  apply Nat.eq_of_testBit_eq
  intro i
  cases i with
  | zero => simp [Nat.testBit_zero, Nat.testBit_and]
  | succ i =>
    have h : (2 * a + 1) / 2 = a := by omega
    rw [Nat.testBit_and]
    simp [Nat.testBit_succ, Nat.testBit_and, h]
theorem land_even_odd (a b : Nat) : (2 * a) &&& (2 * b + 1) = 2 * (a &&& b) := by
  rw [Nat.and_comm, land_odd_even, Nat.and_comm]
theorem land_odd (a b : Nat) : (2 * a + 1) &&& (2 * b + 1) = 2 * (a &&& b) + 1 := by
  apply Nat.eq_of_testBit_eq
  intro i
  cases i with
  | zero => simp [Nat.testBit_zero, Nat.testBit_and]
  | succ i =>
    have h : (2 * a + 1) / 2 = a := by omega
    have h2 : (2 * b + 1) / 2 = b := by omega
    have h3 : (2 * (a &&& b) + 1) / 2 = a &&& b := by omega
    rw [Nat.testBit_and]
    simp [Nat.testBit_succ, Nat.testBit_and, h, h2, h3]
theorem land_compl (m y : Nat) (h : y < 2 ^ m) : y &&& (2 ^ m - (y + 1)) = 0 := by
  apply Nat.eq_of_testBit_eq
  intro i
  rw [Nat.testBit_and, Nat.testBit_two_pow_sub_succ h, Nat.zero_testBit]
  cases y.testBit i <;> simp
/-- The lowest bit: what is left without it, and it alone. -/
theorem low_step : ∀ n x, x ≠ 0 → x < 2 ^ n → ∃ k, k < n ∧ x.testBit k = true ∧ bitsH n x = k :: bitsH n (x &&& (x - 1)) ∧ (∀ N, n ≤ N → x &&& (2 ^ N - x) = 2 ^ k) ∧ x &&& (x - 1) < x
  | 0, x, h0, h => by omega
  | n + 1, x, h0, h => by
    obtain ⟨y, hy | hy⟩ : ∃ y, x = 2 * y ∨ x = 2 * y + 1 := ⟨x / 2, by omega⟩
    · subst hy
      have hy0 : y ≠ 0 := by omega
      have hyl : y < 2 ^ n := by rw [Nat.pow_succ] at h; omega
      obtain ⟨k, k1, k2, k3, k4, k5⟩ := low_step n y hy0 hyl
      have e1 : 2 * y - 1 = 2 * (y - 1) + 1 := by omega
      have e2 : (2 * y) &&& (2 * y - 1) = 2 * (y &&& (y - 1)) := by rw [e1, land_even_odd]
      refine ⟨k + 1, by omega, by rw [Nat.testBit_succ, show 2 * y / 2 = y by omega]; exact k2, ?_, fun N hN => ?_, by rw [e2]; omega⟩
      · rw [e2]
        unfold bitsH
        rw [if_neg (by omega), if_neg (by omega), show 2 * y / 2 = y by omega, show 2 * (y &&& (y - 1)) / 2 = y &&& (y - 1) by omega, k3]
        simp
      · obtain ⟨M, rfl⟩ : ∃ M, N = M + 1 := ⟨N - 1, by omega⟩
        have hp : 2 ^ n ≤ 2 ^ M := Nat.pow_le_pow_right (by omega) (by omega)
        have e3 : 2 ^ (M + 1) - 2 * y = 2 * (2 ^ M - y) := by rw [Nat.pow_succ]; omega
        rw [e3, land_even, k4 M (by omega), Nat.pow_succ, Nat.mul_comm]
    · subst hy
      have e1 : 2 * y + 1 - 1 = 2 * y := by omega
      have e2 : (2 * y + 1) &&& (2 * y + 1 - 1) = 2 * y := by rw [e1, land_odd_even, Nat.and_self]
      have hyl : y < 2 ^ n := by rw [Nat.pow_succ] at h; omega
      refine ⟨0, by omega, by rw [Nat.testBit_zero]; simp, ?_, fun N hN => ?_, by rw [e2]; omega⟩
      · rw [e2]
        unfold bitsH
        rw [if_pos (by omega), if_neg (by omega), show (2 * y + 1) / 2 = y by omega, show 2 * y / 2 = y by omega]
        simp
      · obtain ⟨M, rfl⟩ : ∃ M, N = M + 1 := ⟨N - 1, by omega⟩
        have hp : 2 ^ n ≤ 2 ^ M := Nat.pow_le_pow_right (by omega) (by omega)
        have e3 : 2 ^ (M + 1) - (2 * y + 1) = 2 * (2 ^ M - (y + 1)) + 1 := by rw [Nat.pow_succ]; omega
        rw [e3, land_odd, land_compl M y (by omega)]
/-- The lowest bit. -/
def lowH (n x : Nat) : Nat := (bitsH n x).headD 0
theorem low_h {n x : Nat} (h0 : x ≠ 0) (h : x < 2 ^ n) : lowH n x < n ∧ x.testBit (lowH n x) = true ∧ bitsH n x = lowH n x :: bitsH n (x &&& (x - 1)) ∧ (∀ N, n ≤ N → x &&& (2 ^ N - x) = 2 ^ lowH n x) ∧ x &&& (x - 1) < x := by
  obtain ⟨k, k1, k2, k3, k4, k5⟩ := low_step n x h0 h
  have e : lowH n x = k := by unfold lowH; rw [k3]; rfl
  rw [e]
  exact ⟨k1, k2, k3, k4, k5⟩
/-- Go's and, or, of numbers that are not negative. -/
theorem and_i64n (a b : Nat) (ha : a < 9223372036854775808) (hb : b < 9223372036854775808) : bits .and .i64 (a : Int) (b : Int) = ((a &&& b : Nat) : Int) := by
  have hx : a &&& b ≤ a := Nat.and_le_left
  have h1 : (BitVec.ofInt 64 (a : Int)).toNat = a := by
    rw [BitVec.ofInt_natCast, BitVec.toNat_ofNat]; exact Nat.mod_eq_of_lt (by omega)
  have h2 : (BitVec.ofInt 64 (b : Int)).toNat = b := by
    rw [BitVec.ofInt_natCast, BitVec.toNat_ofNat]; exact Nat.mod_eq_of_lt (by omega)
  show IntKind.i64.wrap ((BitVec.ofInt 64 (a : Int) &&& BitVec.ofInt 64 (b : Int)).toNat : Int) = _
  rw [BitVec.toNat_and, h1, h2]
  exact IntWalk.i64_in _ (by omega)
theorem or_i64n (a b n : Nat) (hn : n ≤ 62) (ha : a < 2 ^ n) (hb : b < 2 ^ n) : bits .or .i64 (a : Int) (b : Int) = ((a ||| b : Nat) : Int) ∧ a ||| b < 2 ^ n := by
  have hx : a ||| b < 2 ^ n := Nat.or_lt_two_pow ha hb
  have hp : 2 ^ n ≤ 2 ^ 62 := Nat.pow_le_pow_right (by omega) hn
  have hp2 : (2 : Nat) ^ 62 = 4611686018427387904 := by decide
  have h1 : (BitVec.ofInt 64 (a : Int)).toNat = a := by
    rw [BitVec.ofInt_natCast, BitVec.toNat_ofNat]; exact Nat.mod_eq_of_lt (by omega)
  have h2 : (BitVec.ofInt 64 (b : Int)).toNat = b := by
    rw [BitVec.ofInt_natCast, BitVec.toNat_ofNat]; exact Nat.mod_eq_of_lt (by omega)
  refine ⟨?_, hx⟩
  show IntKind.i64.wrap ((BitVec.ofInt 64 (a : Int) ||| BitVec.ofInt 64 (b : Int)).toNat : Int) = _
  rw [BitVec.toNat_or, h1, h2]
  exact IntWalk.i64_in _ (by omega)
/-- x & -x. -/
theorem and_neg (x : Nat) (h0 : x ≠ 0) (h : x < 9223372036854775808) : bits .and .i64 (x : Int) (-(x : Int)) = ((x &&& (18446744073709551616 - x) : Nat) : Int) := by
  have hx : x &&& (18446744073709551616 - x) ≤ x := Nat.and_le_left
  have h1 : (BitVec.ofInt 64 (x : Int)).toNat = x := by
    rw [BitVec.ofInt_natCast, BitVec.toNat_ofNat]; exact Nat.mod_eq_of_lt (by omega)
  have h2 : (BitVec.ofInt 64 (-(x : Int))).toNat = 18446744073709551616 - x := by
    rw [BitVec.toNat_ofInt]
    have : (-(x : Int)) % ((2 ^ 64 : Nat) : Int) = ((18446744073709551616 - x : Nat) : Int) := by
      rw [show ((2 ^ 64 : Nat) : Int) = 18446744073709551616 by decide]
      omega
    rw [this]
    rfl
  show IntKind.i64.wrap ((BitVec.ofInt 64 (x : Int) &&& BitVec.ofInt 64 (-(x : Int))).toNat : Int) = _
  rw [BitVec.toNat_and, h1, h2]
  exact IntWalk.i64_in _ (by omega)
/-- a &^ b. -/
def andn (a b : Nat) : Nat := a &&& (18446744073709551616 - (b + 1))
theorem andn_bit (a b i : Nat) (hb : b < 18446744073709551616) (hi : i < 64) : (andn a b).testBit i = (a.testBit i && !b.testBit i) := by
  unfold andn
  have h := Nat.testBit_two_pow_sub_succ (n := 64) (x := b) (by omega) i
  rw [show (2 : Nat) ^ 64 = 18446744073709551616 by decide] at h
  rw [Nat.testBit_and, h]
  simp [hi]
theorem andn_le (a b : Nat) : andn a b ≤ a := Nat.and_le_left
theorem andn_i64 (a b : Nat) (ha : a < 9223372036854775808) (hb : b < 9223372036854775808) : bits .andNot .i64 (a : Int) (b : Int) = ((andn a b : Nat) : Int) := by
  have hx := andn_le a b
  have h1 : (BitVec.ofInt 64 (a : Int)).toNat = a := by
    rw [BitVec.ofInt_natCast, BitVec.toNat_ofNat]; exact Nat.mod_eq_of_lt (by omega)
  have h2 : (BitVec.ofInt 64 (b : Int)).toNat = b := by
    rw [BitVec.ofInt_natCast, BitVec.toNat_ofNat]; exact Nat.mod_eq_of_lt (by omega)
  show IntKind.i64.wrap ((BitVec.ofInt 64 (a : Int) &&& ~~~ BitVec.ofInt 64 (b : Int)).toNat : Int) = _
  rw [BitVec.toNat_and, BitVec.toNat_not, h1, h2]
  have e : 2 ^ 64 - 1 - b = 18446744073709551616 - (b + 1) := by omega
  rw [e]
  exact IntWalk.i64_in _ (by unfold andn at hx; omega)
end Go.Proofs.YtjpdmncafacmaaaGreatDoor
end
/- auto.List of any set below 2^24. -/
section
set_option linter.unusedVariables false
set_option linter.unusedSimpArgs false
namespace Go.Proofs.YtjpdmncafacmaaaGreatDoor
open Go.RowKit

def tzK (k : Nat) : Nat := 2 ^ k * 285870213051353865 % 18446744073709551616 / 288230376151711744
theorem tz_k : ∀ k, k < 24 → tzK k < 64 ∧ deB64.getD (tzK k) 0 = k := by decide
theorem tz24a_calls (x : Nat) (hx : x < 16777216) (hx0 : x ≠ 0) (w : World) (hT : Tab w) :
    Calls Tryz.prog 125 #[.int .u64 x] w fun e w' => e = .returned (.int .i64 (lowH 24 x)) ∧ w' = w := by
  obtain ⟨h1, _, _, h4, _⟩ := low_h (n := 24) hx0 hx
  obtain ⟨q1, q2⟩ := tz_k _ h1
  refine tz64_calls0 x (tzK (lowH 24 x)) (lowH 24 x) w (by rw [beq_eq_false_iff_ne]; omega) (tz_key0 x _ (by omega) hx0 (h4 64 (by omega))) q1 (by omega) ?_
  rw [hT _ q1, q2]
theorem tz24_calls (x : Nat) (hx : x < 16777216) (hx0 : x ≠ 0) (w : World) (hT : Tab w) :
    Calls Tryz.prog 105 #[.int .u64 x] w fun e w' => e = .returned (.int .i64 (lowH 24 x)) ∧ w' = w := by
  have H := Lib.hid (tz24a_calls x hx hx0 w hT)
  have hw : IntKind.u64.wrap (x : Int) = (x : Int) := by rw [IntKind.wrap_u64]; omega
  clear hT
  go_enter Tryz.func105, Tryz.ntmps105
  go_wp2_with fail
  refine H.out.mono ?_
  rintro e w' ⟨rfl, rfl⟩
  dsimp only
  go_wp2_with fail
  exact bodyPost_ret (results_tmp rfl _ _ _) rfl ⟨rfl, rfl⟩
def listH (x : Nat) : List Int := (bitsH 24 x).map fun i : Nat => (i : Int)
set_option maxRecDepth 100000 in
set_option maxHeartbeats 1000000 in
theorem list24_calls (x : Nat) (hx : x < 16777216) (w : World) (hT : Tab w) :
    Calls Tryz.prog 62 #[.int .i64 x] w fun e w' => ∃ u, e = .returned u ∧ Grew w w' ∧ Own IntR w' w.heap.size 3 1 (fun _ => True) u (listH x) := by
  have HT := Lib.hid hT
  clear hT
  have e0 : IntKind.u64.wrap (x : Int) = x := by rw [IntKind.wrap_u64]; omega
  go_enter Tryz.func62, Tryz.ntmps62
  go_wp2_with fail
  go_loopw [3, 4] (fun u i wr => ∃ (k y : Nat) (p : List Int), y < 16777216 ∧ i = .int .u64 y ∧ Grew w wr ∧ Hid (listH x = p ++ listH y) ∧ Own IntR wr w.heap.size 3 1 (fun _ => True) u p ∧ Hid (p.length + (bitsH 24 y).length = (bitsH 24 x).length)) (fun _ i _ => (intOf i).toNat)
  case atStart => exact ⟨0, x, [], hx, rfl, grew_refl _, rfl, Own.nil _ _ _ _ _ _, by unfold Hid; simp⟩
  case round =>
    obtain ⟨k, y, p, hy, rfl, hfr, HP, hO, HL⟩ := hrel
    obtain ⟨Au, cu, he, hcu⟩ := hO.val
    subst he
    by_cases hy0 : y = 0
    · subst hy0
      have HX : Hid (listH x = p) := by
        unfold Hid
        rw [HP.out, show listH 0 = [] by unfold listH; rw [bitsH_zero]; rfl, List.append_nil]
      have HO := Lib.hid hO
      clear hO
      go_wp2_with fail
      exact bodyPost_ret (v := .slice Au p.length cu) (by simp [results, Tryz.results62, go_sem]) rfl ⟨_, rfl, hfr, by rw [HX.out]; exact HO.out⟩
    · have hz : ((y : Int) != 0) = true := by simp; exact hy0
      obtain ⟨hlo0, _, hst0, _, hcl⟩ := low_h (n := 24) hy0 hy
      have HST := Lib.hid hst0
      have hlo : lowH 24 y < 24 := hlo0
      clear hst0 hlo0
      have HB := Lib.hid (bitsH_len 24 x)
      have HC := Lib.hid (tz24_calls y hy hy0 wr (HT.out.grew hfr))
      have HO := Lib.hid hO
      have e1 : IntKind.u64.wrap ((y : Int) - 1) = ((y - 1 : Nat) : Int) := by rw [IntKind.wrap_u64]; omega
      have e2 : bits BinOp.and IntKind.u64 (y : Int) ((y - 1 : Nat) : Int) = ((y &&& (y - 1) : Nat) : Int) := bits_and_u64_nat _ _ (by omega) (by omega)
      have HNE := Lib.hid hy0
      clear hO hy0
      generalize lowH 24 y = lo at *
      generalize y &&& (y - 1) = y2 at *
      go_wp2_with fail
      refine HC.out.mono ?_
      rintro e w4 ⟨rfl, rfl⟩
      dsimp only
      repeat ((fail_if_success at_builtin); first | go_values | go_skip | go_guarded | go_step | go_upon)
      have hf5 : Grew w4 (w4.alloc (.cells #[.int .i64 lo] 3)) := grew_alloc _ _
      have hO5 := HO.out.kept moves_int hf5.1 (ownNone _) (by simp)
      have htw := OneAt.new w4 (.int .i64 lo) 3
      have hL := HL.out
      have hBo := HB.out
      have hs0 := hfr.1.size
      have hltO := HO.out.lt
      refine Own.app1 moves_int elem_int hO5 rfl _ _ rfl rfl rfl (lo : Int) [.int .i64 lo] rfl (one_at htw) ?_ ?_ (by omega) (by omega) (by simp; omega) ?_
      · intro u hu
        simp at hu
        subst hu
        rfl
      · exact ⟨rfl, by omega, by omega⟩
      intro v7 w7 hO7 hg7 hp7
      have hfr7 : Grew w w7 := grew_own (grew_trans hfr hf5) (fun b hb => (hltO b hb).1) hg7.1 hg7.2
      obtain ⟨A7, c7, he7, hcc7⟩ := hO7.val
      have HO7 := Lib.hid hO7
      have hl7 : (p ++ [(lo : Int)]).length = p.length + 1 := by simp
      rw [hl7] at he7
      clear hO7 hO5 htw hltO hL hBo hl7
      subst he7
      have HP7 : Hid (listH x = (p ++ [(lo : Int)]) ++ listH y2) := by
        unfold Hid
        have h := HP.out
        unfold listH at h ⊢
        rw [HST.out] at h
        rw [h]
        simp
      have HL7 : Hid ((p ++ [(lo : Int)]).length + (bitsH 24 y2).length = (bitsH 24 x).length) := by
        unfold Hid
        have h := HL.out
        rw [HST.out] at h
        simp at h ⊢
        omega
      go_wp2_with fail
      exact ⟨⟨k + 1, y2, p ++ [(lo : Int)], by omega, rfl, hfr7, HP7, HO7.out, HL7⟩, by simp [intOf]; omega⟩
end Go.Proofs.YtjpdmncafacmaaaGreatDoor
end
/- The search for lists that have something of each alternative, plainly, step for step. -/
section
set_option linter.unusedVariables false
set_option linter.unusedSimpArgs false
namespace Go.Proofs.YtjpdmncafacmaaaGreatDoor
open Go.RowKit

/-- Each bit of a list is the only one that it has of some alternative. -/
def needP (alts : List Nat) (list : Nat) : Bool := (bitsH 24 list).all fun i => alts.any fun l => l &&& list == 2 ^ i
def hitL (f : Nat → Nat → List Nat → List Nat × Bool) (list : Nat) : List Nat → Nat → List Nat → List Nat × Bool
  | [], _, out => (out, true)
  | b :: bs, wo, out => if (f (list ||| 2 ^ b) wo out).2 then hitL f list bs (wo ||| 2 ^ b) (f (list ||| 2 ^ b) wo out).1 else f (list ||| 2 ^ b) wo out
def hitF (alts : List Nat) : Nat → Nat → Nat → List Nat → List Nat × Bool
  | 0, _, _, out => (out, false)
  | n + 1, list, wo, out =>
    if needP alts list then
      match alts.find? (fun l => l &&& list == 0) with
      | none => (out ++ [list], decide (out.length + 1 ≤ 12))
      | some l => hitL (hitF alts n) list (bitsH 24 (andn l wo)) wo out
    else (out, true)
theorem hitL_len {f : Nat → Nat → List Nat → List Nat × Bool} (hf : ∀ list wo out, out.length ≤ 12 → (f list wo out).1.length ≤ 13 ∧ ((f list wo out).2 = true → (f list wo out).1.length ≤ 12)) (list : Nat) :
    ∀ bs wo out, out.length ≤ 12 → (hitL f list bs wo out).1.length ≤ 13 ∧ ((hitL f list bs wo out).2 = true → (hitL f list bs wo out).1.length ≤ 12)
  | [], wo, out, h => ⟨by show out.length ≤ 13; omega, fun _ => h⟩
  | b :: bs, wo, out, h => by
    unfold hitL
    obtain ⟨h1, h2⟩ := hf (list ||| 2 ^ b) wo out h
    split
    · rename_i hb
      exact hitL_len hf list bs _ _ (h2 hb)
    · exact ⟨h1, h2⟩
theorem hitF_len (alts : List Nat) : ∀ n list wo out, out.length ≤ 12 → (hitF alts n list wo out).1.length ≤ 13 ∧ ((hitF alts n list wo out).2 = true → (hitF alts n list wo out).1.length ≤ 12)
  | 0, list, wo, out, h => ⟨by show out.length ≤ 13; omega, fun _ => h⟩
  | n + 1, list, wo, out, h => by
    unfold hitF
    split
    · split
      · refine ⟨by simp; omega, fun h1 => ?_⟩
        simp at h1 ⊢
        omega
      · exact hitL_len (hitF_len alts n) list _ _ _ h
    · exact ⟨by show out.length ≤ 13; omega, fun _ => h⟩
/-- What the search may put into its result: sets that hit every alternative. -/
def hitsAll (alts : List Nat) (m : Nat) : Prop := m < 16777216 ∧ ∀ l ∈ alts, l &&& m ≠ 0
theorem hitL_hits {alts : List Nat} {f : Nat → Nat → List Nat → List Nat × Bool} (hf : ∀ list wo out, list < 16777216 → (∀ m ∈ out, hitsAll alts m) → ∀ m ∈ (f list wo out).1, hitsAll alts m) {list : Nat} (hl : list < 16777216) :
    ∀ bs wo out, (∀ b ∈ bs, b < 24) → (∀ m ∈ out, hitsAll alts m) → ∀ m ∈ (hitL f list bs wo out).1, hitsAll alts m
  | [], wo, out, _, h => h
  | b :: bs, wo, out, hb, h => by
    unfold hitL
    have h24 := hb b (List.mem_cons_self ..)
    have hlt : list ||| 2 ^ b < 2 ^ 24 := Nat.or_lt_two_pow hl (Nat.pow_lt_pow_right (by omega) h24)
    have h1 := hf (list ||| 2 ^ b) wo out hlt h
    split
    · exact hitL_hits hf hl bs _ _ (fun b hb' => hb b (List.mem_cons_of_mem _ hb')) h1
    · exact h1
theorem hitF_hits (alts : List Nat) : ∀ n list wo out, list < 16777216 → (∀ m ∈ out, hitsAll alts m) → ∀ m ∈ (hitF alts n list wo out).1, hitsAll alts m
  | 0, list, wo, out, _, h => h
  | n + 1, list, wo, out, hl, h => by
    unfold hitF
    split
    · split
      · rename_i hnone
        intro m hm
        rcases List.mem_append.1 hm with hm | hm
        · exact h m hm
        · obtain rfl := List.mem_singleton.1 hm
          refine ⟨hl, fun l hl' => ?_⟩
          have := List.find?_eq_none.1 hnone l hl'
          simpa using this
      · exact hitL_hits (hitF_hits alts n) hl _ _ _ (fun b hb => ((bitsH_mem _ _ _).1 hb).1) h
    · exact h
/-- The bits of a set and one more. -/
theorem bits_more {list b : Nat} (hb : b < 24) (h : list.testBit b = false) : ∀ n, b < n → (bitsH n (list ||| 2 ^ b)).length = (bitsH n list).length + 1 := by
  intro n
  induction n generalizing list b with
  | zero => intro h; omega
  | succ n ih =>
    intro hn
    unfold bitsH
    rw [List.length_append, List.length_append, List.length_map, List.length_map]
    cases b with
    | zero =>
      have h0 : list % 2 = 0 := by
        rw [Nat.testBit_zero] at h
        have := decide_eq_false_iff_not.1 h
        omega
      have e1 : (list ||| 2 ^ 0) / 2 = list / 2 := by
        apply Nat.eq_of_testBit_eq
        intro i
        rw [← Nat.testBit_succ, Nat.testBit_or, Nat.testBit_two_pow, ← Nat.testBit_succ]
        simp
      have e2 : (list ||| 2 ^ 0) % 2 = 1 := by
        have : (list ||| 2 ^ 0).testBit 0 = true := by rw [Nat.testBit_or, Nat.testBit_two_pow]; simp
        rw [Nat.testBit_zero] at this
        exact of_decide_eq_true this
      rw [e1, if_pos e2, if_neg (by omega)]
      simp
      omega
    | succ b =>
      have hb' : (list / 2).testBit b = false := by rw [← Nat.testBit_succ]; exact h
      have e1 : (list ||| 2 ^ (b + 1)) / 2 = (list / 2) ||| 2 ^ b := by
        apply Nat.eq_of_testBit_eq
        intro i
        rw [← Nat.testBit_succ, Nat.testBit_or, Nat.testBit_two_pow, Nat.testBit_or, Nat.testBit_two_pow, ← Nat.testBit_succ]
        simp
      have e2 : (list ||| 2 ^ (b + 1)) % 2 = list % 2 := by
        have : (list ||| 2 ^ (b + 1)).testBit 0 = list.testBit 0 := by rw [Nat.testBit_or, Nat.testBit_two_pow]; simp
        rw [Nat.testBit_zero, Nat.testBit_zero] at this
        have h3 := decide_eq_decide.1 this
        omega
      rw [e1, e2, ih (by omega) hb' (by omega)]
      omega
end Go.Proofs.YtjpdmncafacmaaaGreatDoor
end
/- The search's helpers, walked: searches in lists of numbers; needed. -/
section
set_option linter.unusedVariables false
set_option linter.unusedSimpArgs false
namespace Go.Proofs.YtjpdmncafacmaaaGreatDoor
open Go.RowKit

/-- Where the first number with a property stands. -/
def IdxQ (xs : List Int) (p : Int → Bool) (z : Int) : Prop := (z = -1 ∧ ∀ x ∈ xs, p x = false) ∨ ∃ (k : Nat) (h : k < xs.length), z = k ∧ p xs[k] = true ∧ ∀ j (h : j < xs.length), j < k → p xs[j] = false
theorem IdxQ.any {xs : List Int} {p : Int → Bool} {z : Int} (h : IdxQ xs p z) : decide (z ≥ 0) = xs.any p := by
  rcases h with ⟨rfl, h⟩ | ⟨k, hk, rfl, h, _⟩
  · rw [show xs.any p = false from List.any_eq_false.2 fun x hx => by rw [h x hx]; simp]
    rfl
  · rw [show xs.any p = true from List.any_eq_true.2 ⟨_, List.getElem_mem hk, h⟩]
    exact decide_eq_true (by omega)
/-- What a function value says of a number, from a world on. -/
def PredI (F : Nat) (cb : Array Value) (w : World) (b : Bool) (x : Int) : Prop :=
  ∀ w', Grew w w' → Calls Tryz.prog F (#[.int .i64 x] ++ cb) w' (RetD w' (.bool b))
set_option maxRecDepth 20000 in
set_option maxHeartbeats 1000000 in
theorem idxI_calls (xs : List Int) (p : Int → Bool) (F : Nat) (cb : Array Value) (w : World) (v : Value) (eg : ∀ args w, (callFunc F args).run Tryz.prog w = .ok (.enter F args) w)
    (hF : ∀ x ∈ xs, PredI F cb w (p x) x) (hx : SlO w 1 (rdO IntR) xs v) :
    Calls Tryz.prog 113 #[v, .func (.func F) #[] cb] w fun e w' => ∃ z : Int, e = .returned (.int .i64 z) ∧ IdxQ xs p z ∧ Grew w w' := by
  obtain ⟨A, c, rfl, hc, hm⟩ := hx.val
  have HF := Lib.hid hF
  clear hF
  go_enter Tryz.func113, Tryz.ntmps113
  go_wp2_with fail
  go_loopw [8] (fun i wr => ∃ k : Nat, k ≤ xs.length ∧ i = .int .i64 k ∧ Grew w wr ∧ Hid (∀ j (h : j < xs.length), j < k → p xs[j] = false)) (fun i _ => xs.length - (intOf i).toNat)
  case atStart => exact ⟨0, Nat.zero_le _, rfl, grew_refl _, fun j h h0 => absurd h0 (Nat.not_lt_zero _)⟩
  case round =>
    obtain ⟨k, hk, rfl, hfr, HC⟩ := hrel
    by_cases hlt : k < xs.length
    · obtain ⟨b, o, p0, rfl, hb, hp0, hpt⟩ := (hx.frm hfr.1 (stays_rd moves_int)).at1 k hlt
      obtain ⟨hpv, _⟩ := hpt
      simp only [List.cons.injEq, and_true] at hpv
      subst hpv
      have H1 := Lib.hid (HF.out _ (List.getElem_mem hlt) wr hfr)
      have HS : Hid (p xs[k] = false → ∀ j (h : j < xs.length), j < k + 1 → p xs[j] = false) := fun h0 j h h1 => by
        by_cases hjk : j = k
        · subst hjk; exact h0
        · exact HC.out j h (by omega)
      have HY : Hid (p xs[k] = true → IdxQ xs p k) := fun h0 => .inr ⟨k, hlt, rfl, h0, HC.out⟩
      generalize xs[k] = x at *
      go_wp2_with fail
      go_at_fn F
      refine H1.out.mono ?_
      rintro e w1 ⟨rfl, hf⟩
      dsimp only
      have hG := grew_trans hfr hf
      cases heq : p x
      · have HD := Lib.hid (HS.out heq)
        clear heq
        go_wp2_with fail
        exact ⟨⟨k + 1, by omega, by go_num, hG, HD.out⟩, by simp [intOf]; omega⟩
      · have HD := Lib.hid (HY.out heq)
        clear heq
        go_wp2_with fail
        exact bodyPost_ret (results_tmp rfl _ _ _) rfl ⟨(k : Int), rfl, HD.out, hG⟩
    · obtain rfl : k = xs.length := by omega
      have HD : Hid (IdxQ xs p (-1)) := .inl ⟨rfl, fun x hx => by
        obtain ⟨j, hj, rfl⟩ := List.getElem_of_mem hx
        exact HC.out j hj hj⟩
      go_wp2_with fail
      exact bodyPost_ret (results_tmp rfl _ _ _) rfl ⟨-1, rfl, HD.out, hfr⟩
set_option maxRecDepth 20000 in
theorem hasI_calls (xs : List Int) (p : Int → Bool) (F : Nat) (cb : Array Value) (w : World) (v : Value) (eg : ∀ args w, (callFunc F args).run Tryz.prog w = .ok (.enter F args) w)
    (hF : ∀ x ∈ xs, PredI F cb w (p x) x) (hx : SlO w 1 (rdO IntR) xs v) :
    Calls Tryz.prog 129 #[v, .func (.func F) #[] cb] w (RetD w (.bool (xs.any p))) := by
  have H := Lib.hid (idxI_calls xs p F cb w v eg hF hx)
  obtain ⟨A, c, rfl, hc, hm⟩ := hx.val
  clear hF hx
  go_enter Tryz.func129, Tryz.ntmps129
  go_wp2_with fail
  refine H.out.mono ?_
  rintro e w1 ⟨z, rfl, hz, hf⟩
  have HZ := Lib.hid hz.any
  clear hz
  go_wp2_with fail
  exact bodyPost_ret (results_tmp rfl _ _ _) rfl ⟨by rw [← HZ.out]; rfl, hf⟩
set_option maxRecDepth 20000 in
theorem need1h_calls (l list one : Nat) (w : World) (g1 g2 : Nat) (h1 : w.cell? ⟨g1, 0, none⟩ = some (.int .i64 list)) (h2 : w.cell? ⟨g2, 0, none⟩ = some (.int .i64 one)) (hl : l < 16777216) (hL : list < 16777216) :
    Calls Tryz.prog 130 #[.int .i64 l, .pointer (some ⟨g1, 0, none⟩), .pointer (some ⟨g2, 0, none⟩)] w (RetD w (.bool (l &&& list == one))) := by
  have hb1 := World.block_lt_of_cell? _ _ h1
  have hl1 : g1 < w.heap.size := by simpa using hb1
  have hb2 := World.block_lt_of_cell? _ _ h2
  have hl2 : g2 < w.heap.size := by simpa using hb2
  have ha := and_i64n l list (by omega) (by omega)
  have HE : Hid ((((l &&& list : Nat) : Int) == (one : Int)) = (l &&& list == one)) := by
    unfold Hid
    rw [Bool.eq_iff_iff, beq_iff_eq, beq_iff_eq]
    omega
  generalize l &&& list = m at *
  go_enter Tryz.func130, Tryz.ntmps130
  go_wp2_with fail
  exact bodyPost_ret (results_tmp rfl _ _ _) rfl ⟨by rw [← HE.out]; rfl, grew_refl _⟩
set_option maxRecDepth 20000 in
theorem hit1_calls (l list : Nat) (w : World) (g1 : Nat) (h1 : w.cell? ⟨g1, 0, none⟩ = some (.int .i64 list)) (hl : l < 16777216) (hL : list < 16777216) :
    Calls Tryz.prog 114 #[.int .i64 l, .pointer (some ⟨g1, 0, none⟩)] w (RetD w (.bool (l &&& list == 0))) := by
  have hb1 := World.block_lt_of_cell? _ _ h1
  have hl1 : g1 < w.heap.size := by simpa using hb1
  have ha := and_i64n l list (by omega) (by omega)
  have HE : Hid ((((l &&& list : Nat) : Int) == 0) = (l &&& list == 0)) := by
    unfold Hid
    rw [Bool.eq_iff_iff, beq_iff_eq, beq_iff_eq]
    omega
  generalize l &&& list = m at *
  go_enter Tryz.func114, Tryz.ntmps114
  go_wp2_with fail
  exact bodyPost_ret (results_tmp rfl _ _ _) rfl ⟨by rw [← HE.out]; rfl, grew_refl _⟩
def natsI (xs : List Nat) : List Int := xs.map fun n : Nat => (n : Int)
theorem any_natsI (xs : List Nat) (p : Nat → Bool) : (natsI xs).any (fun z => p z.toNat) = xs.any p := by
  unfold natsI
  rw [List.any_map]
  congr 1
set_option maxRecDepth 100000 in
set_option maxHeartbeats 1000000 in
theorem needed_calls (alts : List Nat) (list : Nat) (w : World) (g : Nat) (vA : Value) (hl : list < 16777216) (ha : ∀ l ∈ alts, l < 16777216) (hg : w.cell? ⟨g, 0, none⟩ = some vA) (hA : SlO w 1 (rdO IntR) (natsI alts) vA) :
    Calls Tryz.prog 112 #[.pointer (some ⟨g, 0, none⟩), .int .i64 list] w (RetD w (.bool (needP alts list))) := by
  obtain ⟨A, c, rfl, hc, hm⟩ := hA.val
  have hgl' := World.block_lt_of_cell? _ _ hg
  have hgl : g < w.heap.size := by simpa using hgl'
  have HA := Lib.hid hA
  have HAL := Lib.hid ha
  have hf1 : Grew w (w.alloc (.cells #[.int .i64 list] 3)) := grew_alloc _ _
  have t1 := OneAt.new w (.int .i64 list) 3
  have hg1 := frm_cell hf1.1 hg
  obtain ⟨w1, hw1⟩ : ∃ w1, w1 = w.alloc (.cells #[.int .i64 list] 3) := ⟨_, rfl⟩
  rw [← hw1] at hf1 t1 hg1
  have hw1s : w.heap.size < w1.heap.size := t1.lt
  have ht10 := t1.cell
  have HW1 := Lib.hid hw1
  clear hA ha hgl'
  go_enter Tryz.func112, Tryz.ntmps112
  clear hw1
  go_wp2_with fail
  rw [← HW1.out]
  go_loopw [5] (fun i wr => ∃ y : Nat, y < 16777216 ∧ i = .int .i64 y ∧ Grew w1 wr ∧ Hid (needP alts list = (bitsH 24 y).all fun i => alts.any fun l => l &&& list == 2 ^ i)) (fun i _ => (intOf i).toNat)
  case atStart => exact ⟨list, hl, rfl, grew_refl _, rfl⟩
  case round =>
    obtain ⟨y, hy, rfl, hfr, HN⟩ := hrel
    by_cases hy0 : y = 0
    · subst hy0
      have HD : Hid (needP alts list = true) := by unfold Hid; rw [HN.out, bitsH_zero]; rfl
      go_wp2_with fail
      exact bodyPost_ret (results_tmp rfl _ _ _) rfl ⟨by rw [HD.out]; rfl, grew_trans hf1 hfr⟩
    · have hz : ((y : Int) != 0) = true := by simp; exact hy0
      obtain ⟨k1, k2, k3, k4, k5⟩ := low_h (n := 24) hy0 hy
      have HK3 := Lib.hid k3
      have e4 := k4 64 (by omega)
      rw [show (2 : Nat) ^ 64 = 18446744073709551616 by decide] at e4
      have hng := and_neg y hy0 (by omega)
      rw [e4] at hng
      have hpw : 2 ^ lowH 24 y < 2 ^ 24 := Nat.pow_lt_pow_right (by omega) k1
      have e2 := and_i64n y (y - 1) (by omega) (by omega)
      have e1 : ((y - 1 : Nat) : Int) = (y : Int) - 1 := by omega
      rw [e1] at e2
      have HNE := Lib.hid hy0
      have HST : Hid ((bitsH 24 y).all (fun i => alts.any fun l => l &&& list == 2 ^ i) = ((alts.any fun l => l &&& list == 2 ^ lowH 24 y) && (bitsH 24 (y &&& (y - 1))).all fun i => alts.any fun l => l &&& list == 2 ^ i)) := by
        unfold Hid
        rw [HK3.out, List.all_cons]
      clear k2 k3 k4 e4 e1 hy0
      generalize lowH 24 y = lo at *
      generalize 2 ^ lo = one at *
      generalize y &&& (y - 1) = y2 at *
      have hgr := frm_cell hfr.1 hg1
      have hglr : g < wr.heap.size := by have := hfr.1.size; omega
      have hlr := frm_cell hfr.1 ht10
      have hfx : Grew wr (wr.alloc (.cells #[.int .i64 one] 3)) := grew_alloc _ _
      have tx := OneAt.new wr (.int .i64 one) 3
      have HCF := Lib.hid (hasI_calls (natsI alts) (fun z => z.toNat &&& list == one) 130 #[.pointer (some ⟨w.heap.size, 0, none⟩), .pointer (some ⟨wr.heap.size, 0, none⟩)] (wr.alloc (.cells #[.int .i64 one] 3)) _ (enters_of Tryz.func130 (by kernel_rfl) rfl)
        (fun x hx w' hw' => by
          obtain ⟨l, hl', rfl⟩ := List.mem_map.1 hx
          exact need1h_calls l list one w' _ _ (frm_cell (grew_trans hfx hw').1 hlr) (frm_cell hw'.1 tx.cell) (HAL.out l hl') hl) (HA.out.frm (grew_trans hf1 (grew_trans hfr hfx)).1 (stays_rd moves_int)))
      rw [any_natsI alts (fun l => l &&& list == one)] at HCF
      have hGx := grew_trans hfr hfx
      clear tx
      go_wp2_with fail
      refine HCF.out.mono ?_
      rintro e w5 ⟨rfl, hf5⟩
      dsimp only
      cases hb : alts.any fun l => l &&& list == one
      · rw [hb] at HST
        have HD : Hid (needP alts list = false) := by unfold Hid; rw [HN.out, HST.out]; rfl
        go_wp2_with fail
        exact bodyPost_ret (results_tmp rfl _ _ _) rfl ⟨by rw [HD.out]; rfl, grew_trans hf1 (grew_trans hGx hf5)⟩
      · rw [hb] at HST
        have HD : Hid (needP alts list = (bitsH 24 y2).all fun i => alts.any fun l => l &&& list == 2 ^ i) := by unfold Hid; rw [HN.out, HST.out]; rfl
        go_wp2_with fail
        exact ⟨⟨y2, by omega, rfl, grew_trans hGx hf5, HD.out⟩, by simp [intOf]; omega⟩
end Go.Proofs.YtjpdmncafacmaaaGreatDoor
end
/- The search, walked. -/
section
set_option linter.unusedVariables false
set_option linter.unusedSimpArgs false
namespace Go.Proofs.YtjpdmncafacmaaaGreatDoor
open Go.RowKit

/-- The searcher in block `g`: its alternatives lie in `vA`, what it found in `vO`. -/
structure HitAt (w0 : World) (g : Nat) (vA : Value) (w : World) (vO : Value) (out : List Nat) : Prop where
  grew : GrewG g w0.heap.size w0 w
  two : TwoAt w g vA vO 119
  own : Own IntR w w0.heap.size 3 1 (fun _ => True) vO (natsI out)
theorem HitAt.more {w0 : World} {g : Nat} {vA : Value} {w w' : World} {vO : Value} {out : List Nat} (h : HitAt w0 g vA w vO out) (hf : Grew w w') : HitAt w0 g vA w' vO out :=
  ⟨h.grew.trans (.of hf h.grew.size), h.two.frm hf.1, h.own.kept moves_int hf.1 (ownNone _) (by simp)⟩
def HitTo (g : Nat) (w : World) (vO : Value) (w' : World) (vO' : Value) : Prop := GrewP (fun b => b ≠ g ∧ some b ≠ vO.ownBlock) w w' ∧ (vO'.ownBlock = vO.ownBlock ∨ ∃ b, vO'.ownBlock = some b ∧ w.heap.size ≤ b)
theorem HitTo.trans {g : Nat} {w w1 w2 : World} {v v1 v2 : Value} (h : HitTo g w v w1 v1) (h' : HitTo g w1 v1 w2 v2) : HitTo g w v w2 v2 := by
  obtain ⟨hP, hv⟩ := h
  obtain ⟨hP', hv'⟩ := h'
  have hs := hP.size
  refine ⟨⟨hP'.os.trans hP.os, hP'.tape.trans hP.tape, hP'.output.trans hP.output, Nat.le_trans hP.size hP'.size, Nat.le_trans hP.drawn hP'.drawn, fun b hb hq => ?_⟩, ?_⟩
  · refine (hP'.block b (by omega) ⟨hq.1, ?_⟩).trans (hP.block b hb hq)
    rcases hv with h | ⟨c, h, h2⟩
    · rw [h]; exact hq.2
    · rw [h]
      intro e
      injection e with e
      omega
  · rcases hv' with h | ⟨c, h, h2⟩
    · rw [h]; exact hv
    · exact .inr ⟨c, h, by omega⟩
theorem HitTo.of {g : Nat} {w w' : World} {v : Value} (h : Grew w w') : HitTo g w v w' v := ⟨.of h, .inl rfl⟩
theorem HitTo.cellW {g : Nat} {w w' : World} {v v' x : Value} {b : Nat} (h : HitTo g w v w' v') (hv : v.ownBlock ≠ some b) (hg : b ≠ g) (hb : b < w.heap.size) (hc : w.cell? ⟨b, 0, none⟩ = some x) : w'.cell? ⟨b, 0, none⟩ = some x :=
  h.1.cell ⟨hg, fun e => hv e.symm⟩ hc
/-- One more is found. -/
theorem HitAt.push {w0 : World} {g : Nat} {vA : Value} {w : World} {vO : Value} {out : List Nat} (h : HitAt w0 g vA w vO out) (hg : g < w0.heap.size) (list : Nat) (hl : list < 16777216) (ho : out.length ≤ 12) :
    ∃ A c w9, vO = .slice A out.length c ∧ ∃ A9 c9, (Builtin.append_ #[22, 22] 22 #[vO, .slice (some ⟨w.heap.size, 0, none⟩) 1 1]).run Tryz.prog (w.drew.alloc (.cells #[.int .i64 list] 3)) = .ok (.slice A9 (out.length + 1) c9) w9 ∧
      w9.cell? ⟨g, 1, none⟩ = some vO ∧ w9.frozen? ⟨g, 1, none⟩ = false ∧ HitAt w0 g vA (w9.setCell ⟨g, 1, none⟩ (.slice A9 (out.length + 1) c9)) (.slice A9 (out.length + 1) c9) (out ++ [list]) ∧ HitTo g w vO (w9.setCell ⟨g, 1, none⟩ (.slice A9 (out.length + 1) c9)) (.slice A9 (out.length + 1) c9) := by
  have hf : Grew w (w.drew.alloc (.cells #[.int .i64 list] 3)) := grew_then_alloc (grew_drew _) _
  have h2 := h.more hf
  have hsz := h.grew.size
  have htw := OneAt.new w.drew (.int .i64 list) 3
  have hlo : (natsI out).length = out.length := by unfold natsI; simp
  obtain ⟨A, c, he, _⟩ := h.own.val
  rw [hlo] at he
  have hltO := h.own.lt
  obtain ⟨v9, w9, hrun, hO9, hg9, hp9⟩ := Own.app_run moves_int elem_int h2.own 22 (g := w.heap.size) (list : Int) [.int .i64 list] rfl (one_at htw) (by
      intro u hu
      simp at hu
      subst hu
      rfl) ⟨rfl, by omega, by omega⟩ (by rw [hlo]; omega) (by omega) (by simp; omega)
  obtain ⟨A9, c9, he9, _⟩ := hO9.val
  rw [List.length_append, hlo, List.length_singleton] at he9
  subst he9
  have hgm : vO.ownBlock ≠ some g := fun e => by
    have := (hltO g e).1
    omega
  have hgl := h.two.lt
  have hT9 : TwoAt w9 g vA vO 119 := h2.two.move (hg9.1.block g (by simp; omega) (fun e => hgm e.symm))
  have hno : natsI (out ++ [list]) = natsI out ++ [(list : Int)] := by unfold natsI; simp
  obtain ⟨q0, q1, q2, q3⟩ := hT9.cells
  refine ⟨A, c, w9, he, A9, c9, hrun, q1, q3, ⟨?_, hT9.set1 _, ?_⟩, ⟨?_, ?_⟩⟩
  · exact ((h.grew.trans (.of hf hsz)).trans (.ofR hg9 (by simp; omega) (fun q hq => (hltO q hq).1))).set 1 _
  · rw [hno]
    exact own_int (ok' := fun _ => True) (show Own IntR _ _ _ _ (fun _ => False) _ _ from (own_int (ok' := fun _ => False) hO9).kept (moves_WR moves_int) (frm_set (frm_refl _ _) _ _) (.inr fun e => by have := (hO9.lt g e).1; omega) (fun q hq => hq.elim))
  · exact (((GrewP.of hf).row hg9 fun q hq => .inr fun h => h.2 hq.symm)).set 1 _ (fun h => h.1 rfl)
  · rcases hp9 with h | h
    · exact .inl h
    · exact .inr ⟨_, h, by simp⟩
theorem natsI_at (xs : List Nat) (k : Nat) (h : k < (natsI xs).length) (h' : k < xs.length) : (natsI xs)[k] = ((xs[k] : Nat) : Int) := List.getElem_map _
set_option maxRecDepth 100000 in
set_option maxHeartbeats 2000000 in
theorem hit_calls (alts : List Nat) (ha : ∀ l ∈ alts, l < 16777216) (w0 : World) (g : Nat) (hg : g < w0.heap.size) (vA : Value) (hA : Sl (fun b => b < w0.heap.size ∧ b ≠ g) w0 1 (IntR (fun b => b < w0.heap.size ∧ b ≠ g) w0) (natsI alts) vA) :
    ∀ (n list wo : Nat) (out : List Nat) (w : World) (vO : Value), list < 16777216 → wo < 16777216 → 24 < (bitsH 24 list).length + n → out.length ≤ 12 → HitAt w0 g vA w vO out →
      Calls Tryz.prog 85 #[.pointer (some ⟨g, 0, none⟩), .int .i64 list, .int .i64 wo] w fun e w' => e = .returned (.bool (hitF alts n list wo out).2) ∧ ∃ vO', HitAt w0 g vA w' vO' (hitF alts n list wo out).1 ∧ HitTo g w vO w' vO' := by
  intro n
  induction n with
  | zero =>
    intro list wo out w vO hl hw hfu ho hH
    have := bitsH_len 24 list
    omega
  | succ n ih =>
    intro list wo out w vO hl hw hfu ho hH
    have hSA : ∀ w' v' o', HitAt w0 g vA w' v' o' → SlO w' 1 (rdO IntR) (natsI alts) vA := fun w' v' o' h =>
      Sl.move hA (fun b hb => Nat.lt_of_lt_of_le hb.1 h.grew.size) (fun b hb => h.grew.block b hb.1 hb.2) fun x _ cs hx => hx
    have HSA := Lib.hid hSA
    have HAL := Lib.hid ha
    have HIH := Lib.hid ih
    have HFU := Lib.hid hfu
    obtain ⟨A, c, rfl, hc, hm⟩ := hA.val
    have HLN : Hid ((natsI alts).length = alts.length) := by unfold Hid natsI; simp
    have hf1 : Grew w (w.alloc (.cells #[.int .i64 list] 3)) := grew_alloc _ _
    have t1 := OneAt.new w (.int .i64 list) 3
    have HH1 := Lib.hid (hH.more hf1)
    have hgw := hH.two.lt
    have hltO := hH.own.lt
    obtain ⟨w1, hw1⟩ : ∃ w1, w1 = w.alloc (.cells #[.int .i64 list] 3) := ⟨_, rfl⟩
    rw [← hw1] at hf1 t1 HH1
    have hw1s : w.heap.size < w1.heap.size := t1.lt
    have ht10 := t1.cell
    obtain ⟨q0, q1, _, _⟩ := HH1.out.two.cells
    have HNE := Lib.hid (needed_calls alts list w1 g _ hl ha q0 (hSA _ _ _ HH1.out))
    have HW1 := Lib.hid hw1
    have HVO : Hid (vO.ownBlock ≠ some w.heap.size) := fun e => by
      have := (hltO _ e).2
      omega
    clear hSA ha ih hfu hA hH hltO
    go_enter Tryz.func85, Tryz.ntmps85
    clear hw1
    go_wp2_with fail
    rw [← HW1.out]
    refine HNE.out.mono ?_
    rintro e w2 ⟨rfl, hf2⟩
    have HH2 := Lib.hid (HH1.out.more hf2)
    have hf12 := grew_trans hf1 hf2
    obtain ⟨q0, q1, q2, q3⟩ := HH2.out.two.cells
    have ht20 := frm_cell hf2.1 ht10
    have hs2 := hf2.1.size
    have hgw2 : g < w2.heap.size := by omega
    dsimp only
    cases hnp : needP alts list
    · have HD : Hid (hitF alts (n + 1) list wo out = (out, true)) := by unfold Hid hitF; rw [if_neg (by rw [hnp]; simp)]
      clear hnp
      go_wp2_with fail
      refine bodyPost_ret (results_tmp rfl _ _ _) rfl ⟨by rw [HD.out]; rfl, vO, ?_⟩
      rw [HD.out]
      exact ⟨HH2.out, HitTo.of hf12⟩
    · have HD0 : Hid (hitF alts (n + 1) list wo out = match alts.find? (fun l => l &&& list == 0) with
          | none => (out ++ [list], decide (out.length + 1 ≤ 12))
          | some l => hitL (hitF alts n) list (bitsH 24 (andn l wo)) wo out) := by
        unfold Hid
        rw [hitF, if_pos hnp] <;> rfl
      have HIX := Lib.hid (idxI_calls (natsI alts) (fun z => z.toNat &&& list == 0) 114 #[.pointer (some ⟨w.heap.size, 0, none⟩)] w2 _ (enters_of Tryz.func114 (by kernel_rfl) rfl)
        (fun x hx w' hw' => by
          obtain ⟨l, hl', rfl⟩ := List.mem_map.1 hx
          exact hit1_calls l list w' _ (frm_cell hw'.1 ht20) (HAL.out l hl') hl) (HSA.out _ _ _ HH2.out))
      clear hnp
      go_wp2_with fail
      refine HIX.out.mono ?_
      rintro e w3 ⟨z, rfl, hz, hf3⟩
      have HH3 := Lib.hid (HH2.out.more hf3)
      have hf13 := grew_trans hf12 hf3
      obtain ⟨q0, q1, q2, q3⟩ := HH3.out.two.cells
      have ht30 := frm_cell hf3.1 ht20
      have hs3 := hf3.1.size
      have hgw3 : g < w3.heap.size := by omega
      dsimp only
      rcases hz with ⟨rfl, hno⟩ | ⟨k, hk, rfl, hpk, hbk⟩
      · have hfn : alts.find? (fun l => l &&& list == 0) = none := List.find?_eq_none.2 fun l hl' => by
          have := hno (l : Int) (List.mem_map.2 ⟨l, hl', rfl⟩)
          simpa using this
        have HD : Hid (hitF alts (n + 1) list wo out = (out ++ [list], decide (out.length + 1 ≤ 12))) := by unfold Hid; rw [HD0.out, hfn]
        obtain ⟨Ao, co, w9, hve, A9, c9, hrun9, gc9, gf9, hH9, hT9⟩ := HH3.out.push hg list hl ho
        have HH9 := Lib.hid hH9
        have HT9 := Lib.hid hT9
        subst hve
        clear hfn hno hH9 hT9
        go_wp2_with fail
        go_region_law ((rw [if_pos (by rfl)]; refine append_wp (.tmp 26) (.tmp 28) rfl rfl rfl hrun9 ?_))
        all_goals
          obtain ⟨r0, r1, r2, r3⟩ := HH9.out.two.cells
          have hdc : Hid (decide ((out.length : Int) + 1 ≤ 12) = decide (out.length + 1 ≤ 12)) := by
            unfold Hid
            rw [decide_eq_decide]
            omega
          generalize w9.setCell ⟨g, 1, none⟩ (.slice A9 (out.length + 1) c9) = w10 at *
          go_wp2_with fail
          refine bodyPost_ret (results_tmp rfl _ _ _) rfl ⟨by rw [HD.out]; show _ = Ending.returned (.bool (decide (out.length + 1 ≤ 12))); rw [← hdc.out]; rfl, .slice A9 (out.length + 1) c9, ?_⟩
          rw [HD.out]
          exact ⟨HH9.out, (HitTo.of hf13).trans HT9.out⟩
      · have hk' : k < alts.length := by rw [← HLN.out]; exact hk
        have hki : (natsI alts)[k] = ((alts[k] : Nat) : Int) := natsI_at alts k hk hk'
        have hfs : alts.find? (fun l => l &&& list == 0) = some alts[k] := by
          rw [List.find?_eq_some_iff_getElem]
          rw [hki] at hpk
          refine ⟨by simpa using hpk, k, hk', rfl, fun j hj => ?_⟩
          have h1 := hbk j (by rw [HLN.out]; omega) hj
          have hji : (natsI alts)[j]'(by rw [HLN.out]; omega) = ((alts[j] : Nat) : Int) := natsI_at alts j _ (by omega)
          rw [hji] at h1
          simpa using h1
        have HD : Hid (hitF alts (n + 1) list wo out = hitL (hitF alts n) list (bitsH 24 (andn alts[k] wo)) wo out) := by unfold Hid; rw [HD0.out, hfs]
        have hl0 : alts[k] &&& list = 0 := by rw [hki] at hpk; simpa using hpk
        obtain ⟨ba, oa, p0, rfl, hba, hp0, hpt⟩ := (HSA.out _ _ _ HH3.out).at1 k hk
        obtain ⟨hpv, _⟩ := hpt
        rw [hki] at hpv
        simp only [List.cons.injEq, and_true] at hpv
        subst hpv
        have hlk := HAL.out _ (List.getElem_mem hk')
        have HBL : Hid (∀ b, alts[k].testBit b = true → list.testBit b = false) := fun b hb => by
          have h1 : (alts[k] &&& list).testBit b = false := by rw [hl0]; exact Nat.zero_testBit b
          rw [Nat.testBit_and, hb, Bool.true_and] at h1
          exact h1
        have hkn : (k : Int) < (natsI alts).length := by omega
        have hs3b : w.heap.size < w3.heap.size := by omega
        have hk0 : (0 : Int) ≤ (k : Int) := by omega
        have hkneg : ((k : Int) < 0) = False := by simp
        clear hpk hbk hfs hki hl0
        generalize alts[k] = l at *
        clear hk'
        have han := andn_i64 l wo (by omega) (by omega)
        have hal := andn_le l wo
        have HAB : Hid (∀ b, b < 24 → (andn l wo).testBit b = true → l.testBit b = true) := fun b hb h => by
          rw [andn_bit l wo b (by omega) (by omega), Bool.and_eq_true] at h
          exact h.1
        generalize andn l wo = x0 at *
        have hx0 : x0 < 16777216 := by omega
        go_wp2_with fail
        go_loopw [2, 8] (fun z2 z8 wr => ∃ (y wo' : Nat) (out' : List Nat) (vO' : Value), z2 = .int .i64 wo' ∧ z8 = .int .i64 y ∧ y < 16777216 ∧ wo' < 16777216 ∧ out'.length ≤ 12 ∧ Hid (∀ b, b < 24 → y.testBit b = true → l.testBit b = true) ∧ Hid (hitL (hitF alts n) list (bitsH 24 x0) wo out = hitL (hitF alts n) list (bitsH 24 y) wo' out') ∧ Hid (HitAt w0 g (.slice (some ⟨ba, oa, none⟩) (natsI alts).length c) wr vO' out' ∧ HitTo g w3 vO wr vO')) (fun _ z8 _ => (intOf z8).toNat)
        case atStart => exact ⟨x0, wo, out, vO, rfl, rfl, hx0, hw, ho, HAB.out, rfl, HH3.out, HitTo.of (grew_refl _)⟩
        case round =>
          obtain ⟨y, wo', out', vO', rfl, rfl, hy, hw', ho', HYL, HEQ, HHR⟩ := hrel
          by_cases hy0 : y = 0
          · subst hy0
            have HD2 : Hid (hitF alts (n + 1) list wo out = (out', true)) := by unfold Hid; rw [HD.out, HEQ.out, bitsH_zero]; rfl
            go_wp2_with fail
            refine bodyPost_ret (results_tmp rfl _ _ _) rfl ⟨by rw [HD2.out]; rfl, vO', ?_⟩
            rw [HD2.out]
            exact ⟨HHR.out.1, (HitTo.of hf13).trans HHR.out.2⟩
          · have hz : ((y : Int) != 0) = true := by simp; exact hy0
            obtain ⟨k1, k2, k3, k4, k5⟩ := low_h (n := 24) hy0 hy
            have e4 := k4 64 (by omega)
            rw [show (2 : Nat) ^ 64 = 18446744073709551616 by decide] at e4
            have hng := and_neg y hy0 (by omega)
            rw [e4] at hng
            have hpw : 2 ^ lowH 24 y < 2 ^ 24 := Nat.pow_lt_pow_right (by omega) k1
            have e2 := and_i64n y (y - 1) (by omega) (by omega)
            have e1 : ((y - 1 : Nat) : Int) = (y : Int) - 1 := by omega
            rw [e1] at e2
            have HY2 : Hid (∀ b, b < 24 → (y &&& (y - 1)).testBit b = true → l.testBit b = true) := fun b hb h => by
              rw [Nat.testBit_and, Bool.and_eq_true] at h
              exact HYL.out b hb h.1
            have hlb := HBL.out _ (HYL.out _ k1 k2)
            have hbm := bits_more k1 hlb 24 k1
            obtain ⟨hor, horl⟩ := or_i64n list (2 ^ lowH 24 y) 24 (by omega) hl hpw
            obtain ⟨hor2, horl2⟩ := or_i64n wo' (2 ^ lowH 24 y) 24 (by omega) hw' hpw
            have HST : Hid (hitL (hitF alts n) list (bitsH 24 y) wo' out' = if (hitF alts n (list ||| 2 ^ lowH 24 y) wo' out').2 then hitL (hitF alts n) list (bitsH 24 (y &&& (y - 1))) (wo' ||| 2 ^ lowH 24 y) (hitF alts n (list ||| 2 ^ lowH 24 y) wo' out').1 else hitF alts n (list ||| 2 ^ lowH 24 y) wo' out') := by
              unfold Hid
              rw [k3]
              rfl
            have hcl := HitTo.cellW HHR.out.2 HVO.out (by omega) hs3b ht30
            obtain ⟨r0, r1, _, _⟩ := HHR.out.1.two.cells
            have hgr := HHR.out.1.two.lt
            have hlr := World.block_lt_of_cell? _ _ hcl
            have hFL := (hitF_len alts n (list ||| 2 ^ lowH 24 y) wo' out' ho').2
            have HREC := Lib.hid (HIH.out (list ||| 2 ^ lowH 24 y) wo' out' wr vO' horl hw' (by rw [hbm]; have := HFU.out; omega) ho' HHR.out.1)
            have HFL := Lib.hid hFL
            have HOR2 := Lib.hid horl2
            clear hFL k2 k3 k4 e4 e1 hlb hbm hy0 horl2
            generalize hitF alts n (list ||| 2 ^ lowH 24 y) wo' out' = res at *
            generalize lowH 24 y = lo at *
            generalize 2 ^ lo = one at *
            generalize y &&& (y - 1) = y2 at *
            generalize list ||| one = lo1 at *
            generalize wo' ||| one = wo2 at *
            go_wp2_with fail
            refine HREC.out.mono ?_
            rintro e w5 ⟨rfl, vO5, hH5, hT5⟩
            have HH5 : Hid (HitAt w0 g (.slice (some ⟨ba, oa, none⟩) (natsI alts).length c) w5 vO5 res.1 ∧ HitTo g w3 vO w5 vO5) := ⟨hH5, HHR.out.2.trans hT5⟩
            clear hH5 hT5
            dsimp only
            obtain ⟨o5, b5⟩ := res
            dsimp only at HFL HST HH5 ⊢
            cases b5 with
            | false =>
              have HD2 : Hid (hitF alts (n + 1) list wo out = (o5, false)) := by unfold Hid; rw [HD.out, HEQ.out, HST.out]; rfl
              go_wp2_with fail
              refine bodyPost_ret (results_tmp rfl _ _ _) rfl ⟨by rw [HD2.out]; rfl, vO5, ?_⟩
              rw [HD2.out]
              exact ⟨HH5.out.1, (HitTo.of hf13).trans HH5.out.2⟩
            | true =>
              have HE2 : Hid (hitL (hitF alts n) list (bitsH 24 x0) wo out = hitL (hitF alts n) list (bitsH 24 y2) wo2 o5) := by unfold Hid; rw [HEQ.out, HST.out]; rfl
              go_wp2_with fail
              exact ⟨⟨y2, wo2, o5, vO5, rfl, rfl, by omega, HOR2.out, HFL.out rfl, HY2.out, HE2.out, HH5.out⟩, by simp [intOf]; omega⟩
end Go.Proofs.YtjpdmncafacmaaaGreatDoor
end
/- auto's dual of one list of alternatives. -/
section
set_option linter.unusedVariables false
set_option linter.unusedSimpArgs false
namespace Go.Proofs.YtjpdmncafacmaaaGreatDoor
open Go.RowKit

/-- A need as a bit. -/
def ndBit (x : Nd) : Nat := (x.1 * 6 + x.2).toNat
def maskF (m : Nat) (l : List Nd) : Nat := l.foldl (fun m x => m ||| 2 ^ ndBit x) m
def maskP (l : List Nd) : Nat := maskF 0 l
def bitNd (i : Nat) : Nd := (((i / 6 : Nat) : Int), ((i % 6 : Nat) : Int))
def unmask (m : Nat) : List Nd := (bitsH 24 m).map bitNd
def hitR (alts : List (List Nd)) : List Nat × Bool := hitF (alts.map maskP) 25 0 0 []
theorem maskF_take {l : List Nd} {j : Nat} (m : Nat) (h : j < l.length) : maskF m (l.take (j + 1)) = maskF m (l.take j) ||| 2 ^ ndBit l[j] := by
  unfold maskF
  rw [List.take_succ_eq_append_getElem h, List.foldl_append]
  rfl
theorem maskF_lt {l : List Nd} (h : ∀ x ∈ l, ndBit x < 24) : ∀ m, m < 2 ^ 24 → maskF m l < 2 ^ 24 := by
  induction l with
  | nil => exact fun m h => h
  | cons x l ih => exact fun m hm => ih (fun y hy => h y (List.mem_cons_of_mem _ hy)) _ (Nat.or_lt_two_pow hm (Nat.pow_lt_pow_right (by omega) (h x (List.mem_cons_self ..))))
theorem maskF_bit : ∀ (l : List Nd) (m b : Nat), (maskF m l).testBit b = true ↔ m.testBit b = true ∨ ∃ x ∈ l, ndBit x = b
  | [], m, b => by simp [maskF]
  | x :: l, m, b => by
    have ih := maskF_bit l (m ||| 2 ^ ndBit x) b
    have e : maskF m (x :: l) = maskF (m ||| 2 ^ ndBit x) l := rfl
    rw [e, ih, Nat.testBit_or, Nat.testBit_two_pow, Bool.or_eq_true, decide_eq_true_iff]
    simp [or_assoc]
theorem ndBit_nd {x : Nd} (h : (0 ≤ x.1 ∧ x.1 < 4) ∧ 0 ≤ x.2 ∧ x.2 < 6) : ndBit x < 24 ∧ bitNd (ndBit x) = x := by
  unfold ndBit bitNd
  obtain ⟨a, b⟩ := x
  dsimp only at *
  refine ⟨by omega, ?_⟩
  rw [Prod.mk.injEq]
  omega
theorem bitNd_ok {i : Nat} (h : i < 24) : ((0 ≤ (bitNd i).1 ∧ (bitNd i).1 < 4) ∧ 0 ≤ (bitNd i).2 ∧ (bitNd i).2 < 6) ∧ ndBit (bitNd i) = i := by
  unfold ndBit bitNd
  dsimp only
  omega
set_option maxRecDepth 20000 in
theorem sortO_calls (xs : List (List Nd)) (hsm : ∀ l ∈ xs, ∀ x ∈ l, Nd.small x) (hlen : xs.length ≤ 140737488351232) (w : World) (v : Value) {base : Nat} {ok : Nat → Prop} (H : Own (WR AltR) w base 76 1 ok v xs) :
    Calls Tryz.prog 86 #[v, .func (.func 75) #[] #[]] w fun e w' => e = .returned (.tuple #[]) ∧ GrewR w w' v.ownBlock ∧ ∃ ys, ys.Perm xs ∧ ys.Pairwise (fun x y => cmpL Nd.cmp x y ≤ 0) ∧ WR AltsR (fun b => Sup ok w v b ∨ some b = v.ownBlock) w' ys [v] := by
  rcases H.cases with ⟨rfl, rfl⟩ | ⟨g, c, rfl, hc, hb, hg⟩
  · refine (sortA_none none 0 w).mono ?_
    rintro e w1 ⟨rfl, rfl⟩
    exact ⟨rfl, grewR_refl _ _, [], .nil, .nil, _, rfl, none, 0, rfl, by simp, by simp, by simp⟩
  · by_cases h0 : xs.length = 0
    · have hx0 : xs = [] := List.eq_nil_of_length_eq_zero h0
      subst hx0
      refine (sortA_none _ c w).mono ?_
      rintro e w1 ⟨rfl, rfl⟩
      exact ⟨rfl, grewR_refl _ _, [], .nil, .nil, _, rfl, _, c, rfl, by simp, by simp, by simp⟩
    · have hrow := H.rowG
      have hu := H.unf g rfl
      have hS : ∀ b, Sup ok w (.slice (some ⟨g, 0, none⟩) xs.length c) b → b < w.heap.size ∧ b ≠ g := fun b hb => ⟨hb.2.1, fun e => hb.2.2 (by rw [e]; rfl)⟩
      refine (sortA_calls (cap := c) hS hg hu hrow hsm (by omega) hlen).mono ?_
      rintro e w1 ⟨rfl, hf1, hu1, ts, hp, hso, hr1⟩
      refine ⟨rfl, hf1, ts, hp, hso, _, rfl, ?_⟩
      have hl := hp.length_eq
      refine ⟨_, c, by rw [hl], by omega, by omega, fun h0 => ⟨g, 0, rfl, ⟨.inr rfl, hu1⟩, fun i hi => ?_⟩⟩
      obtain ⟨cs, q1, q2, q3⟩ := hr1 i hi
      exact ⟨cs, q1, by simpa using q2, moves_alt _ _ _ _ _ _ (fun b hb => ⟨.inl hb.1, hb.2⟩) (fun _ _ => rfl) q3⟩
theorem shl_24 : ∀ s, s < 24 → IntKind.i64.wrap ((2 : Int) ^ s) = ((2 ^ s : Nat) : Int) := by decide
theorem own_nd2 {w : World} {base e k : Nat} {ok ok' : Nat → Prop} {v : Value} {xs : List Nd} (h : Own NdR w base e k ok v xs) : Own (WR NdR) w base e k ok' v xs := h
/-- What dual returns. -/
def dualQ (alts : List (List Nd)) (ys : List (List Nd)) : Prop := ys.Perm ((hitR alts).1.map unmask) ∧ ys.Pairwise (fun x y => cmpL Nd.cmp x y ≤ 0)
set_option maxRecDepth 100000 in
set_option maxHeartbeats 4000000 in
theorem dual_calls (alts : List (List Nd)) (w : World) (hT : Tab w) (v : Value) (hs : SlO w 1 (rdO AltR) alts v) (hl12 : alts.length ≤ 12) (hb : ∀ l ∈ alts, l.length ≤ 24 ∧ ∀ x ∈ l, (0 ≤ x.1 ∧ x.1 < 4) ∧ 0 ≤ x.2 ∧ x.2 < 6) :
    Calls Tryz.prog 42 #[v] w fun e w' => ∃ z ys, e = .returned (.tuple #[z, .bool (hitR alts).2]) ∧ Grew w w' ∧ dualQ alts ys ∧ WR AltsR (fun b => w.heap.size ≤ b ∧ b < w'.heap.size) w' ys [z] := by
  obtain ⟨A, c, rfl, hc, hm⟩ := hs.val
  have HS := Lib.hid hs
  have HB := Lib.hid hb
  have HTB := Lib.hid hT
  have hfh : Grew w (w.alloc (.cells #[.slice none 0 0, .slice none 0 0] 119)) := grew_alloc _ _
  have th := TwoAt.new w (.slice none 0 0) (.slice none 0 0) 119
  obtain ⟨wh, hwh⟩ : ∃ wh, wh = w.alloc (.cells #[.slice none 0 0, .slice none 0 0] 119) := ⟨_, rfl⟩
  rw [← hwh] at hfh th
  obtain ⟨gh, hgh⟩ : ∃ gh, gh = w.heap.size := ⟨_, rfl⟩
  have hghl : gh < wh.heap.size := by rw [hgh]; exact th.lt
  have hghw : w.heap.size ≤ gh := by omega
  have HWH := Lib.hid hwh
  have HGH := Lib.hid hgh
  rw [← hgh] at th
  have hwhs : wh.heap.size = gh + 1 := by rw [hwh, hgh]; simp
  clear hs hb hT
  go_enter Tryz.func42, Tryz.ntmps42
  clear hwh hgh
  go_wp2_with fail
  rw [← HWH.out, ← HGH.out]
  go_loopw [21] (fun i wr => ∃ (k : Nat) (vA : Value), k ≤ alts.length ∧ i = .int .i64 k ∧ Grew w wr ∧ TwoAt wr gh vA (.slice none 0 0) 119 ∧ Own IntR wr wh.heap.size 3 1 (fun _ => True) vA (natsI ((alts.take k).map maskP))) (fun i _ => alts.length - (intOf i).toNat)
  case atStart => exact ⟨0, _, Nat.zero_le _, rfl, hfh, th, Own.nil _ _ _ _ _ _⟩
  case round =>
    obtain ⟨k, vA, hk, rfl, hfr, hT2, hO⟩ := hrel
    have hlk : (natsI ((alts.take k).map maskP)).length = k := by unfold natsI; simp; omega
    obtain ⟨Aa, ca, he, hca⟩ := hO.val
    rw [hlk] at he hca
    subst he
    have HO := Lib.hid hO
    have HT2 := Lib.hid hT2
    have HLK := Lib.hid hlk
    clear hO hlk hT2
    by_cases hlt : k < alts.length
    · obtain ⟨b, o, p0, rfl, hb, hp0', hpt⟩ := HS.out.at1 k hlt
      have hp0 := frm_cell hfr.1 hp0'
      obtain ⟨A2, n2, c2, rfl⟩ : ∃ A1 n1 c1, p0 = .slice A1 n1 c1 := by
        obtain ⟨A1, c1, h, _⟩ := (row_val hpt).val
        exact ⟨_, _, _, h⟩
      have HT : Hid (natsI ((alts.take (k + 1)).map maskP) = natsI ((alts.take k).map maskP) ++ [(maskP alts[k] : Int)]) := by
        unfold Hid natsI
        rw [List.take_succ_eq_append_getElem hlt, List.map_append, List.map_append]
        rfl
      have HBL := Lib.hid (HB.out _ (List.getElem_mem hlt))
      generalize alts[k] = l at *
      have hL := row_val hpt
      obtain ⟨A3, c3, he3, hc3, hm3⟩ := hL.val
      injection he3 with e1 e2 e3
      subst e1 e2 e3
      have HL := Lib.hid hL
      clear hpt hL hp0'
      go_wp2_with fail
      obtain ⟨wo, hwo⟩ : ∃ wo : World, wo = wr := ⟨_, rfl⟩
      subst hwo
      go_loopw [7, 27] (fun z i wq => ∃ (j m : Nat), j ≤ l.length ∧ z = .int .i64 m ∧ i = .int .i64 j ∧ m < 16777216 ∧ Hid (m = maskF 0 (l.take j)) ∧ Grew wo wq) (fun _ i _ => l.length - (intOf i).toNat)
      case atStart => exact ⟨0, 0, Nat.zero_le _, rfl, rfl, by omega, rfl, grew_refl _⟩
      case round =>
        obtain ⟨j, m, hj, rfl, rfl, hm16, HM, hfq⟩ := hrel
        by_cases hltj : j < l.length
        · obtain ⟨b3, o3, q0, q1, h3e, hb3, hq0', hq1', hqt⟩ := HL.out.at2 j hltj
          subst h3e
          have hfw := grew_trans hfr hfq
          have hq0 := frm_cell hfw.1 hq0'
          have hq1 := frm_cell hfw.1 hq1'
          obtain ⟨hqv, _⟩ := hqt
          simp only [List.cons.injEq, and_true] at hqv
          obtain ⟨rfl, rfl⟩ := hqv
          have HMT := Lib.hid (maskF_take 0 hltj)
          have hxb := HBL.out.2 _ (List.getElem_mem hltj)
          generalize l[j] = x at *
          obtain ⟨hx24, _⟩ := ndBit_nd hxb
          obtain ⟨nb, hnb⟩ : ∃ nb, nb = ndBit x := ⟨_, rfl⟩
          have hnbE : x.1 * 6 + x.2 = (nb : Int) := by rw [hnb]; unfold ndBit; omega
          rw [← hnb] at hx24 HMT
          have hsh := shl_24 nb hx24
          have hpw : 2 ^ nb < 2 ^ 24 := Nat.pow_lt_pow_right (by omega) hx24
          obtain ⟨hor, horl⟩ := or_i64n m (2 ^ nb) 24 (by omega) hm16 hpw
          have hmul : IntKind.i64.wrap (x.1 * 6) = x.1 * 6 := IntWalk.i64_in _ (by omega)
          have hadd : IntKind.i64.wrap (x.1 * 6 + x.2) = (nb : Int) := by rw [hnbE]; exact IntWalk.i64_in _ (by omega)
          have hn0 : (0 : Int) ≤ (nb : Int) := by omega
          have hgx : Grew wr (wr.alloc (.cells #[.int .i64 x.1, .int .i64 x.2] 80)) := grew_alloc _ _
          obtain ⟨x0, x1, _, _⟩ := (TwoAt.new wr (.int .i64 x.1) (.int .i64 x.2) 80).cells
          clear hq0' hq1' hxb hnb
          go_wp2_with fail
          have hor' : bits .or .i64 (m : Int) ((2 : Int) ^ nb) = ((m ||| 2 ^ nb : Nat) : Int) := by
            have h := hor
            rw [show ((2 ^ nb : Nat) : Int) = (2 : Int) ^ nb by rw [Int.natCast_pow]; rfl] at h
            exact h
          exact ⟨⟨j + 1, m ||| 2 ^ nb, by omega, by rw [hor'], by go_num, horl, by unfold Hid; rw [HMT.out, HM.out], grew_trans hfq hgx⟩, by simp [intOf]; omega⟩
        · obtain rfl : j = l.length := by omega
          have HME : Hid (maskP l = m) := by
            unfold Hid maskP
            have h := HM.out
            rw [List.take_length] at h
            exact h.symm
          rw [HME.out] at HT
          have hO1 := HO.out.kept moves_int hfq.1 (ownNone _) (by simp)
          have HT3 := Lib.hid (HT2.out.frm hfq.1)
          obtain ⟨d0, d1, df0, df1⟩ := HT3.out.cells
          have hsq := hfq.1.size
          have hgw := HT3.out.lt
          have HO1 := Lib.hid hO1
          have hltO := hO1.lt
          have HLT := Lib.hid hltO
          clear hO1 hltO
          repeat ((fail_if_success at_builtin); first | go_values | go_skip | go_guarded | go_step | go_upon)
          have hf5 : Grew wr (wr.alloc (.cells #[.int .i64 m] 3)) := grew_alloc _ _
          have hO5 := HO1.out.kept moves_int hf5.1 (ownNone _) (by simp)
          have htw := OneAt.new wr (.int .i64 m) 3
          have hlen := HLK.out
          have hwhs := HLT.out
          refine Own.app1 moves_int elem_int hO5 rfl _ _ rfl rfl rfl (m : Int) [.int .i64 m] rfl (one_at htw) ?_ ⟨rfl, by omega, by omega⟩ (by rw [hlen]; omega) (by omega) (by simp; omega) ?_
          · intro u hu
            simp at hu
            subst hu
            rfl
          intro v7 w7 hO7 hg7 hp7
          rw [← HT.out] at hO7
          have hgr7 : Grew w w7 := grew_own (grew_trans (grew_trans hfr hfq) hf5) (fun b hb => by have := (HLT.out b hb).1; omega) hg7.1 hg7.2
          have hT7 : TwoAt w7 gh (.slice Aa k ca) (.slice none 0 0) 119 := (HT3.out.frm hf5.1).move (hg7.1.block gh (by simp; omega) (fun e => by have := (HLT.out gh e.symm).1; omega))
          obtain ⟨A7, c7, he7, _⟩ := hO7.val
          have hl7 : (natsI ((alts.take (k + 1)).map maskP)).length = k + 1 := by unfold natsI; simp; omega
          rw [hl7] at he7
          have hT8 := Lib.hid (hT7.set0 v7)
          have HO8 : Hid (Own IntR (w7.setCell ⟨gh, 0, none⟩ v7) wh.heap.size 3 1 (fun _ => True) v7 (natsI ((alts.take (k + 1)).map maskP))) :=
            own_int (ok' := fun _ => True) (show Own IntR _ _ _ _ (fun _ => False) _ _ from (own_int (ok' := fun _ => False) hO7).kept (moves_WR moves_int) (w' := w7.setCell ⟨gh, 0, none⟩ v7) (row := some gh) (frm_set (frm_refl _ _) _ _) (.inr fun e => by have := (hO7.lt gh e).1; omega) (fun q hq => hq.elim))
          have HG8 := Lib.hid (grew_set_new hgr7 hghw 0 v7)
          obtain ⟨y0, y1, yf0, yf1⟩ := hT7.cells
          clear hO7 hO5 htw hl7 hT7
          subst he7
          go_wp2_with fail
          exact ⟨⟨k + 1, _, by omega, by go_num, HG8.out, hT8.out, HO8.out⟩, by simp [intOf]; omega⟩
    · obtain rfl : k = alts.length := by omega
      rw [List.take_length] at HO HLK
      have hgw := HT2.out.lt
      have HLT := Lib.hid HO.out.lt
      have hA0 : Sl (fun b => b < wr.heap.size ∧ b ≠ gh) wr 1 (IntR (fun b => b < wr.heap.size ∧ b ≠ gh) wr) (natsI (alts.map maskP)) (.slice Aa alts.length ca) :=
        Own.sl2 moves_int (own_int (ok' := fun _ => False) HO.out) (by rw [HLK.out]; omega) (fun b h _ => h.elim) (fun b hb => by have := HLT.out b hb; omega)
      have h16 : ∀ l ∈ alts.map maskP, l < 16777216 := fun x hx => by
        obtain ⟨l, hl, rfl⟩ := List.mem_map.1 hx
        exact maskF_lt (fun x hx => (ndBit_nd ((HB.out l hl).2 x hx)).1) 0 (by omega)
      have HHIT := Lib.hid (hit_calls (alts.map maskP) h16 wr gh hgw _ hA0 25 0 0 [] wr (.slice none 0 0) (by omega) (by omega) (by rw [bitsH_zero]; simp) (by simp) ⟨.refl _ _ _, HT2.out, Own.nil _ _ _ _ _ _⟩)
      have HRL := Lib.hid (hitF_len (alts.map maskP) 25 0 0 [] (by simp)).1
      have HRH := Lib.hid (hitF_hits (alts.map maskP) 25 0 0 [] (by omega) (by simp))
      have HRE : Hid (hitF (alts.map maskP) 25 0 0 [] = hitR alts) := rfl
      rw [HRE.out] at HHIT HRL HRH
      obtain ⟨res, hres⟩ : ∃ res, res = hitR alts := ⟨_, rfl⟩
      rw [← hres] at HHIT HRL HRH
      have HRES := Lib.hid hres
      clear hA0 h16 hres
      go_wp2_with fail
      refine HHIT.out.mono ?_
      rintro e w5 ⟨rfl, vO, hH5, hT5⟩
      have hG5 : Grew w w5 := GrewG.grew hfr hghw hfr.1.size hH5.grew
      obtain ⟨d0, d1, df0, df1⟩ := hH5.two.cells
      have hgw5 := hH5.two.lt
      have hno : (natsI res.1).length = res.1.length := by unfold natsI; simp
      have hrl := HRL.out
      have HSO := Lib.hid (hH5.own.sl moves_int (S := fun b => b < w5.heap.size) (by omega) (fun b _ h => h) (fun b _ h => h))
      obtain ⟨Ao, co, hoe, hoc⟩ := hH5.own.val
      rw [hno] at hoe hoc
      subst hoe
      have HNO := Lib.hid hno
      clear hno hH5 hT5
      dsimp only
      go_wp2_with fail
      have hws5 := hG5.1.size
      go_loopw [11, 59] (fun u i wq => ∃ k : Nat, k ≤ res.1.length ∧ i = .int .i64 k ∧ Grew w5 wq ∧ Own (WR AltR) wq w5.heap.size 76 1 (fun b => w5.heap.size ≤ b) u ((res.1.take k).map unmask)) (fun _ i _ => res.1.length - (intOf i).toNat)
      case atStart => exact ⟨0, Nat.zero_le _, rfl, grew_refl _, Own.nil _ _ _ _ _ _⟩
      case round =>
        obtain ⟨k, hk, rfl, hfk, hK⟩ := hrel
        obtain ⟨Ak, ck, he, hck⟩ := hK.val
        have hlk : ((res.1.take k).map unmask).length = k := by rw [List.length_map, List.length_take]; omega
        rw [hlk] at he hck
        subst he
        have HK := Lib.hid hK
        have HLK2 := Lib.hid hlk
        clear hK hlk
        by_cases hltk : k < res.1.length
        · obtain ⟨b, o, p0, rfl, hb, hp0', hpt⟩ := HSO.out.at1 k (by rw [HNO.out]; exact hltk)
          have hp0 := frm_cell hfk.1 hp0'
          obtain ⟨hpv, _⟩ := hpt
          rw [natsI_at res.1 k _ hltk] at hpv
          simp only [List.cons.injEq, and_true] at hpv
          subst hpv
          have hm16 := (HRH.out _ (List.getElem_mem hltk)).1
          have HT : Hid ((res.1.take (k + 1)).map unmask = (res.1.take k).map unmask ++ [unmask res.1[k]]) := by
            unfold Hid
            rw [List.take_succ_eq_append_getElem hltk, List.map_append]
            rfl
          generalize res.1[k] = m at *
          have HLI := Lib.hid (list24_calls m hm16 wr (HTB.out.grew (grew_trans hG5 hfk)))
          have hbl := bitsH_len 24 m
          have HFK := Lib.hid hfk
          clear hp0'
          go_wp2_with fail
          refine HLI.out.mono ?_
          rintro e w6 ⟨u6, rfl, hf6, hO6⟩
          have hln : (listH m).length = (bitsH 24 m).length := by unfold listH; simp
          have HSL := Lib.hid (hO6.sl moves_int (S := fun b => b < w6.heap.size) (by omega) (fun b _ h => h) (fun b _ h => h))
          obtain ⟨A6, c6, rfl, hc6⟩ := hO6.val
          obtain ⟨ln, hlne⟩ : ∃ ln, ln = (bitsH 24 m).length := ⟨_, rfl⟩
          rw [hln, ← hlne] at hc6 HSL ⊢
          rw [← hlne] at hbl
          have HLN := Lib.hid hlne
          have HLL := Lib.hid hln
          have hs6 := hf6.1.size
          clear hO6 hln hlne
          dsimp only
          go_wp2_with fail
          go_loopw [14, 66] (fun u i wq => ∃ j : Nat, j ≤ ln ∧ i = .int .i64 j ∧ Grew w6 wq ∧ Own NdR wq w6.heap.size 80 2 (fun _ => True) u (((bitsH 24 m).take j).map bitNd)) (fun _ i _ => ln - (intOf i).toNat)
          case atStart => exact ⟨0, Nat.zero_le _, rfl, grew_refl _, Own.nil _ _ _ _ _ _⟩
          case round =>
            obtain ⟨j, hj, rfl, hfj, hJ⟩ := hrel
            obtain ⟨Aj, cj, he, hcj⟩ := hJ.val
            have hlj : (((bitsH 24 m).take j).map bitNd).length = j := by rw [List.length_map, List.length_take, ← HLN.out]; omega
            rw [hlj] at he hcj
            subst he
            have HJ := Lib.hid hJ
            have HLJ := Lib.hid hlj
            clear hJ hlj
            by_cases hltj : j < ln
            · have hjb : j < (bitsH 24 m).length := by rw [← HLN.out]; exact hltj
              obtain ⟨b9, o9, p9, rfl, hb9, hp9', hpt9⟩ := HSL.out.at1 j (by rw [HLL.out]; exact hjb)
              have hp9 := frm_cell hfj.1 hp9'
              obtain ⟨hpv9, _⟩ := hpt9
              have hje : (listH m)[j]'(by rw [HLL.out]; exact hjb) = (((bitsH 24 m)[j] : Nat) : Int) := by unfold listH; simp
              rw [hje] at hpv9
              simp only [List.cons.injEq, and_true] at hpv9
              subst hpv9
              have hb24 := ((bitsH_mem _ _ _).1 (List.getElem_mem hjb)).1
              have HT5 : Hid (((bitsH 24 m).take (j + 1)).map bitNd = ((bitsH 24 m).take j).map bitNd ++ [bitNd (bitsH 24 m)[j]]) := by
                unfold Hid
                rw [List.take_succ_eq_append_getElem hjb, List.map_append]
                rfl
              clear hje
              generalize (bitsH 24 m)[j] = bt at *
              have hq6 : (bitNd bt).1 = (bt : Int) / 6 := by show ((bt / 6 : Nat) : Int) = _; omega
              have hr6 : (bitNd bt).2 = (bt : Int) % 6 := by show ((bt % 6 : Nat) : Int) = _; omega
              have HQ6 := Lib.hid hq6
              have HR6 := Lib.hid hr6
              clear hp9' hq6 hr6
              repeat ((fail_if_success at_builtin); first | go_values | go_skip | go_guarded | go_step | go_upon)
              have hf7 : Grew wr (wr.alloc (.cells #[.int .i64 ((bt : Int) / 6), .int .i64 ((bt : Int) % 6)] 80)) := grew_alloc _ _
              have hJ5 := HJ.out.kept moves_nd hf7.1 (ownNone _) (by simp)
              have htw := TwoAt.new wr (.int .i64 ((bt : Int) / 6)) (.int .i64 ((bt : Int) % 6)) 80
              have hlen := HLJ.out
              have hsj := hfj.1.size
              have hltJ := HJ.out.lt
              refine Own.app1 moves_nd elem_nd hJ5 rfl _ _ rfl rfl rfl (bitNd bt) [.int .i64 ((bt : Int) / 6), .int .i64 ((bt : Int) % 6)] rfl ?_ ?_ ⟨by rw [HQ6.out, HR6.out], by rw [HQ6.out]; omega, by rw [HR6.out]; omega⟩ (by rw [hlen]; omega) (by omega) (by simp; omega) ?_
              · intro j u hj
                match j with
                | 0 => simp at hj; subst hj; exact htw.cells.1
                | 1 => simp at hj; subst hj; exact htw.cells.2.1
                | j + 2 => simp at hj
              · intro u hu
                simp at hu
                rcases hu with rfl | rfl <;> rfl
              intro v7 w7 hO7 hg7 hp7
              have hfr7 : Grew w6 w7 := grew_own (grew_trans hfj hf7) (fun b hb => (hltJ b hb).1) hg7.1 hg7.2
              rw [← HT5.out] at hO7
              obtain ⟨A7, c7, he7, _⟩ := hO7.val
              have HO7 := Lib.hid hO7
              have hl7 : (((bitsH 24 m).take (j + 1)).map bitNd).length = j + 1 := by rw [List.length_map, List.length_take]; omega
              rw [hl7] at he7
              clear hO7 hJ5 htw hltJ hl7
              subst he7
              go_wp2_with fail
              exact ⟨⟨j + 1, by omega, by go_num, hfr7, HO7.out⟩, by simp [intOf]; omega⟩
            · obtain rfl : j = ln := by omega
              have hJe : Own NdR wr w6.heap.size 80 2 (fun _ => True) (.slice Aj j cj) (unmask m) := by
                have h := HJ.out
                rw [HLN.out, List.take_length, ← HLN.out] at h
                exact h
              have hlu : (unmask m).length = j := by unfold unmask; rw [List.length_map, HLN.out]
              have hWu := (own_nd2 (ok' := fun _ => False) hJe).slW moves_nd (by omega) (S := fun b => w6.heap.size ≤ b ∧ b < wr.heap.size) (fun b h1 _ => h1.elim) (fun b hb => hJe.lt b hb)
              have HWU := Lib.hid hWu
              have hsj := hfj.1.size
              have hsk := HFK.out.1.size
              clear hJe hWu hlu
              repeat ((fail_if_success at_builtin); first | go_values | go_skip | go_guarded | go_step | go_upon)
              have hf7 : Grew w6 (wr.alloc (.cells #[.slice Aj j cj] 76)) := grew_then_alloc hfj _
              have hK5 := HK.out.kept (moves_WR moves_alt) (grew_trans hf6 hf7).1 (ownNone _) (by simp)
              have htw := OneAt.new wr (.slice Aj j cj) 76
              have hlen := HLK2.out
              have hltK := HK.out.lt
              refine Own.app1 (moves_WR moves_alt) elem_alt hK5 rfl _ _ rfl rfl rfl (unmask m) [.slice Aj j cj] rfl (one_at htw) ?_ ?_ (by rw [hlen]; omega) (by omega) (by simp; omega) ?_
              · intro u hu
                simp at hu
                subst hu
                rfl
              · refine moves_WR moves_alt _ _ _ _ _ _ (fun b hb => ⟨by omega, by simp; omega, fun e => ?_⟩) (fun b hb => Below.heap_alloc _ _ _ (by omega)) HWU.out
                have := (hltK b e.symm).2
                omega
              intro v7 w7 hO7 hg7 hp7
              have hfr7 : Grew w5 w7 := grew_own (grew_trans (grew_trans HFK.out hf6) hf7) (fun b hb => (hltK b hb).1) hg7.1 hg7.2
              rw [← HT.out] at hO7
              obtain ⟨A7, c7, he7, _⟩ := hO7.val
              have HO7 := Lib.hid hO7
              have hl7 : ((res.1.take (k + 1)).map unmask).length = k + 1 := by rw [List.length_map, List.length_take]; omega
              rw [hl7] at he7
              clear hO7 hK5 htw hltK hl7
              subst he7
              go_wp2_with fail
              exact ⟨⟨k + 1, by omega, by go_num, hfr7, HO7.out⟩, by simp [intOf]; omega⟩
        · obtain rfl : k = res.1.length := by omega
          rw [List.take_length] at HK
          have hsmall : ∀ l ∈ res.1.map unmask, ∀ x ∈ l, Nd.small x := fun l hl x hx => by
            obtain ⟨m, _, rfl⟩ := List.mem_map.1 hl
            obtain ⟨i, hi, rfl⟩ := List.mem_map.1 hx
            have := bitNd_ok ((bitsH_mem _ _ _).1 hi).1
            unfold Nd.small
            omega
          have HSO2 := Lib.hid (sortO_calls (res.1.map unmask) hsmall (by simp; omega) wr _ HK.out)
          have hltK := HK.out.lt
          have HLT2 := Lib.hid hltK
          have hsk := hfk.1.size
          clear hsmall hltK
          go_wp2_with fail
          refine HSO2.out.mono ?_
          rintro e w9 ⟨rfl, hg9, ys, hpy, hpw, hW9⟩
          have hfin : Grew w w9 := grew_own (grew_trans hG5 hfk) (fun b hb => by have := (HLT2.out b hb).1; omega) hg9.1 hg9.2
          have hs9 := hg9.1.size
          have HW9 : Hid (WR AltsR (fun b => w.heap.size ≤ b ∧ b < w9.heap.size) w9 ys [.slice Ak res.1.length ck]) :=
            moves_WR moves_alts _ _ _ _ _ _ (fun b hb => by
              rcases hb with h | h
              · have h1 : w5.heap.size ≤ b := h.1
                have h2 : b < wr.heap.size := h.2.1
                omega
              · have := HLT2.out b h.symm
                omega) (fun _ _ => rfl) hW9
          have HPY : Hid (dualQ alts ys) := by
            unfold Hid dualQ
            rw [← HRES.out]
            exact ⟨hpy, hpw⟩
          have HR2 : Hid (res.2 = (hitR alts).2) := by rw [← HRES.out]; rfl
          clear hW9 hpy hpw
          dsimp only
          go_wp2_with fail
          refine bodyPost_ret (v := .tuple #[.slice Ak res.1.length ck, .bool res.2]) (by simp [results, Tryz.results42, go_sem]) rfl ⟨_, ys, by rw [← HR2.out], hfin, HPY.out, HW9.out⟩
end Go.Proofs.YtjpdmncafacmaaaGreatDoor
end
/- auto's Dual. -/
section
set_option linter.unusedVariables false
set_option linter.unusedSimpArgs false
namespace Go.Proofs.YtjpdmncafacmaaaGreatDoor
open Go.RowKit

theorem mk_alts (n : Nat) (hn : n ≤ 1000) (w : World) : (Instr.makeSlice 49 (.int .i64 n) (.int .i64 n)).run Tryz.prog w = .ok (.slice (some ⟨w.heap.size, 0, none⟩) n n) (w.alloc (.cells (Array.replicate n (.slice none 0 0)) 50)) := by
  obtain ⟨i, z, hi, hz, hsz, hby, hzs⟩ := elem_alts.info
  have h := run_make (P := Tryz.prog) w 49 50 i z elem_alts.under hi hz .i64 .i64 n n (by omega) (by omega) (by rw [hby]; omega) (by omega)
  rw [h]
  have hzc : z = .slice none 0 0 := by
    have e := info_alts
    rw [hi] at e
    simp at e
    rw [hz] at e
    simp at e
    exact e.1
  subst hzc
  rw [Int.toNat_natCast, hsz, Nat.mul_one, show (Value.slice none 0 0).cells = #[.slice none 0 0] from rfl, made_one, List.toArray_replicate]
theorem alts_made (w : World) (n : Nat) : ValsAt (w.alloc (.cells (Array.replicate n (.slice none 0 0)) 50)) w.heap.size 50 (List.replicate n (.slice none 0 0)) := by
  show (w.heap.push _)[w.heap.size]? = _
  simp
/-- An automaton whose alternatives are the dual ones. -/
def DualOf (a d : Au) : Prop := d.ranks = a.ranks ∧ d.start = a.start ∧ d.moves.length = a.moves.length ∧ (∀ row ∈ d.moves, row.length = a.ranks.length) ∧ ∀ q f, q < a.moves.length → f < a.ranks.length → (hitR (a.alts q f)).2 = true ∧ dualQ (a.alts q f) (d.alts q f)
/-- A row under way: its first `f` lists are laid. -/
def DRow (wo wq : World) (gm : Nat) (row : List (List (List Nd))) (f : Nat) (vs : List Value) (yss : List (List (List Nd))) : Prop :=
  Grew wo wq ∧ wo.heap.size ≤ gm ∧ ValsAt wq gm 50 vs ∧ vs.length = row.length ∧ yss.length = f ∧ ∀ j (h : j < row.length) (hj : j < yss.length), (hitR row[j]).2 = true ∧ dualQ row[j] yss[j] ∧ ∃ v, vs[j]? = some v ∧ WR AltsR (fun b => wo.heap.size ≤ b ∧ b < wq.heap.size ∧ b ≠ gm) wq yss[j] [v]
theorem DRow.more {wo wq w' : World} {gm f : Nat} {row : List (List (List Nd))} {vs : List Value} {yss : List (List (List Nd))} (h : DRow wo wq gm row f vs yss) (hf : Grew wq w') : DRow wo w' gm row f vs yss := by
  obtain ⟨h1, h2, h3, h4, h5, h6⟩ := h
  refine ⟨grew_trans h1 hf, h2, h3.frm hf.1, h4, h5, fun j hr hj => ?_⟩
  obtain ⟨q0, q1, v, q2, q3⟩ := h6 j hr hj
  exact ⟨q0, q1, v, q2, moves_WR moves_alts _ _ _ _ _ _ (fun b hb => ⟨hb.1, Nat.lt_of_lt_of_le hb.2.1 hf.1.size, hb.2.2⟩) (fun b hb => frm_lt hf.1 b hb.2.1) q3⟩
theorem DRow.put {wo wq w5 : World} {gm f : Nat} {row : List (List (List Nd))} {vs : List Value} {yss : List (List (List Nd))} (h : DRow wo wq gm row f vs yss) (hf : Grew wq w5) (hlt : f < row.length) {ys : List (List Nd)} {v : Value}
    (hok : (hitR row[f]).2 = true) (hq : dualQ row[f] ys) (hv : WR AltsR (fun b => wq.heap.size ≤ b ∧ b < w5.heap.size) w5 ys [v]) : DRow wo (w5.setCell ⟨gm, f, none⟩ v) gm row (f + 1) (vs.set f v) (yss ++ [ys]) := by
  have hgm := h.2.2.1.lt
  obtain ⟨h1, h2, h3, h4, h5, h6⟩ := h.more hf
  have hsz := h.1.1.size
  have hset : ∀ b, b ≠ gm → (w5.setCell ⟨gm, f, none⟩ v).heap[b]? = w5.heap[b]? := fun b hb => Below.heap_setCell _ _ _ _ hb
  refine ⟨grew_set_new h1 h2 _ _, h2, h3.set f v, by simpa using h4, by simp [h5], fun j hr hj => ?_⟩
  by_cases hjf : j < yss.length
  · obtain ⟨q0, q1, v', q2, q3⟩ := h6 j hr hjf
    rw [List.getElem_append_left hjf]
    refine ⟨q0, q1, v', by rw [List.getElem?_set_ne (by omega)]; exact q2, moves_WR moves_alts _ _ _ _ _ _ (fun b hb => ⟨hb.1, by simpa using hb.2.1, hb.2.2⟩) (fun b hb => hset b hb.2.2) q3⟩
  · have hje : j = f := by simp at hj; omega
    subst hje
    have he : (yss ++ [ys])[j]'hj = ys := by rw [List.getElem_append_right (by omega)]; simp
    rw [he]
    refine ⟨hok, hq, v, by rw [List.getElem?_set_self (by omega)], moves_WR moves_alts _ _ _ _ _ _ (fun b hb => ⟨by omega, by simpa using hb.2, by omega⟩) (fun b hb => hset b (by omega)) hv⟩
theorem DRow.row {wo wq : World} {gm : Nat} {row : List (List (List Nd))} {vs : List Value} {yss : List (List (List Nd))} (h : DRow wo wq gm row row.length vs yss) (hl : row.length ≤ 1000) : WR RuleR (fun b => wo.heap.size ≤ b ∧ b < wq.heap.size) wq yss [.slice (some ⟨gm, 0, none⟩) row.length row.length] := by
  obtain ⟨h1, h2, h3, h4, h5, h6⟩ := h
  refine ⟨_, rfl, _, _, by rw [h5], by omega, by omega, fun h0 => ⟨gm, 0, rfl, ⟨⟨h2, h3.lt⟩, h3.free⟩, fun i hi => ?_⟩⟩
  obtain ⟨q0, q1, v, q2, q3⟩ := h6 i (by omega) hi
  refine ⟨[v], rfl, fun j hj => ?_, moves_alts _ _ _ _ _ _ (fun b hb => ⟨⟨hb.1.1, hb.1.2.1⟩, hb.2⟩) (fun _ _ => rfl) q3⟩
  obtain rfl : j = 0 := by omega
  have := h3.cell i
  rw [q2] at this
  simpa using this
set_option maxRecDepth 100000 in
set_option maxHeartbeats 4000000 in
theorem adual_calls (a : Au) (w : World) (hT : Tab w) (r m : Value) (ha : rdO AuR w a [r, .int .i64 a.start, m]) :
    Calls Tryz.prog 14 #[.agg #[r, .int .i64 a.start, m]] w fun e w' => ∃ d er, RetA w d er e w' ∧ ((er = 0 ∧ a.ok = true ∧ DualOf a d) ∨ er ≠ 0) := by
  obtain ⟨hR, hM, hs1, hs2⟩ := AuR.parts ha
  obtain ⟨A, c, rfl, hc, hlm⟩ := hR.val
  obtain ⟨B, d, rfl, hd, hlm2⟩ := hM.val
  have HA := Lib.hid ha
  have HTB := Lib.hid hT
  clear ha hT
  obtain ⟨w2, hw2⟩ : ∃ w2, w2 = (w.alloc (.cells #[.slice A a.ranks.length c, .int .i64 a.start, .slice B a.moves.length d] 25)).alloc (.cells #[.slice none 0 0, .int .i64 0, .slice none 0 0] 25) := ⟨_, rfl⟩
  have hG2 : Grew w w2 := by rw [hw2]; exact grew_then_alloc (grew_alloc _ _) _
  have xa : ThreeAt w2 w.heap.size (.slice A a.ranks.length c) (.int .i64 a.start) (.slice B a.moves.length d) 25 := by
    rw [hw2]; exact (ThreeAt.new w _ _ _ _).frm (frm_alloc _ _)
  have xo : ThreeAt w2 (w.heap.size + 1) (.slice none 0 0) (.int .i64 0) (.slice none 0 0) 25 := by
    have h := ThreeAt.new (w.alloc (.cells #[.slice A a.ranks.length c, .int .i64 a.start, .slice B a.moves.length d] 25)) (.slice none 0 0) (.int .i64 0) (.slice none 0 0) 25
    rw [World.size_alloc] at h
    rw [hw2]; exact h
  have hP := acheck_calls a w2 _ _ (rdO_frm moves_au hG2.1 HA.out)
  rw [hw2] at hP
  have HP := Lib.hid hP
  have HW2 := Lib.hid hw2
  clear hw2 hP
  go_enter Tryz.func14, Tryz.ntmps14
  go_wp2_with fail
  refine HP.out.mono ?_
  rw [← HW2.out]
  rintro e w3 ⟨rfl, hf3⟩
  have hG3 := grew_trans hG2 hf3
  replace xa := xa.frm hf3.1
  replace xo := xo.frm hf3.1
  obtain ⟨xa0, xa1, xa2⟩ := xa.cells
  obtain ⟨xo0, xo1, xo2⟩ := xo.cells
  have xof := xo.free
  have hs3 := xo.lt
  cases hok : a.ok
  · have xf0 := xof 0
    have xf1 := xof 1
    have xf2 := xof 2
    clear hok
    go_wp2_with fail
    refine bodyPost_ret (v := .tuple #[.agg #[.slice none 0 0, .int .i64 0, .slice none 0 0], .int .i64 10]) (by simp [results, Tryz.results14, go_sem, xo0, xo1, xo2, xf0, xf1, xf2]) rfl ⟨Au.zero, 10, ⟨.slice none 0 0, .slice none 0 0, rfl, ?_, au_zero _ _⟩, .inr (by omega)⟩
    exact grew_set_new (grew_set_new (grew_set_new hG3 (by omega) _ _) (by omega) _ _) (by omega) _ _
  · have hla := (ok_rows hok).1
    have hlr := (ranksOk_parts (ok_parts hok).1).1
    have HAO := Lib.hid hok
    clear hok xa0 xa1 xa2 xo0 xo1 xo2 xof
    go_wp2_with fail
    go_cut [5] (fun s5 wx => ∃ g, s5 = .pointer (some ⟨g, 0, none⟩) ∧ JMid w3 g a.ranks a.start wx)
    case first =>
      obtain ⟨xa0, xa1, xa2⟩ := xa.cells
      have hk0 : ∀ wx, wx = w3.drew → (Grew w3 wx ∧ wx.cell? ⟨w.heap.size, 0, none⟩ = some (.slice A a.ranks.length c) ∧ wx.cell? ⟨w.heap.size, 1, none⟩ = some (.int .i64 a.start)) := by
        rintro wx rfl
        exact ⟨grew_drew _, xa0, xa1⟩
      have hks : ∀ v1 v2 : World, Grew v1 v2 → (Grew w3 v1 ∧ v1.cell? ⟨w.heap.size, 0, none⟩ = some (.slice A a.ranks.length c) ∧ v1.cell? ⟨w.heap.size, 1, none⟩ = some (.int .i64 a.start)) → (Grew w3 v2 ∧ v2.cell? ⟨w.heap.size, 0, none⟩ = some (.slice A a.ranks.length c) ∧ v2.cell? ⟨w.heap.size, 1, none⟩ = some (.int .i64 a.start)) :=
        fun v1 v2 hf h => ⟨grew_trans h.1 hf, frm_cell hf.1 h.2.1, frm_cell hf.1 h.2.2⟩
      have hka : ∀ (v1 : World) (o : Obj), (Grew w3 v1 ∧ v1.cell? ⟨w.heap.size, 0, none⟩ = some (.slice A a.ranks.length c) ∧ v1.cell? ⟨w.heap.size, 1, none⟩ = some (.int .i64 a.start)) → (Grew w3 (v1.alloc o) ∧ (v1.alloc o).cell? ⟨w.heap.size, 0, none⟩ = some (.slice A a.ranks.length c) ∧ (v1.alloc o).cell? ⟨w.heap.size, 1, none⟩ = some (.int .i64 a.start)) :=
        fun v1 o h => hks _ _ (grew_alloc _ _) h
      have hkc : ∀ (v1 : World) (g o : Nat) (x : Value), w3.heap.size ≤ g → (Grew w3 v1 ∧ v1.cell? ⟨w.heap.size, 0, none⟩ = some (.slice A a.ranks.length c) ∧ v1.cell? ⟨w.heap.size, 1, none⟩ = some (.int .i64 a.start)) → (Grew w3 (v1.setCell ⟨g, o, none⟩ x) ∧ (v1.setCell ⟨g, o, none⟩ x).cell? ⟨w.heap.size, 0, none⟩ = some (.slice A a.ranks.length c) ∧ (v1.setCell ⟨g, o, none⟩ x).cell? ⟨w.heap.size, 1, none⟩ = some (.int .i64 a.start)) := by
        intro v1 g o x hg h
        refine ⟨grew_set_new h.1 hg _ _, ?_, ?_⟩
        · rw [World.cell?_setCell_other _ _ _ _ (by intro e; injection e with e; omega)]; exact h.2.1
        · rw [World.cell?_setCell_other _ _ _ _ (by intro e; injection e with e; omega)]; exact h.2.2
      have HKC := Lib.hid hkc
      have HK := Lib.hid hks
      have HK0 := Lib.hid hk0
      have HKA := Lib.hid hka
      have HC : Hid (∀ wx, Grew w3 wx → Calls Tryz.prog 41 #[.slice A a.ranks.length c] wx fun e w' => ∃ u, e = .returned u ∧ Grew wx w' ∧ Own IntR w' wx.heap.size 3 1 (fun _ => True) u a.ranks) := fun wx hg => cloneI_calls a.ranks wx _ (hR.frm (grew_trans hG3 hg).1 (stays_rd moves_int)) (by omega)
      clear hks hk0 hka hkc
      go_region_held3 (fun wx => Grew w3 wx ∧ wx.cell? ⟨w.heap.size, 0, none⟩ = some (.slice A a.ranks.length c) ∧ wx.cell? ⟨w.heap.size, 1, none⟩ = some (.int .i64 a.start)) (first | exact HK0.out _ rfl | exact HK.out _ _ (by assumption) (by assumption) | exact HKA.out _ _ (by assumption) | exact HKC.out _ _ _ _ (by omega) (HKC.out _ _ _ _ (by omega) (HKC.out _ _ _ _ (by omega) (by assumption)))) ((go_at_call 41; refine (HC.out _ (And.left (by assumption))).mono ?_; rintro e v5 ⟨u5, rfl, hg5, ho5⟩; obtain ⟨Au5, cu5, rfl, hcu5⟩ := ho5.val; obtain ⟨hcc5, hcf5⟩ := grew_cells hg5; have hS5 := HK.out _ _ hg5 (by assumption)))
      · go_wp2_with fail
        go_meet
        case rel => exact ⟨_, rfl, JMid.one (grew_drew _) hg5 ho5 hlr⟩
      · go_wp2_with fail
        go_meet
        case rel => exact ⟨_, rfl, JMid.two (grew_trans (grew_alloc _ _) (grew_drew _)) (Nat.le_refl _) (ThreeAt.new _ _ _ _ _) hg5 ho5 hlr⟩
    case rest =>
      obtain ⟨g, rfl, r5, hG5, hg4, hO5, hR5⟩ := hcut
      obtain ⟨Ar, cr, hr5⟩ : ∃ Ar cr, r5 = .slice Ar a.ranks.length cr := by
        obtain ⟨v', hve, hsl⟩ := id hR5
        obtain ⟨A9, c9, rfl, _⟩ := hsl.val
        simp only [List.cons.injEq, and_true] at hve
        exact ⟨_, _, hve⟩
      subst hr5
      obtain ⟨tA0, tA1, tA2⟩ := (xa.frm hG5.1).cells
      have hgs : g < wc.heap.size := hO5.1.lt
      have hGw5 : Grew w wc := grew_trans hG3 hG5
      have HM := Lib.hid hM
      have hws : w.heap.size + 1 < g := by omega
      have HR5 := Lib.hid hR5
      have HGW5 := Lib.hid hGw5
      have hs5 := hGw5.1.size
      have hb5 : Hid (∀ wr, GrewG g wc.heap.size wc wr → ∀ b, b < w.heap.size → wr.heap[b]? = w.heap[b]?) := fun wr h b hb => (h.block b (by omega) (by omega)).trans (frm_lt HGW5.out.1 b hb)
      have hrr : ∀ row ∈ a.moves, row.length = a.ranks.length := fun row h => ((ok_parts HAO.out).2.2.2.2.2 row h).1
      have HRR := Lib.hid hrr
      clear hM hR5 hGw5 hrr
      go_wp2_with fail
      go_loopw [28] (fun i wr => ∃ (k : Nat) (dr : List (List (List (List Nd)))), k ≤ a.moves.length ∧ i = .int .i64 k ∧ dr.length = k ∧ Hid ((∀ row ∈ dr, row.length = a.ranks.length) ∧ ∀ q f, q < k → f < a.ranks.length → (hitR (a.alts q f)).2 = true ∧ dualQ (a.alts q f) ((dr.getD q []).getD f [])) ∧ GrewG g wc.heap.size wc wr ∧ ∃ mv, OutAt wr g wc.heap.size (.slice Ar a.ranks.length cr) a.start mv dr) (fun i _ => a.moves.length - (intOf i).toNat)
      case atStart => exact ⟨0, [], Nat.zero_le _, rfl, rfl, ⟨by simp, fun q f h => absurd h (Nat.not_lt_zero _)⟩, .refl _ _ _, _, hO5⟩
      case round =>
        obtain ⟨k, dr, hk, rfl, hdl, HDR, hfr, mv, hO⟩ := hrel
        by_cases hlt : k < a.moves.length
        · have hSr := hb5.out wr hfr
          have hMr := HM.out.move (S' := fun b => b < w.heap.size) (w' := wr) (r' := RuleR (fun b => b < w.heap.size) wr) (fun b hb => hb) hSr (fun x _ cs h => moves_rule _ _ _ _ _ _ (fun b hb => hb) hSr h)
          obtain ⟨b, o, p0, rfl, hb, hp0, hpt⟩ := hMr.at1 k hlt
          have HAK : Hid (∀ f (h : f < (a.moves[k]).length), a.alts k f = (a.moves[k])[f]) := fun f h => alts_eq hlt h
          have HL := Lib.hid hdl
          have HR := Lib.hid ((ok_rows HAO.out).2 _ (List.getElem_mem hlt))
          have hrl := HR.out.1
          have hrk := HRR.out _ (List.getElem_mem hlt)
          have HS := Lib.hid (ok_state HAO.out _ (List.getElem_mem hlt))
          clear hMr hSr
          generalize a.moves[k] = row at *
          obtain ⟨v2, hve2, hRow⟩ := hpt
          obtain rfl : p0 = v2 := by simpa using hve2
          obtain ⟨A2, c2, rfl, hc2, hm2⟩ := hRow.val
          clear hve2
          have HO := Lib.hid hO
          have hlg := hO.1.lt
          have hgn := hO.2.1
          have hnw := hO.2.2.1
          have HRow := Lib.hid hRow
          have HRK := Lib.hid hrk
          have hmk := fun w => mk_alts row.length (by omega) w
          clear hO hRow hrk hdl
          go_wp2_with fail
          obtain ⟨wo, hwo⟩ : ∃ wo : World, wo = wr := ⟨_, rfl⟩
          subst hwo
          have hD0 : DRow wo (wo.alloc (.cells (Array.replicate row.length (.slice none 0 0)) 50)) wo.heap.size row 0 (List.replicate row.length (.slice none 0 0)) [] := ⟨grew_alloc _ _, Nat.le_refl _, alts_made _ _, by simp, rfl, fun j hr hj => absurd hj (Nat.not_lt_zero _)⟩
          go_loopw [37] (fun i wq => ∃ (j : Nat) (vs : List Value) (yss : List (List (List Nd))), j ≤ row.length ∧ i = .int .i64 j ∧ Hid (DRow wo wq wo.heap.size row j vs yss)) (fun i _ => row.length - (intOf i).toNat)
          case atStart => exact ⟨0, _, _, Nat.zero_le _, rfl, hD0⟩
          case round =>
            obtain ⟨j, vs, yss, hj, rfl, HD⟩ := hrel
            have hfq := HD.out.1
            have hsq := hfq.1.size
            by_cases hltj : j < row.length
            · have hSq : ∀ b, b < w.heap.size → wr.heap[b]? = wo.heap[b]? := fun b hb => frm_lt hfq.1 b (by omega)
              have hRq := HRow.out.move (S' := fun b => b < w.heap.size) (w' := wr) (r' := AltsR (fun b => b < w.heap.size) wr) (fun b hb => hb) hSq (fun x _ cs h => moves_alts _ _ _ _ _ _ (fun b hb => hb) hSq h)
              obtain ⟨b3, o3, q0, rfl, hb3, hq0, hqt⟩ := hRq.at1 j hltj
              have HAl2 := Lib.hid (HR.out.2 _ (List.getElem_mem hltj))
              have HPUT := Lib.hid (fun (w5 : World) (ys : List (List Nd)) (v : Value) (hf : Grew wr w5) (h1 : (hitR row[j]).2 = true) (h2 : dualQ row[j] ys) (h3 : WR AltsR (fun b => wr.heap.size ≤ b ∧ b < w5.heap.size) w5 ys [v]) => HD.out.put hf hltj h1 h2 h3)
              have HTW : Hid (Tab wr) := HTB.out.grew (GrewG.grew HGW5.out (by omega) (by omega) (hfr.trans (.of hfq (by omega))))
              have hal := row_val hqt
              have hvj : ∃ u, vs[j]? = some u := ⟨_, List.getElem?_eq_getElem (by rw [HD.out.2.2.2.1]; exact hltj)⟩
              obtain ⟨u0, hu0⟩ := hvj
              have hcu : wr.cell? ⟨wo.heap.size, j, none⟩ = some u0 := (HD.out.2.2.1.cell j).trans hu0
              have hfu : wr.frozen? ⟨wo.heap.size, j, none⟩ = false := HD.out.2.2.1.free j
              have hgl := HD.out.2.2.1.lt
              have HDC := Lib.hid (dual_calls row[j] wr HTW.out _ (Sl.move hal (fun b hb => by have hb' : b < w.heap.size := hb; omega) (fun b hb => rfl) fun x _ cs h => moves_alt _ _ _ _ _ _ (fun b hb => by have hb' : b < w.heap.size := hb; omega) (fun b hb => rfl) h) HAl2.out.1 (fun l hl => ⟨(HAl2.out.2 l hl).1, fun x hx => by have := (HAl2.out.2 l hl).2 x hx; omega⟩))
              obtain ⟨A3, c3, rfl, hc3, hm3⟩ := hal.val
              clear hRq hSq hqt hal hu0
              go_wp2_with fail
              refine HDC.out.mono ?_
              rintro e w5 ⟨z, ys, rfl, hf5, hq5, hW5⟩
              obtain ⟨A5, n5, c5, rfl⟩ : ∃ A1 n1 c1, z = .slice A1 n1 c1 := by
                obtain ⟨A1, c1, h, _⟩ := (row_val hW5).val
                exact ⟨_, _, _, h⟩
              have HQ5 := Lib.hid hq5
              have HW5 := Lib.hid hW5
              have hs5' := hf5.1.size
              have hcu5 := frm_cell hf5.1 hcu
              have hfu5 := frm_frozen hf5.1 hgl hfu
              have hgl5 : wo.heap.size < w5.heap.size := by omega
              have hxo5 : ThreeAt w5 (w.heap.size + 1) (.slice none 0 0) (.int .i64 0) (.slice none 0 0) 25 := (((xo.frm hG5.1).move (hfr.block _ (by omega) (by omega))).frm hfq.1).frm hf5.1
              have HGW9 : Hid (Grew w w5) := GrewG.grew HGW5.out (by omega) (by omega) (hfr.trans (.of (grew_trans hfq hf5) (by omega)))
              clear hq5 hW5 hcu hfu
              dsimp only
              cases hok2 : (hitR row[j]).2
              · clear hok2
                obtain ⟨kx0, kx1, kx2⟩ := hxo5.cells
                have kxf := hxo5.free
                have kxf0 := kxf 0
                have kxf1 := kxf 1
                have kxf2 := kxf 2
                clear hxo5 kxf
                go_wp2_with fail
                refine bodyPost_ret (v := .tuple #[.agg #[.slice none 0 0, .int .i64 0, .slice none 0 0], .int .i64 3]) (by simp [results, Tryz.results14, go_sem, kx0, kx1, kx2, kxf0, kxf1, kxf2]) rfl ⟨Au.zero, 3, ⟨.slice none 0 0, .slice none 0 0, rfl, ?_, au_zero _ _⟩, .inr (by omega)⟩
                exact grew_set_new (grew_set_new (grew_set_new HGW9.out (by omega) _ _) (by omega) _ _) (by omega) _ _
              · have HD2 := Lib.hid (HPUT.out w5 ys _ hf5 hok2 HQ5.out HW5.out)
                clear hok2 hxo5
                go_wp2_with fail
                exact ⟨⟨j + 1, _, _, by omega, by go_num, HD2.out⟩, by simp [intOf]; omega⟩
            · obtain rfl : j = row.length := by omega
              have hO1 := HO.out.grew hfq
              obtain ⟨hc0, hc1, hc2'⟩ := hO1.1.cells
              have hfz := hO1.1.free 2
              obtain ⟨Am, cm, hme, hmc⟩ := hO1.2.2.2.val
              rw [HL.out] at hme hmc
              subst hme
              have HWq := Lib.hid (HD.out.row (by omega))
              have hyl : yss.length = row.length := HD.out.2.2.2.2.1
              have HYL := Lib.hid hyl
              have HDR2 : Hid ((∀ rw ∈ dr ++ [yss], rw.length = a.ranks.length) ∧ ∀ q f, q < k + 1 → f < a.ranks.length → (hitR (a.alts q f)).2 = true ∧ dualQ (a.alts q f) (((dr ++ [yss]).getD q []).getD f [])) := by
                refine ⟨fun rw hrw => ?_, fun q f hq hf => ?_⟩
                · rcases List.mem_append.1 hrw with h | h
                  · exact HDR.out.1 rw h
                  · obtain rfl := List.mem_singleton.1 h
                    rw [hyl]; exact HRK.out
                · by_cases hqk : q < k
                  · have h := HDR.out.2 q f hqk hf
                    rw [show (dr ++ [yss]).getD q [] = dr.getD q [] by
                      rw [List.getD_eq_getElem?_getD, List.getD_eq_getElem?_getD, List.getElem?_append_left (by rw [HL.out]; exact hqk)]]
                    exact h
                  · have hqe : q = k := by omega
                    subst hqe
                    have hfr' : f < row.length := by rw [HRK.out]; exact hf
                    obtain ⟨h1, h2, _⟩ := HD.out.2.2.2.2.2 f hfr' (by rw [hyl]; exact hfr')
                    rw [HAK.out f hfr', show (dr ++ [yss]).getD q [] = yss by
                      rw [List.getD_eq_getElem?_getD, List.getElem?_append_right (by rw [HL.out]; exact Nat.le_refl _), HL.out]; simp]
                    refine ⟨h1, ?_⟩
                    rw [List.getD_eq_getElem?_getD, List.getElem?_eq_getElem (by rw [hyl]; exact hfr')]
                    exact h2
              have HO1 := Lib.hid hO1
              clear hO1 hyl
              repeat ((fail_if_success at_builtin); first | go_values | go_skip | go_guarded | go_step | go_upon)
              have hf5 : Grew wr (wr.alloc (.cells #[.slice (some ⟨wo.heap.size, 0, none⟩) row.length row.length] 49)) := grew_alloc _ _
              have hO5 := (HO1.out.grew hf5)
              have htw := OneAt.new wr (.slice (some ⟨wo.heap.size, 0, none⟩) row.length row.length) 49
              have hlen := HL.out
              have hltO := hO5.2.2.2.lt
              have hltO1 := HO1.out.2.2.2.lt
              refine Own.app1 (moves_WR moves_rule) elem_rule hO5.2.2.2 rfl _ _ rfl rfl rfl yss [.slice (some ⟨wo.heap.size, 0, none⟩) row.length row.length] rfl (one_at htw) ?_ ?_ (by rw [hlen]; omega) (by omega) (by simp; omega) ?_
              · intro u hu
                simp at hu
                subst hu
                rfl
              · refine moves_WR moves_rule _ _ _ _ _ _ (fun b hb => ⟨by omega, by simp; omega, fun e => ?_⟩) (fun b hb => Below.heap_alloc _ _ _ (by omega)) HWq.out
                have hO2 := HO.out.2.2.2.lt b e.symm
                omega
              intro v7 w7 hO7 hg7 hp7
              have hT7 : ThreeAt w7 g (.slice Ar a.ranks.length cr) (.int .i64 a.start) (.slice Am k cm) 25 := hO5.1.move (hg7.1.block g (by simp; omega) (fun e => by have := (hltO g e.symm).1; omega))
              have hG7 : GrewG g wc.heap.size wo w7 := (GrewG.of (grew_trans hfq hf5) (by omega)).trans (.ofR hg7 (by simp; omega) (fun b hb => by have := (hltO b hb).1; omega))
              obtain ⟨A7, c7, he7, hcc7⟩ := hO7.val
              rw [show (dr ++ [yss]).length = k + 1 by rw [List.length_append, hlen]; rfl] at he7
              have hT8 := hT7.set2 v7
              have hO8 := hO7.kept (moves_WR moves_rule) (w' := w7.setCell ⟨g, 2, none⟩ v7) (row := some g) (frm_set (frm_refl _ _) _ _) (.inr fun e => by have := (hO7.lt g e).1; omega) (fun b hb e => by injection e with e; omega)
              have HG8 := Lib.hid (hfr.trans (hG7.set 2 v7))
              obtain ⟨hd0, hd1, hd2⟩ := hT7.cells
              have hfz7 := hT7.free 2
              have HO8 := Lib.hid (show OutAt (w7.setCell ⟨g, 2, none⟩ v7) g wc.heap.size (.slice Ar a.ranks.length cr) a.start v7 (dr ++ [yss]) from ⟨hT8, hgn, by have := hg7.1.size; simp at this ⊢; omega, hO8⟩)
              have HDL : Hid ((dr ++ [yss]).length = k + 1) := by unfold Hid; rw [List.length_append, hlen]; rfl
              clear hO7 hO5 htw hltO hO8 hT8 hT7 hG7 hlen
              subst he7
              go_wp2_with fail
              exact ⟨⟨k + 1, _, by omega, by go_num, HDL.out, HDR2.out, HG8.out, _, HO8.out⟩, by simp [intOf]; omega⟩
        · obtain rfl : k = a.moves.length := by omega
          obtain ⟨Am, cm, hme, hmc⟩ := hO.2.2.2.val
          rw [hdl] at hme hmc
          subst hme
          have hgn := hO.2.1
          have hnw := hO.2.2.1
          have hGw : Grew w wr := GrewG.grew HGW5.out (by omega) (by omega) hfr
          have hxo9 : ThreeAt wr (w.heap.size + 1) (.slice none 0 0) (.int .i64 0) (.slice none 0 0) 25 := (xo.frm hG5.1).move (hfr.block _ (by omega) (by omega))
          have hsl9 := hO.2.2.2.slW moves_rule (S := fun q => w3.heap.size ≤ q ∧ q < wr.heap.size) (by rw [hdl]; omega) (fun q h1 h2 => ⟨by omega, h2⟩) (fun q hq => by have := hO.2.2.2.lt q hq; omega)
          have hrk9 : WR (RowS 1 IntR) (fun q => w3.heap.size ≤ q ∧ q < wr.heap.size) wr a.ranks [.slice Ar a.ranks.length cr] :=
            moves_WR (moves_row moves_int) _ _ _ _ _ _ (fun q hq => ⟨hq.1, by have := hq.2.1; omega⟩) (fun q hq => hfr.block q hq.2.1 hq.2.2) HR5.out
          have HAU := Lib.hid (show WR AuR (fun q => w3.heap.size ≤ q ∧ q < wr.heap.size) wr ⟨a.ranks, a.start, dr⟩ [.slice Ar a.ranks.length cr, .int .i64 a.start, .slice Am a.moves.length cm] from
            ⟨.slice Ar a.ranks.length cr, _, rfl, hrk9, hsl9, hs1, hs2⟩)
          obtain ⟨he0, he1, he2⟩ := hO.1.cells
          obtain ⟨kx0, kx1, kx2⟩ := hxo9.cells
          have kxf := hxo9.free
          have kxf0 := kxf 0
          have kxf1 := kxf 1
          have kxf2 := kxf 2
          have HGW := Lib.hid hGw
          have hszr := hGw.1.size
          have HDO : Hid (DualOf a ⟨a.ranks, a.start, dr⟩) := ⟨rfl, rfl, hdl, HDR.out.1, HDR.out.2⟩
          clear hO hsl9 hrk9 kxf hGw hxo9 hdl
          go_wp2_with fail
          refine bodyPost_ret (v := .tuple #[.agg #[.slice Ar a.ranks.length cr, .int .i64 a.start, .slice Am a.moves.length cm], .int .i64 0]) (by simp [results, Tryz.results14, go_sem, kx0, kx1, kx2, kxf0, kxf1, kxf2]) rfl ⟨⟨a.ranks, a.start, dr⟩, 0, ⟨.slice Ar a.ranks.length cr, .slice Am a.moves.length cm, rfl, ?_, ?_⟩, .inl ⟨rfl, HAO.out, HDO.out⟩⟩
          · exact grew_set_new (grew_set_new (grew_set_new HGW.out (by omega) _ _) (by omega) _ _) (by omega) _ _
          · refine moves_WR moves_au _ _ _ _ _ _ (fun q hq => ⟨by omega, by simp; omega⟩) (fun q hq => ?_) HAU.out
            rw [Below.heap_setCell _ _ _ _ (by show q ≠ w.heap.size + 1; omega), Below.heap_setCell _ _ _ _ (by show q ≠ w.heap.size + 1; omega), Below.heap_setCell _ _ _ _ (by show q ≠ w.heap.size + 1; omega)]
end Go.Proofs.YtjpdmncafacmaaaGreatDoor
end
/- No tree is accepted by an automaton and by its dual: Some finds nothing for both. -/
section
set_option linter.unusedVariables false
set_option linter.unusedSimpArgs false
namespace Go.Proofs.YtjpdmncafacmaaaGreatDoor
open Go.RowKit

theorem getD_map0 {α β : Type} (f : α → β) (l : List α) (i : Nat) (d : α) : (l.map f).getD i (f d) = f (l.getD i d) := by
  simp only [List.getD_eq_getElem?_getD, List.getElem?_map]
  cases l[i]? <;> rfl
theorem k4_or_bit (k : K4) (i s : Nat) : ((k.or i s).get i).testBit s = true := by
  have h : (k.or i s).get i = k.get i ||| 2 ^ s := by
    unfold K4.or
    match i with
    | 0 => rfl
    | 1 => rfl
    | 2 => rfl
    | i + 3 => rfl
  rw [h, Nat.testBit_or, Nat.testBit_two_pow]
  simp
theorem k4_or_keep (k : K4) (i s j b : Nat) (h : (k.get j).testBit b = true) : ((k.or i s).get j).testBit b = true := by
  have h2 : (k.or i s).get j = k.get j ∨ ((k.or i s).get j = k.get i ||| 2 ^ s ∧ k.get i = k.get j) := by
    unfold K4.or
    match i, j with
    | 0, 0 => exact .inr ⟨rfl, rfl⟩
    | 0, 1 => exact .inl rfl
    | 0, 2 => exact .inl rfl
    | 0, j + 3 => exact .inl rfl
    | 1, 0 => exact .inl rfl
    | 1, 1 => exact .inr ⟨rfl, rfl⟩
    | 1, 2 => exact .inl rfl
    | 1, j + 3 => exact .inl rfl
    | 2, 0 => exact .inl rfl
    | 2, 1 => exact .inl rfl
    | 2, 2 => exact .inr ⟨rfl, rfl⟩
    | 2, j + 3 => exact .inl rfl
    | i + 3, 0 => exact .inl rfl
    | i + 3, 1 => exact .inl rfl
    | i + 3, 2 => exact .inl rfl
    | i + 3, j + 3 => exact .inr ⟨rfl, rfl⟩
  rcases h2 with h2 | ⟨h2, h3⟩
  · rw [h2]; exact h
  · rw [h2, Nat.testBit_or, h3, h]
    rfl
theorem k4Add_keep (j b : Nat) : ∀ (l : List Nd) (k : K4), (k.get j).testBit b = true → ((k4Add k l).get j).testBit b = true
  | [], k, h => h
  | x :: l, k, h => k4Add_keep j b l _ (k4_or_keep k _ _ j b h)
theorem k4Add_has : ∀ (l : List Nd) (k : K4), ∀ x ∈ l, ((k4Add k l).get x.1.toNat).testBit x.2.toNat = true
  | y :: l, k, x, hx => by
    rcases List.mem_cons.1 hx with rfl | hx
    · exact k4Add_keep _ _ l _ (k4_or_bit k _ _)
    · exact k4Add_has l _ x hx
/-- What a choice has. -/
theorem choose_has {alts : Nat → List (List Nd)} {dn : Nat → Option Made} {r : Nat} : ∀ (qs : List Nat) (k k' : K4), chooseP alts dn r qs k = some k' →
    there dn r k' = true ∧ (∀ j b, (k.get j).testBit b = true → (k'.get j).testBit b = true) ∧ ∀ q ∈ qs, ∃ l ∈ alts q, ∀ x ∈ l, (k'.get x.1.toNat).testBit x.2.toNat = true
  | [], k, k', h => by
    unfold chooseP at h
    split at h
    · rename_i ht
      injection h with h
      subst h
      exact ⟨ht, fun _ _ h => h, by simp⟩
    · cases h
  | q :: qs, k, k', h => by
    unfold chooseP at h
    split at h
    · obtain ⟨l, hl, h⟩ := List.exists_of_findSome?_eq_some h
      obtain ⟨h1, h2, h3⟩ := choose_has qs _ k' h
      refine ⟨h1, fun j b hb => h2 j b (k4Add_keep j b l k hb), fun q' hq' => ?_⟩
      rcases List.mem_cons.1 hq' with rfl | hq'
      · exact ⟨l, hl, fun x hx => h2 _ _ (k4Add_has l k x hx)⟩
      · exact h3 q' hq'
    · cases h
theorem there_at {dn : Nat → Option Made} {r : Nat} {k : K4} (h : there dn r k = true) {i : Nat} (hi : i < r) : (dn (k.get i)).isSome = true := by
  unfold there at h
  exact List.all_eq_true.1 h i (List.mem_range.2 hi)
/-- The dual's alternatives meet those of the automaton. -/
theorem dual_meets {alts ys : List (List Nd)} (hb : ∀ l ∈ alts, ∀ x ∈ l, (0 ≤ x.1 ∧ x.1 < 4) ∧ 0 ≤ x.2 ∧ x.2 < 6) (h : dualQ alts ys) {l m : List Nd} (hl : l ∈ alts) (hm : m ∈ ys) : ∃ x ∈ l, x ∈ m := by
  obtain ⟨mm, hmm, rfl⟩ := List.mem_map.1 (h.1.mem_iff.1 hm)
  obtain ⟨h24, hh⟩ := hitF_hits (alts.map maskP) 25 0 0 [] (by omega) (by simp) mm hmm
  have h0 := hh _ (List.mem_map.2 ⟨l, hl, rfl⟩)
  obtain ⟨b, hbit⟩ := Nat.exists_testBit_of_ne_zero h0
  rw [Nat.testBit_and, Bool.and_eq_true] at hbit
  obtain ⟨h1, h2⟩ := hbit
  rcases (maskF_bit l 0 b).1 h1 with h3 | ⟨x, hx, rfl⟩
  · rw [Nat.zero_testBit] at h3; cases h3
  · obtain ⟨h4, h5⟩ := ndBit_nd (hb l hl x hx)
    exact ⟨x, hx, List.mem_map.2 ⟨ndBit x, (bitsH_mem _ _ _).2 ⟨h4, h2⟩, h5⟩⟩
/-- A set that holds a state of the automaton and the dual's state, or the start. -/
def BadS (n s : Nat) : Prop := (∃ q, q < n ∧ s.testBit q = true ∧ s.testBit (n + q) = true) ∨ s.testBit (n + n) = true
section
variable {a d : Au}
theorem and_alts1 {sym q : Nat} (hq : q < a.moves.length) : (joinA stAnd a d).altsAt sym q = mvd id (a.alts q sym) := by
  unfold Au.altsAt joinA Au.alts
  show ((((a.moves.map (·.map (mvd id)) ++ d.moves.map (·.map (mvd (later a.n)))) ++ [joinFirst stAnd a d]).getD q []).getD sym []) = _
  rw [List.getD_eq_getElem?_getD (l := _ ++ _), List.getElem?_append_left (by simp; omega), List.getElem?_append_left (by simpa using hq), ← List.getD_eq_getElem?_getD,
    show (a.moves.map (·.map (mvd id))).getD q [] = (a.moves.getD q []).map (mvd id) from getD_map0 (·.map (mvd id)) a.moves q []]
  exact getD_map0 (mvd id) _ sym []
theorem and_alts2 {sym q : Nat} (hq : q < d.moves.length) : (joinA stAnd a d).altsAt sym (a.moves.length + q) = mvd (later a.n) (d.alts q sym) := by
  unfold Au.altsAt joinA Au.alts
  show ((((a.moves.map (·.map (mvd id)) ++ d.moves.map (·.map (mvd (later a.n)))) ++ [joinFirst stAnd a d]).getD (a.moves.length + q) []).getD sym []) = _
  rw [List.getD_eq_getElem?_getD (l := _ ++ _), List.getElem?_append_left (by simp; omega), List.getElem?_append_right (by simp), ← List.getD_eq_getElem?_getD,
    show a.moves.length + q - (a.moves.map (·.map (mvd id))).length = q by simp,
    show (d.moves.map (·.map (mvd (later a.n)))).getD q [] = (d.moves.getD q []).map (mvd (later a.n)) from getD_map0 (·.map (mvd (later a.n))) d.moves q []]
  exact getD_map0 (mvd (later a.n)) _ sym []
theorem and_alts3 {sym : Nat} (hs : sym < a.ranks.length) : (joinA stAnd a d).altsAt sym (a.moves.length + d.moves.length) = joinAt stAnd a d sym := by
  unfold Au.altsAt joinA
  show ((((a.moves.map (·.map (mvd id)) ++ d.moves.map (·.map (mvd (later a.n)))) ++ [joinFirst stAnd a d]).getD (a.moves.length + d.moves.length) []).getD sym []) = _
  rw [List.getD_eq_getElem?_getD (l := _ ++ _), List.getElem?_append_right (by simp), show a.moves.length + d.moves.length - (a.moves.map (·.map (mvd id)) ++ d.moves.map (·.map (mvd (later a.n)))).length = 0 by simp]
  unfold joinFirst
  simp [hs]
theorem none_found (ha : a.ok = true) (hd : DualOf a d) (hj : (joinA stAnd a d).ok = true) : ∀ k s, (dnP (joinA stAnd a d) k s).isSome = true → ¬ BadS a.moves.length s
  | 0, s, h => by simp [dnP] at h
  | k + 1, s, h => by
    have ih := none_found ha hd hj k
    obtain ⟨hd1, hd2, hd3, hd4, hd5⟩ := hd
    have hbd : ∀ q sym, q < a.moves.length → sym < a.ranks.length → ∀ l ∈ a.alts q sym, ∀ x ∈ l, ((0 ≤ x.1 ∧ x.1 < a.ranks.getD sym 0) ∧ 0 ≤ x.2 ∧ x.2 < a.moves.length) ∧ x.1 < 4 ∧ x.2 < 6 := by
      intro q sym hq hsym l hl x hx
      obtain ⟨q1, q2⟩ := (ok_parts ha).2.2.2.2.2 _ (List.getElem_mem hq)
      have hsl : sym < (a.moves[q]).length := by omega
      rw [alts_eq hq hsl] at hl
      have h1 := (symOk_parts (q2 sym hsl hsym)).2.2 l hl
      have h2 := h1.2.2 x hx
      have h3 := ((ok_rows ha).2 _ (List.getElem_mem hq)).2 _ (List.getElem_mem hsl)
      have h4 := (h3.2 l hl).2 x hx
      rw [show a.ranks.getD sym 0 = a.ranks[sym] by simp [hsym]]
      unfold Au.n at h2
      omega
    have h' : (stepP (joinA stAnd a d) (dnP (joinA stAnd a d) k) s).isSome = true := h
    unfold stepP orF at h'
    cases h1 : dnP (joinA stAnd a d) k s with
    | some m => exact ih s (by rw [h1]; rfl)
    | none =>
      rw [h1, Option.none_or] at h'
      obtain ⟨m, hm⟩ := Option.isSome_iff_exists.1 h'
      obtain ⟨_, hs, hw⟩ := found_none hm
      have hn6 := (ok_parts hj).2.2.1
      have hs64 : s < 64 := Nat.lt_of_lt_of_le hs (Nat.pow_le_pow_right (n := 2) (by omega) hn6)
      unfold wayP at hw
      obtain ⟨sym, hsym, hw⟩ := List.exists_of_findSome?_eq_some hw
      have hsl : sym < a.ranks.length := List.mem_range.1 hsym
      unfold way1 at hw
      obtain ⟨kk, hck, _⟩ := Option.map_eq_some_iff.1 hw
      obtain ⟨c1, _, c3⟩ := choose_has _ _ _ hck
      have hjl : (joinA stAnd a d).moves.length = a.moves.length + d.moves.length + 1 := by unfold joinA; simp; omega
      have hin : ∀ b, b < 6 → s.testBit b = true → b ∈ listP s := fun b hb6 hb => by
        rw [bits_eq s hs64]
        exact List.mem_filter.2 ⟨List.mem_range.2 hb6, hb⟩
      -- two needs in one kid's set
      have key : ∀ q l m, q < a.moves.length → l ∈ a.alts q sym → m ∈ d.alts q sym → (∀ x ∈ l, (kk.get x.1.toNat).testBit x.2.toNat = true) → (∀ x ∈ m, (kk.get x.1.toNat).testBit (x.2 + a.n).toNat = true) → False := by
        intro q l m hq hl hm h2 h3
        obtain ⟨x, hx1, hx2⟩ := dual_meets (fun l hl x hx => by have := hbd q sym hq hsl l hl x hx; omega) (hd5 q sym hq hsl).2 hl hm
        obtain ⟨⟨⟨b1, b2⟩, b3, b4⟩, _, _⟩ := hbd q sym hq hsl l hl x hx1
        have hr : x.1.toNat < (joinA stAnd a d).rankAt sym := by
          have e : (joinA stAnd a d).rankAt sym = (a.ranks.getD sym 0).toNat := rfl
          rw [e]
          omega
        refine ih _ (there_at c1 hr) (.inl ⟨x.2.toNat, by omega, h2 x hx1, ?_⟩)
        have h4 := h3 x hx2
        rwa [show (x.2 + a.n).toNat = a.moves.length + x.2.toNat by unfold Au.n; omega] at h4
      rintro (⟨q, hq, hb1, hb2⟩ | hb)
      · obtain ⟨l', hl', hl2⟩ := c3 q (hin q (by omega) hb1)
        obtain ⟨m', hm', hm2⟩ := c3 (a.moves.length + q) (hin _ (by omega) hb2)
        rw [and_alts1 hq] at hl'
        rw [and_alts2 (by omega)] at hm'
        obtain ⟨l, hl, rfl⟩ := List.mem_map.1 hl'
        obtain ⟨m, hm, rfl⟩ := List.mem_map.1 hm'
        refine key q l m hq hl hm (fun x hx => hl2 x ((setL_mem ord_nd _ _).2 (by simpa using hx))) (fun x hx => ?_)
        exact hm2 (later a.n x) ((setL_mem ord_nd _ _).2 (List.mem_map.2 ⟨x, hx, rfl⟩))
      · obtain ⟨l', hl', hl2⟩ := c3 (a.moves.length + d.moves.length) (hin _ (by omega) (by rw [hd3]; exact hb))
        rw [and_alts3 hsl] at hl'
        unfold joinAt at hl'
        have hl3 := (setL_mem ord_alt _ _).1 hl'
        unfold stAnd at hl3
        obtain ⟨u, hu, hl4⟩ := List.mem_flatMap.1 hl3
        obtain ⟨v, hv, rfl⟩ := List.mem_map.1 hl4
        obtain ⟨l, hl, rfl⟩ := List.mem_map.1 hu
        obtain ⟨m, hm, rfl⟩ := List.mem_map.1 hv
        have hst := (ok_parts ha).2.2.2.2.1
        rw [hd2] at hm
        refine key a.start.toNat l m hst hl hm (fun x hx => hl2 x ((setL_mem ord_nd _ _).2 (List.mem_append.2 (.inl ((setL_mem ord_nd _ _).2 (by simpa using hx)))))) (fun x hx => ?_)
        exact hl2 (later a.n x) ((setL_mem ord_nd _ _).2 (List.mem_append.2 (.inr ((setL_mem ord_nd _ _).2 (List.mem_map.2 ⟨x, hx, rfl⟩)))))
theorem none_start (ha : a.ok = true) (hd : DualOf a d) (hj : (joinA stAnd a d).ok = true) (k : Nat) : dnP (joinA stAnd a d) k (2 ^ (joinA stAnd a d).start.toNat) = none := by
  cases h : dnP (joinA stAnd a d) k (2 ^ (joinA stAnd a d).start.toNat) with
  | none => rfl
  | some m =>
    refine absurd (.inr ?_) (none_found ha hd hj k _ (by rw [h]; rfl))
    have e : (joinA stAnd a d).start.toNat = a.moves.length + a.moves.length := by
      have e1 : (joinA stAnd a d).start = a.n + d.n := rfl
      rw [e1]
      unfold Au.n
      rw [hd.2.2.1]
      omega
    rw [e, Nat.testBit_two_pow]
    simp
end
end Go.Proofs.YtjpdmncafacmaaaGreatDoor
end
/- Ways to choose alternatives, all tried to the end, are the ways that Some finds. -/
section
set_option linter.unusedVariables false
set_option linter.unusedSimpArgs false
namespace Go.Proofs.YtjpdmncafacmaaaGreatDoor
open Go.RowKit

/-- Alternatives for some states can be chosen, so that all kids' sets are there. -/
def waysP (alts : Nat → List (List Nd)) (dn : Nat → Option Made) (r : Nat) : List Nat → K4 → Bool
  | [], k => there dn r k
  | q :: qs, k => (alts q).any fun l => waysP alts dn r qs (k4Add k l)
def subK (k k' : K4) : Prop := ∀ j b, (k.get j).testBit b = true → (k'.get j).testBit b = true
def downF (dn : Nat → Option Made) : Prop := ∀ s s' : Nat, (∀ b, s'.testBit b = true → s.testBit b = true) → (dn s).isSome = true → (dn s').isSome = true
theorem there_sub {dn : Nat → Option Made} (hd : downF dn) {r : Nat} {k k' : K4} (hs : subK k k') (h : there dn r k' = true) : there dn r k = true := by
  unfold there
  rw [List.all_eq_true]
  intro i hi
  exact hd _ _ (hs i) (there_at h (List.mem_range.1 hi))
theorem k4_or_from (k : K4) (i s j b : Nat) (h : ((k.or i s).get j).testBit b = true) : (k.get j).testBit b = true ∨ (b = s ∧ ∀ k' : K4, ((k'.or i s).get j).testBit s = true) := by
  have h2 : (k.or i s).get j = k.get j ∨ ((k.or i s).get j = k.get j ||| 2 ^ s ∧ ∀ k' : K4, (k'.or i s).get j = k'.get j ||| 2 ^ s) := by
    unfold K4.or
    match i, j with
    | 0, 0 => exact .inr ⟨rfl, fun _ => rfl⟩
    | 0, 1 => exact .inl rfl
    | 0, 2 => exact .inl rfl
    | 0, j + 3 => exact .inl rfl
    | 1, 0 => exact .inl rfl
    | 1, 1 => exact .inr ⟨rfl, fun _ => rfl⟩
    | 1, 2 => exact .inl rfl
    | 1, j + 3 => exact .inl rfl
    | 2, 0 => exact .inl rfl
    | 2, 1 => exact .inl rfl
    | 2, 2 => exact .inr ⟨rfl, fun _ => rfl⟩
    | 2, j + 3 => exact .inl rfl
    | i + 3, 0 => exact .inl rfl
    | i + 3, 1 => exact .inl rfl
    | i + 3, 2 => exact .inl rfl
    | i + 3, j + 3 => exact .inr ⟨rfl, fun _ => rfl⟩
  rcases h2 with h2 | ⟨h2, h3⟩
  · exact .inl (h2 ▸ h)
  · rw [h2, Nat.testBit_or, Nat.testBit_two_pow, Bool.or_eq_true, decide_eq_true_iff] at h
    rcases h with h | rfl
    · exact .inl h
    · refine .inr ⟨rfl, fun k' => ?_⟩
      rw [h3 k', Nat.testBit_or, Nat.testBit_two_pow]
      simp
theorem subK_or {k k' : K4} (h : subK k k') (i s : Nat) : subK (k.or i s) (k'.or i s) := by
  intro j b hb
  rcases k4_or_from k i s j b hb with h1 | ⟨rfl, h1⟩
  · exact k4_or_keep k' i s j b (h j b h1)
  · exact h1 k'
theorem subK_add {k k' : K4} (h : subK k k') : ∀ l : List Nd, subK (k4Add k l) (k4Add k' l) := by
  intro l
  induction l generalizing k k' with
  | nil => exact h
  | cons x l ih => exact ih (subK_or h _ _)
theorem ways_there {alts : Nat → List (List Nd)} {dn : Nat → Option Made} (hd : downF dn) {r : Nat} : ∀ (qs : List Nat) (k : K4), waysP alts dn r qs k = true → there dn r k = true
  | [], k, h => h
  | q :: qs, k, h => by
    unfold waysP at h
    rw [List.any_eq_true] at h
    obtain ⟨l, _, h⟩ := h
    exact there_sub hd (fun j b hb => k4Add_keep j b l k hb) (ways_there hd qs _ h)
theorem ways_sub {alts : Nat → List (List Nd)} {dn : Nat → Option Made} (hd : downF dn) {r : Nat} : ∀ {qs' qs : List Nat}, qs'.Sublist qs → ∀ (k' k : K4), subK k' k → waysP alts dn r qs k = true → waysP alts dn r qs' k' = true := by
  intro qs' qs hs
  induction hs with
  | slnil => exact fun k' k hk h => there_sub hd hk h
  | cons q hs ih =>
    intro k' k hk h
    unfold waysP at h
    rw [List.any_eq_true] at h
    obtain ⟨l, _, h⟩ := h
    exact ih k' _ (fun j b hb => k4Add_keep j b l k (hk j b hb)) h
  | cons_cons q hs ih =>
    intro k' k hk h
    unfold waysP at h ⊢
    rw [List.any_eq_true] at h ⊢
    obtain ⟨l, hl, h⟩ := h
    exact ⟨l, hl, ih _ _ (subK_add hk l) h⟩
theorem choose_ways {alts : Nat → List (List Nd)} {dn : Nat → Option Made} (hd : downF dn) {r : Nat} : ∀ (qs : List Nat) (k : K4), (chooseP alts dn r qs k).isSome = waysP alts dn r qs k
  | [], k => by
    unfold chooseP waysP
    cases there dn r k <;> rfl
  | q :: qs, k => by
    unfold chooseP waysP
    cases ht : there dn r k
    · rw [if_neg (by simp)]
      cases hw : (alts q).any fun l => waysP alts dn r qs (k4Add k l)
      · rfl
      · have h := ways_there hd (q :: qs) k hw
        rw [ht] at h
        cases h
    · rw [if_pos rfl]
      have h : ∀ L : List (List Nd), (L.findSome? fun l => chooseP alts dn r qs (k4Add k l)).isSome = L.any fun l => waysP alts dn r qs (k4Add k l) := by
        intro L
        induction L with
        | nil => rfl
        | cons l L ih =>
          rw [List.findSome?_cons, List.any_cons, ← choose_ways hd qs (k4Add k l)]
          cases chooseP alts dn r qs (k4Add k l) with
          | none => simpa using ih
          | some _ => rfl
      exact h _
theorem sub_le {s s' : Nat} (h : ∀ b, s'.testBit b = true → s.testBit b = true) : s' ≤ s := by
  have e : s' &&& s = s' := by
    apply Nat.eq_of_testBit_eq
    intro i
    rw [Nat.testBit_and]
    cases hi : s'.testBit i
    · rfl
    · rw [h i hi]; rfl
  rw [← e]
  exact Nat.and_le_right
theorem list_sub {s s' : Nat} (hs : s < 64) (h : ∀ b, s'.testBit b = true → s.testBit b = true) : (listP s').Sublist (listP s) := by
  have hs' : s' < 64 := Nat.lt_of_le_of_lt (sub_le h) hs
  rw [bits_eq s hs, bits_eq s' hs']
  have e : ((List.range 6).filter fun i => s'.testBit i) = (((List.range 6).filter fun i => s.testBit i).filter fun i => s'.testBit i) := by
    rw [List.filter_filter]
    refine List.filter_congr fun i _ => ?_
    cases hi : s'.testBit i
    · rfl
    · rw [h i hi]; rfl
  rw [e]
  exact List.filter_sublist
/-- What is found for a set is found for its parts. -/
theorem dn_down {a : Au} (hok : a.ok = true) : ∀ k, downF (dnP a k)
  | 0 => fun s s' _ h => by simp [dnP] at h
  | k + 1 => by
    intro s s' hs h
    have ih := dn_down hok k
    have h' : (stepP a (dnP a k) s).isSome = true := h
    show (stepP a (dnP a k) s').isSome = true
    unfold stepP orF at h' ⊢
    cases h1 : dnP a k s' with
    | some m => rfl
    | none =>
      rw [Option.none_or]
      cases h2 : dnP a k s with
      | some m =>
        have := ih s s' hs (by rw [h2]; rfl)
        rw [h1] at this
        cases this
      | none =>
        rw [h2, Option.none_or] at h'
        obtain ⟨m, hm⟩ := Option.isSome_iff_exists.1 h'
        obtain ⟨_, hn, hw⟩ := found_none hm
        have hn6 := (ok_parts hok).2.2.1
        have hs64 : s < 64 := Nat.lt_of_lt_of_le hn (Nat.pow_le_pow_right (n := 2) (by omega) hn6)
        unfold foundP
        rw [if_pos (Nat.lt_of_le_of_lt (sub_le hs) hn), h1, if_neg (by simp)]
        unfold wayP at hw ⊢
        obtain ⟨sym, hsym, hw⟩ := List.exists_of_findSome?_eq_some hw
        rw [List.findSome?_isSome_iff]
        refine ⟨sym, hsym, ?_⟩
        unfold way1 at hw ⊢
        rw [Option.isSome_map]
        obtain ⟨kk, hck, _⟩ := Option.map_eq_some_iff.1 hw
        rw [choose_ways ih]
        refine ways_sub ih (list_sub hs64 hs) _ _ (fun _ _ h => h) ?_
        rw [← choose_ways ih, hck]
        rfl
/-- A round finds a set if it is found, or if it has a way. -/
theorem dn_next {a : Au} (hok : a.ok = true) (k s : Nat) (hs : s < 2 ^ a.moves.length) : (dnP a (k + 1) s).isSome = ((dnP a k s).isSome || (List.range a.ranks.length).any fun f => waysP (a.altsAt f) (dnP a k) (a.rankAt f) (listP s) (0, 0, 0, 0)) := by
  show (stepP a (dnP a k) s).isSome = _
  unfold stepP orF
  cases h1 : dnP a k s with
  | some m => rfl
  | none =>
    rw [Option.none_or]
    unfold foundP
    rw [if_pos hs, h1, if_neg (by simp)]
    unfold wayP
    have h : ∀ L : List Nat, (L.findSome? (way1 a (dnP a k) s)).isSome = L.any fun f => waysP (a.altsAt f) (dnP a k) (a.rankAt f) (listP s) (0, 0, 0, 0) := by
      intro L
      induction L with
      | nil => rfl
      | cons f L ih =>
        rw [List.findSome?_cons, List.any_cons, ← choose_ways (dn_down hok k)]
        have e : (way1 a (dnP a k) s f).isSome = (chooseP (a.altsAt f) (dnP a k) (a.rankAt f) (listP s) (0, 0, 0, 0)).isSome := by
          unfold way1
          rw [Option.isSome_map]
        rw [← e]
        cases way1 a (dnP a k) s f with
        | none => simpa using ih
        | some _ => rfl
    rw [h]
    rfl
end Go.Proofs.YtjpdmncafacmaaaGreatDoor
end
