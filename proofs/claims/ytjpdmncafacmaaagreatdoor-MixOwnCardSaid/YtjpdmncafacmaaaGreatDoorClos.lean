/- The closures of joined; copies of rows. -/
import Derived.Test.YtjpdmncafacmaaaGreatDoorMoved
import Derived.Test.YtjpdmncafacmaaaGreatDoorOnce
import Derived.Lib.SliceRun
set_option linter.unusedVariables false
set_option linter.unusedSimpArgs false
namespace Go.Proofs.YtjpdmncafacmaaaGreatDoor
open Go.RowKit

def later (n : Int) (x : Nd) : Nd := (x.1, x.2 + n)
set_option maxRecDepth 20000 in
theorem stay_calls (x : Nd) (w : World) : Calls Tryz.prog 100 #[.agg #[.int .i64 x.1, .int .i64 x.2]] w (RetD w (.agg #[.int .i64 x.1, .int .i64 x.2])) := by
  go_enter Tryz.func100, Tryz.ntmps100
  go_wp2_with fail
  exact bodyPost_ret (v := .agg #[.int .i64 x.1, .int .i64 x.2]) (by simp [results, Tryz.results100, go_sem]) rfl ⟨rfl, grew_then_alloc (grew_alloc _ _) _⟩
set_option maxRecDepth 20000 in
theorem later_calls (x : Nd) (n : Int) (w : World) (g : Nat) (hg : w.cell? ⟨g, 0, none⟩ = some (.int .i64 n)) (h1 : 0 ≤ x.2) (h2 : x.2 ≤ 1000) (h3 : 0 ≤ n) (h4 : n ≤ 1000) :
    Calls Tryz.prog 101 #[.agg #[.int .i64 x.1, .int .i64 x.2], .pointer (some ⟨g, 0, none⟩)] w (RetD w (.agg #[.int .i64 (later n x).1, .int .i64 (later n x).2])) := by
  have hlt := World.block_lt_of_cell? _ _ hg
  have hl : g < w.heap.size := by simpa using hlt
  go_enter Tryz.func101, Tryz.ntmps101
  go_wp2_with fail
  exact bodyPost_ret (v := .agg #[.int .i64 x.1, .int .i64 (x.2 + n)]) (by simp [results, Tryz.results101, go_sem]) rfl ⟨rfl, grew_then_alloc (grew_alloc _ _) _⟩

/-- An empty row of no room. -/
theorem Own.empty {α : Type} (r : RdS α) (w : World) (e k : Nat) (ok : Nat → Prop) {base : Nat} (hb : base ≤ w.heap.size) : Own r (w.alloc (.cells #[] e)) base e k ok (.slice (some ⟨w.heap.size, 0, none⟩) 0 0) [] := by
  refine ⟨[], ⟨by simp, .inr ⟨w.heap.size, 0, #[], rfl, hb, ?_, by simp, by simp [maxLen], by simp, by simp⟩⟩, by simp, by simp⟩
  show (w.heap.push _)[w.heap.size]? = _
  simp

set_option maxRecDepth 20000 in
theorem cloneN_calls (xs : List Nd) (w : World) (v : Value) (hv : rdO AltR w xs [v]) (hb : xs.length ≤ 1000) :
    Calls Tryz.prog 44 #[v] w fun e w' => ∃ u, e = .returned u ∧ Grew w w' ∧ Own NdR w' w.heap.size 80 2 (fun _ => True) u xs := by
  have hX := RowS.sl hv
  obtain ⟨A, c, rfl, hc, hm⟩ := hX.val
  have hnil := fun w : World => Lib.run_eql_slice_nil (P := Tryz.prog) w 76 80 A xs.length c 0 0 Tryz.underlying76
  cases A with
  | none =>
    have h0 : xs = [] := by
      obtain ⟨A', c', he, _, _, hp⟩ := hX
      rcases Nat.eq_zero_or_pos xs.length with h | h
      · exact List.eq_nil_of_length_eq_zero h
      · obtain ⟨b, o, ha, _⟩ := hp h
        injection he with e1 _ _
        rw [← e1] at ha
        cases ha
    have H0 := Lib.hid h0
    clear hX hv h0
    go_enter Tryz.func44, Tryz.ntmps44
    go_wp2_with fail
    refine bodyPost_ret (v := .slice none 0 0) (by simp [results, Tryz.results44, go_sem]) rfl ⟨_, rfl, grew_refl _, ?_⟩
    rw [H0.out]
    exact Own.nil _ _ _ _ _ _
  | some a =>
    have HX := Lib.hid hX
    clear hX hv
    go_enter Tryz.func44, Tryz.ntmps44
    repeat ((fail_if_success at_builtin); first | go_values | go_skip | go_guarded | go_step | go_upon)
    have hO := Own.empty NdR w 80 2 (fun _ => True) (Nat.le_refl w.heap.size)
    have hX1 := (HX.out).frm (frm_alloc w (.cells #[] 80)) (stays_rd moves_nd)
    have hX2 : Sl (fun b => b < w.heap.size) (w.alloc (.cells #[] 80)) 2 (NdR (fun b => b < w.heap.size) (w.alloc (.cells #[] 80))) xs (.slice (some a) xs.length c) :=
      Sl.move HX.out (fun b hb => hb) (frm_lt (frm_alloc w _)) fun x _ cs h => moves_nd _ _ _ _ _ _ (fun b hb => hb) (frm_lt (frm_alloc w _)) h
    obtain ⟨v', w', hrun, hO', hg, hp⟩ := Own.app_sl moves_nd elem_nd hO 76 hX2 (fun b hb => ⟨trivial, by simp; omega, fun e => by
      have e2 : some b = some w.heap.size := e
      injection e2 with e2
      omega⟩) (fun x cs h u hu => by
      obtain ⟨rfl, _⟩ := h
      simp only [List.mem_cons, List.not_mem_nil, or_false] at hu
      rcases hu with rfl | rfl <;> rfl) (by simp; omega) (by omega) (by simp)
    refine append_list _ _ rfl rfl rfl rfl hrun ?_
    have hG : Grew w w' := grew_new (grew_alloc w _) (Nat.le_refl _) hg
    obtain ⟨A', c', rfl, _⟩ := hO'.val
    have HO := Lib.hid hO'
    clear hO' hrun hX2 hO
    go_wp2_with fail
    exact bodyPost_ret (v := .slice A' xs.length c') (by simp [results, Tryz.results44, go_sem]) rfl ⟨_, rfl, hG, HO.out⟩
set_option maxRecDepth 20000 in
theorem cloneI_calls (xs : List Int) (w : World) (v : Value) (hX : SlO w 1 (rdO IntR) xs v) (hb : xs.length ≤ 1000) :
    Calls Tryz.prog 41 #[v] w fun e w' => ∃ u, e = .returned u ∧ Grew w w' ∧ Own IntR w' w.heap.size 3 1 (fun _ => True) u xs := by
  obtain ⟨A, c, rfl, hc, hm⟩ := hX.val
  have hnil := fun w : World => Lib.run_eql_slice_nil (P := Tryz.prog) w 22 3 A xs.length c 0 0 Tryz.underlying22
  cases A with
  | none =>
    have h0 : xs = [] := by
      obtain ⟨A', c', he, _, _, hp⟩ := hX
      rcases Nat.eq_zero_or_pos xs.length with h | h
      · exact List.eq_nil_of_length_eq_zero h
      · obtain ⟨b, o, ha, _⟩ := hp h
        injection he with e1 _ _
        rw [← e1] at ha
        cases ha
    have H0 := Lib.hid h0
    clear hX h0
    go_enter Tryz.func41, Tryz.ntmps41
    go_wp2_with fail
    refine bodyPost_ret (v := .slice none 0 0) (by simp [results, Tryz.results41, go_sem]) rfl ⟨_, rfl, grew_refl _, ?_⟩
    rw [H0.out]
    exact Own.nil _ _ _ _ _ _
  | some a =>
    have HX := Lib.hid hX
    clear hX
    go_enter Tryz.func41, Tryz.ntmps41
    repeat ((fail_if_success at_builtin); first | go_values | go_skip | go_guarded | go_step | go_upon)
    have hO := Own.empty IntR w 3 1 (fun _ => True) (Nat.le_refl w.heap.size)
    have hX1 := (HX.out).frm (frm_alloc w (.cells #[] 3)) (stays_rd moves_int)
    have hX2 : Sl (fun b => b < w.heap.size) (w.alloc (.cells #[] 3)) 1 (IntR (fun b => b < w.heap.size) (w.alloc (.cells #[] 3))) xs (.slice (some a) xs.length c) :=
      Sl.move HX.out (fun b hb => hb) (frm_lt (frm_alloc w _)) fun x _ cs h => moves_int _ _ _ _ _ _ (fun b hb => hb) (frm_lt (frm_alloc w _)) h
    obtain ⟨v', w', hrun, hO', hg, hp⟩ := Own.app_sl moves_int elem_int hO 22 hX2 (fun b hb => ⟨trivial, by simp; omega, fun e => by
      have e2 : some b = some w.heap.size := e
      injection e2 with e2
      omega⟩) (fun x cs h u hu => by
      obtain ⟨rfl, _⟩ := h
      simp only [List.mem_cons, List.not_mem_nil, or_false] at hu
      subst hu; rfl) (by simp; omega) (by omega) (by simp)
    refine append_list _ _ rfl rfl rfl rfl hrun ?_
    have hG : Grew w w' := grew_new (grew_alloc w _) (Nat.le_refl _) hg
    obtain ⟨A', c', rfl, _⟩ := hO'.val
    have HO := Lib.hid hO'
    clear hO' hrun hX2 hO
    go_wp2_with fail
    exact bodyPost_ret (v := .slice A' xs.length c') (by simp [results, Tryz.results41, go_sem]) rfl ⟨_, rfl, hG, HO.out⟩
end Go.Proofs.YtjpdmncafacmaaaGreatDoor
