/- The checks that a type fits a sort, the program's and the reference's. -/
import Derived.Test.YtmdgoalekkkpnaaDoorFitsP
import Derived.Test.YtmdgoalekkkpnaaDoorCmp
import Derived.Test.YtmdgoalekkkpnaaDoorRefCmp
import Derived.Test.YtmdgoalekkkpnaaDoorHeld
import Derived.StillTailTactics
set_option linter.unusedVariables false
set_option linter.unusedSimpArgs false
namespace Go.Proofs.YtmdgoalekkkpnaaDoor
open Go.RowKit


/-- What virgation/inter.fits's contract says of a type. -/
def fitsAt (n : Int) (t : Ty) : Prop := ∀ (w : World) (s : Srt) (a0 v0 v1 : Value), SrtO w s [a0] → TyO w t [v0, v1] →
  Calls Tryd.prog 58 #[.agg #[a0], .int .i64 n, .agg #[v0, v1]] w (Ret w (.bool (Ty.fits n t s)))

set_option maxRecDepth 100000 in
set_option maxHeartbeats 4000000 in
theorem fitsSet_calls (n : Int) (ts : List Ty) (IH : ∀ t ∈ ts, fitsAt n t) (w : World) (s : Srt) (a0 v : Value) (ha : SrtO w s [a0]) (hv : SetO w ts [v]) :
    Calls Tryd.prog 64 #[.agg #[a0], .int .i64 n, v] w (Ret w (.bool (Ty.fitSet n s ts none))) := by
  have hs := SetO.sl hv
  obtain ⟨A, c, rfl, hc, hm⟩ := hs.val
  obtain ⟨B, m, d, hcs⟩ := SrtR_len ha
  obtain rfl : a0 = .slice B m d := by simpa using hcs
  have HI := Lib.hid IH
  have HA := Lib.hid ha
  have hbox := OneAt.new w (.slice B m d) 43
  clear IH hv hcs ha
  go_enter Tryd.func64, Tryd.ntmps64
  go_wp2_with fail
  go_loopw [11] (fun i wr => ∃ k : Nat, k ≤ ts.length ∧ i = .int .i64 k ∧ w.grownBy wr none ∧ OneAt wr w.heap.size (.slice B m d) 43 ∧ Hid (Ty.fitSet n s ts none = Ty.fitSet n s (ts.drop k) (ahead ts k))) (fun i _ => ts.length - (intOf i).toNat)
  case atStart => exact ⟨0, Nat.zero_le _, rfl, frm_alloc _ _, hbox, rfl⟩
  case round =>
    obtain ⟨k, hk, rfl, hfr, hone, HS⟩ := hrel
    by_cases hlt : k < ts.length
    · obtain ⟨b, o, p0, p1, rfl, hb, hp0, hp1, hpt⟩ := (hs.frm hfr stays_ty).at2 k hlt
      obtain ⟨s1, A1, n1, c1, rfl, rfl⟩ := hpt.vals
      have hat := HI.out _ (List.getElem_mem hlt)
      have HAT : Hid (∀ w', wr.grownBy w' none → Calls Tryd.prog 58 #[.agg #[.slice B m d], .int .i64 n, .agg #[.int .i64 s1, .slice A1 n1 c1]] w' (Ret w' (.bool (Ty.fits n ts[k] s)))) :=
        fun w' hf => hat w' s _ _ _ (stays_srt _ _ _ _ (frm_trans hfr hf) HA.out) (stays_ty _ _ _ _ hf hpt)
      clear hat
      have hf8 := frm_alloc wr (.cells #[.int .i64 s1, .slice A1 n1 c1] 24)
      have hx := TwoAt.new wr (.int .i64 s1) (.slice A1 n1 c1) 24
      have hone8 := hone.alloc (.cells #[.int .i64 s1, .slice A1 n1 c1] 24)
      have hcell := hone8.cell
      obtain ⟨x0, x1, _, _⟩ := hx.cells
      by_cases hfit : Ty.fits n ts[k] s = true
      · rw [hfit] at HAT
        rcases Nat.eq_zero_or_pos k with h0 | h0
        · have HS2 : Hid (Ty.fitSet n s ts none = Ty.fitSet n s (ts.drop (k + 1)) (ahead ts (k + 1))) := by
            unfold Hid
            rw [HS.out]
            subst h0
            rw [Ty.fitSet_drop0 n s ts hlt, hfit]
            rfl
          have H0 := Lib.hid h0
          clear HS hfit
          have HK : Hid (∀ w1 w2 : World, w1.grownBy w2 none → (wr.grownBy w1 none ∧ w1.cell? ⟨w.heap.size, 0, none⟩ = some (.slice B m d) ∧ w1.cell? ⟨wr.heap.size, 0, none⟩ = some (.int .i64 s1) ∧ w1.cell? ⟨wr.heap.size, 1, none⟩ = some (.slice A1 n1 c1)) → (wr.grownBy w2 none ∧ w2.cell? ⟨w.heap.size, 0, none⟩ = some (.slice B m d) ∧ w2.cell? ⟨wr.heap.size, 0, none⟩ = some (.int .i64 s1) ∧ w2.cell? ⟨wr.heap.size, 1, none⟩ = some (.slice A1 n1 c1))) := fun w1 w2 hf h => ⟨frm_trans h.1 hf, frm_cell hf h.2.1, frm_cell hf h.2.2.1, frm_cell hf h.2.2.2⟩
          have i5 : decide (0 < k) = false := by rw [decide_eq_false_iff_not]; omega
          clear h0
          go_wp2_with fail
          generalize wr.alloc (.cells #[.int .i64 s1, .slice A1 n1 c1] 24) = w8 at *
          refine wp_region_held_drew (S := fun w' => (wr.grownBy w' none ∧ w'.cell? ⟨w.heap.size, 0, none⟩ = some (.slice B m d) ∧ w'.cell? ⟨wr.heap.size, 0, none⟩ = some (.int .i64 s1) ∧ w'.cell? ⟨wr.heap.size, 1, none⟩ = some (.slice A1 n1 c1))) (by kernel_rfl) ⟨frm_trans hf8 (frm_drew _), hcell, x0, x1⟩ (fun hHeld => ?_)
          refine held_yes 0 (v := ?_) rfl (by kernel_rfl) (by kernel_rfl) (by kernel_rfl) (fun _ _ _ h => h) (by kernel_rfl) (fun w hSw => ?_) (by assumption) ?_
          rotate_left
          · (try dsimp only at hSw); go_simp; (try with_reducible rfl)
          try simp only [Act.put, List.setIfInBounds_toArray, List.set_cons_zero, List.set_cons_succ]
          refine held_yes 1 (v := ?_) rfl (by kernel_rfl) (by kernel_rfl) (by kernel_rfl) (fun _ _ _ h => h) (by kernel_rfl) (fun w hSw => ?_) (by assumption) ?_
          rotate_left
          · (try dsimp only at hSw); go_simp; (try with_reducible rfl)
          try simp only [Act.put, List.setIfInBounds_toArray, List.set_cons_zero, List.set_cons_succ]
          refine held_yes 2 (v := ?_) rfl (by kernel_rfl) (by kernel_rfl) (by kernel_rfl) (fun _ _ _ h => h) (by kernel_rfl) (fun w hSw => ?_) (by assumption) ?_
          rotate_left
          · (try dsimp only at hSw); go_simp; (try with_reducible rfl)
          try simp only [Act.put, List.setIfInBounds_toArray, List.set_cons_zero, List.set_cons_succ]
          refine wpAnyH_ready (rs := [3]) (by kernel_rfl) (by simp) (AllReadyH.cons rfl (fun K hK => ?_) AllReadyH.nil)
          go_simp
          refine (HAT.out _ hHeld.1).mono ?_
          rintro e w3 ⟨rfl, hf3⟩
          go_wp2_with fail
          refine hK.out _ _ (HK.out _ _ hf3 hHeld) (fun hHeld3 => ?_)
          clear hK K hHeld
          try simp only [Act.put, List.setIfInBounds_toArray, List.set_cons_zero, List.set_cons_succ]
          refine held_yes 4 (v := ?_) rfl (by kernel_rfl) (by kernel_rfl) (by kernel_rfl) (fun _ _ _ h => h) (by kernel_rfl) (fun w hSw => ?_) (by assumption) ?_
          rotate_left
          · (try dsimp only at hSw); go_simp; (try with_reducible rfl)
          try simp only [Act.put, List.setIfInBounds_toArray, List.set_cons_zero, List.set_cons_succ]
          refine held_yes 5 (v := ?_) rfl (by kernel_rfl) (by kernel_rfl) (by kernel_rfl) (fun _ _ _ h => h) (by kernel_rfl) (fun w hSw => ?_) (by assumption) ?_
          rotate_left
          · (try dsimp only at hSw); go_simp; (try with_reducible rfl)
          try simp only [Act.put, List.setIfInBounds_toArray, List.set_cons_zero, List.set_cons_succ]
          refine held_yes 6 (v := ?_) rfl (by kernel_rfl) (by kernel_rfl) (by kernel_rfl) (fun _ _ _ h => h) (by kernel_rfl) (fun w hSw => ?_) (by assumption) ?_
          rotate_left
          · (try dsimp only at hSw); go_simp; (try with_reducible rfl)
          try simp only [Act.put, List.setIfInBounds_toArray, List.set_cons_zero, List.set_cons_succ]
          refine held_yes 7 (v := ?_) rfl (by kernel_rfl) (by kernel_rfl) (by kernel_rfl) (fun _ _ _ h => h) (by kernel_rfl) (fun w hSw => ?_) (by assumption) ?_
          rotate_left
          · (try dsimp only at hSw); go_simp; (try with_reducible rfl)
          try simp only [Act.put, List.setIfInBounds_toArray, List.set_cons_zero, List.set_cons_succ]
          try simp only [i5]
          refine held_yes 8 (v := ?_) rfl (by kernel_rfl) (by kernel_rfl) (by kernel_rfl) (fun _ _ _ h => h) (by kernel_rfl) (fun w hSw => ?_) (by assumption) ?_
          rotate_left
          · (try dsimp only at hSw); go_simp; (try with_reducible rfl)
          try simp only [Act.put, List.setIfInBounds_toArray, List.set_cons_zero, List.set_cons_succ]
          refine held_no 9 rfl (by kernel_rfl) (by kernel_rfl) (by kernel_rfl) (fun _ _ _ h => h) (by kernel_rfl) (by assumption) ?_
          try simp only [Act.put, List.setIfInBounds_toArray, List.set_cons_zero, List.set_cons_succ]
          refine held_no 10 rfl (by kernel_rfl) (by kernel_rfl) (by kernel_rfl) (fun _ _ _ h => h) (by kernel_rfl) (by assumption) ?_
          try simp only [Act.put, List.setIfInBounds_toArray, List.set_cons_zero, List.set_cons_succ]
          refine held_no 11 rfl (by kernel_rfl) (by kernel_rfl) (by kernel_rfl) (fun _ _ _ h => h) (by kernel_rfl) (by assumption) ?_
          try simp only [Act.put, List.setIfInBounds_toArray, List.set_cons_zero, List.set_cons_succ]
          refine held_no 12 rfl (by kernel_rfl) (by kernel_rfl) (by kernel_rfl) (fun _ _ _ h => h) (by kernel_rfl) (by assumption) ?_
          try simp only [Act.put, List.setIfInBounds_toArray, List.set_cons_zero, List.set_cons_succ]
          refine held_no 13 rfl (by kernel_rfl) (by kernel_rfl) (by kernel_rfl) (fun _ _ _ h => h) (by kernel_rfl) (by assumption) ?_
          try simp only [Act.put, List.setIfInBounds_toArray, List.set_cons_zero, List.set_cons_succ]
          refine held_no 14 rfl (by kernel_rfl) (by kernel_rfl) (by kernel_rfl) (fun _ _ _ h => h) (by kernel_rfl) (by assumption) ?_
          try simp only [Act.put, List.setIfInBounds_toArray, List.set_cons_zero, List.set_cons_succ]
          refine held_no 15 rfl (by kernel_rfl) (by kernel_rfl) (by kernel_rfl) (fun _ _ _ h => h) (by kernel_rfl) (by assumption) ?_
          try simp only [Act.put, List.setIfInBounds_toArray, List.set_cons_zero, List.set_cons_succ]
          refine held_no 16 rfl (by kernel_rfl) (by kernel_rfl) (by kernel_rfl) (fun _ _ _ h => h) (by kernel_rfl) (by assumption) ?_
          try simp only [Act.put, List.setIfInBounds_toArray, List.set_cons_zero, List.set_cons_succ]
          refine held_yes 17 (v := ?_) rfl (by kernel_rfl) (by kernel_rfl) (by kernel_rfl) (fun _ _ _ h => h) (by kernel_rfl) (fun w hSw => ?_) (by assumption) ?_
          rotate_left
          · (try dsimp only at hSw); go_simp; (try with_reducible rfl)
          try simp only [Act.put, List.setIfInBounds_toArray, List.set_cons_zero, List.set_cons_succ]
          refine held_yes 18 (v := ?_) rfl (by kernel_rfl) (by kernel_rfl) (by kernel_rfl) (fun _ _ _ h => h) (by kernel_rfl) (fun w hSw => ?_) (by assumption) ?_
          rotate_left
          · (try dsimp only at hSw); go_simp; (try with_reducible rfl)
          try simp only [Act.put, List.setIfInBounds_toArray, List.set_cons_zero, List.set_cons_succ]
          refine wpAnyH_done (by kernel_rfl) ?_ _
          go_wp2_with fail
          refine ⟨⟨k + 1, by omega, by go_num, frm_trans hfr hHeld3.1, hone.move (frm_lt hHeld3.1 _ hone.lt), HS2⟩, by simp [intOf]; omega⟩
        · obtain ⟨k0, hk0⟩ : ∃ k0, k = k0 + 1 := ⟨k - 1, by omega⟩
          have hlt0 : k0 < ts.length := by omega
          obtain ⟨b', o', q0, q1, hA', hb', hq0, hq1, hqt⟩ := (hs.frm hfr stays_ty).at2 k0 hlt0
          injection hA' with hA'
          injection hA' with hA1 hA2 hA3
          subst hA1 hA2
          obtain ⟨s2, A2, n2, c2, rfl, rfl⟩ := hqt.vals
          have hcat := order_calls ts[k0] ts[k]
          have HCT : Hid (∀ w', wr.grownBy w' none → Calls Tryd.prog 55 #[.agg #[.int .i64 s2, .slice A2 n2 c2], .agg #[.int .i64 s1, .slice A1 n1 c1]] w' (Ret w' (.int .i64 (Ty.cmp ts[k0] ts[k])))) :=
            fun w' hf => hcat w' _ _ _ _ (stays_ty _ _ _ _ hf hqt) (stays_ty _ _ _ _ hf hpt)
          clear hcat
          have HSD : Hid (Ty.fitSet n s (ts.drop k) (ahead ts k) = (Ty.fits n ts[k] s && decide (Ty.cmp ts[k0] ts[k] < 0) && Ty.fitSet n s (ts.drop (k + 1)) (ahead ts (k + 1)))) := by
            subst hk0
            exact Ty.fitSet_dropS n s ts k0 hlt
          rw [hfit] at HSD
          generalize Ty.cmp ts[k0] ts[k] = z at *
          clear hfit
          have y0 := frm_cell hf8 hq0
          have y1 := frm_cell hf8 hq1
          have i1 : IntKind.i64.wrap ((k : Int) - 1) = (k : Int) - 1 := by rw [IntKind.wrap_i64]; omega
          have i2 : (0 : Int) ≤ (k : Int) - 1 := by omega
          have i3 : (k : Int) - 1 < (ts.length : Int) := by omega
          have i4 : ((k : Int) - 1).toNat = k0 := by omega
          have i6 : (1 : Int) ≤ (k : Int) := by omega
          have i5 : decide (0 < k) = true := by rw [decide_eq_true_iff]; omega
          have HK0E := Lib.hid hk0
          clear hk0 h0
          have HK : Hid (∀ w1 w2 : World, w1.grownBy w2 none → (wr.grownBy w1 none ∧ w1.cell? ⟨w.heap.size, 0, none⟩ = some (.slice B m d) ∧ w1.cell? ⟨wr.heap.size, 0, none⟩ = some (.int .i64 s1) ∧ w1.cell? ⟨wr.heap.size, 1, none⟩ = some (.slice A1 n1 c1) ∧ w1.cell? ⟨b, o + k0 * 2, none⟩ = some (.int .i64 s2) ∧ w1.cell? ⟨b, o + k0 * 2 + 1, none⟩ = some (.slice A2 n2 c2)) → (wr.grownBy w2 none ∧ w2.cell? ⟨w.heap.size, 0, none⟩ = some (.slice B m d) ∧ w2.cell? ⟨wr.heap.size, 0, none⟩ = some (.int .i64 s1) ∧ w2.cell? ⟨wr.heap.size, 1, none⟩ = some (.slice A1 n1 c1) ∧ w2.cell? ⟨b, o + k0 * 2, none⟩ = some (.int .i64 s2) ∧ w2.cell? ⟨b, o + k0 * 2 + 1, none⟩ = some (.slice A2 n2 c2))) := fun w1 w2 hf h => ⟨frm_trans h.1 hf, frm_cell hf h.2.1, frm_cell hf h.2.2.1, frm_cell hf h.2.2.2.1, frm_cell hf h.2.2.2.2.1, frm_cell hf h.2.2.2.2.2⟩
          go_wp2_with fail
          generalize wr.alloc (.cells #[.int .i64 s1, .slice A1 n1 c1] 24) = w8 at *
          refine wp_region_held_drew (S := fun w' => (wr.grownBy w' none ∧ w'.cell? ⟨w.heap.size, 0, none⟩ = some (.slice B m d) ∧ w'.cell? ⟨wr.heap.size, 0, none⟩ = some (.int .i64 s1) ∧ w'.cell? ⟨wr.heap.size, 1, none⟩ = some (.slice A1 n1 c1) ∧ w'.cell? ⟨b, o + k0 * 2, none⟩ = some (.int .i64 s2) ∧ w'.cell? ⟨b, o + k0 * 2 + 1, none⟩ = some (.slice A2 n2 c2))) (by kernel_rfl) ⟨frm_trans hf8 (frm_drew _), hcell, x0, x1, y0, y1⟩ (fun hHeld => ?_)
          refine held_yes 0 (v := ?_) rfl (by kernel_rfl) (by kernel_rfl) (by kernel_rfl) (fun _ _ _ h => h) (by kernel_rfl) (fun w hSw => ?_) (by assumption) ?_
          rotate_left
          · (try dsimp only at hSw); go_simp; (try with_reducible rfl)
          try simp only [Act.put, List.setIfInBounds_toArray, List.set_cons_zero, List.set_cons_succ]
          refine held_yes 1 (v := ?_) rfl (by kernel_rfl) (by kernel_rfl) (by kernel_rfl) (fun _ _ _ h => h) (by kernel_rfl) (fun w hSw => ?_) (by assumption) ?_
          rotate_left
          · (try dsimp only at hSw); go_simp; (try with_reducible rfl)
          try simp only [Act.put, List.setIfInBounds_toArray, List.set_cons_zero, List.set_cons_succ]
          refine held_yes 2 (v := ?_) rfl (by kernel_rfl) (by kernel_rfl) (by kernel_rfl) (fun _ _ _ h => h) (by kernel_rfl) (fun w hSw => ?_) (by assumption) ?_
          rotate_left
          · (try dsimp only at hSw); go_simp; (try with_reducible rfl)
          try simp only [Act.put, List.setIfInBounds_toArray, List.set_cons_zero, List.set_cons_succ]
          refine wpAnyH_ready (rs := [3]) (by kernel_rfl) (by simp) (AllReadyH.cons rfl (fun K hK => ?_) AllReadyH.nil)
          go_simp
          refine (HAT.out _ hHeld.1).mono ?_
          rintro e w3 ⟨rfl, hf3⟩
          go_wp2_with fail
          refine hK.out _ _ (HK.out _ _ hf3 hHeld) (fun hHeld3 => ?_)
          clear hK K hHeld
          try simp only [Act.put, List.setIfInBounds_toArray, List.set_cons_zero, List.set_cons_succ]
          refine held_yes 4 (v := ?_) rfl (by kernel_rfl) (by kernel_rfl) (by kernel_rfl) (fun _ _ _ h => h) (by kernel_rfl) (fun w hSw => ?_) (by assumption) ?_
          rotate_left
          · (try dsimp only at hSw); go_simp; (try with_reducible rfl)
          try simp only [Act.put, List.setIfInBounds_toArray, List.set_cons_zero, List.set_cons_succ]
          refine held_yes 5 (v := ?_) rfl (by kernel_rfl) (by kernel_rfl) (by kernel_rfl) (fun _ _ _ h => h) (by kernel_rfl) (fun w hSw => ?_) (by assumption) ?_
          rotate_left
          · (try dsimp only at hSw); go_simp; (try with_reducible rfl)
          try simp only [Act.put, List.setIfInBounds_toArray, List.set_cons_zero, List.set_cons_succ]
          refine held_yes 6 (v := ?_) rfl (by kernel_rfl) (by kernel_rfl) (by kernel_rfl) (fun _ _ _ h => h) (by kernel_rfl) (fun w hSw => ?_) (by assumption) ?_
          rotate_left
          · (try dsimp only at hSw); go_simp; (try with_reducible rfl)
          try simp only [Act.put, List.setIfInBounds_toArray, List.set_cons_zero, List.set_cons_succ]
          refine held_yes 7 (v := ?_) rfl (by kernel_rfl) (by kernel_rfl) (by kernel_rfl) (fun _ _ _ h => h) (by kernel_rfl) (fun w hSw => ?_) (by assumption) ?_
          rotate_left
          · (try dsimp only at hSw); go_simp; (try with_reducible rfl)
          try simp only [Act.put, List.setIfInBounds_toArray, List.set_cons_zero, List.set_cons_succ]
          try simp only [i5]
          refine held_yes 8 (v := ?_) rfl (by kernel_rfl) (by kernel_rfl) (by kernel_rfl) (fun _ _ _ h => h) (by kernel_rfl) (fun w hSw => ?_) (by assumption) ?_
          rotate_left
          · (try dsimp only at hSw); go_simp; (try with_reducible rfl)
          try simp only [Act.put, List.setIfInBounds_toArray, List.set_cons_zero, List.set_cons_succ]
          refine held_yes 9 (v := ?_) rfl (by kernel_rfl) (by kernel_rfl) (by kernel_rfl) (fun _ _ _ h => h) (by kernel_rfl) (fun w hSw => ?_) (by assumption) ?_
          rotate_left
          · (try dsimp only at hSw); go_simp; (try with_reducible rfl)
          try simp only [Act.put, List.setIfInBounds_toArray, List.set_cons_zero, List.set_cons_succ]
          refine held_yes 10 (v := ?_) rfl (by kernel_rfl) (by kernel_rfl) (by kernel_rfl) (fun _ _ _ h => h) (by kernel_rfl) (fun w hSw => ?_) (by assumption) ?_
          rotate_left
          · (try dsimp only at hSw); go_simp; (try with_reducible rfl)
          try simp only [Act.put, List.setIfInBounds_toArray, List.set_cons_zero, List.set_cons_succ]
          refine held_yes 11 (v := ?_) rfl (by kernel_rfl) (by kernel_rfl) (by kernel_rfl) (fun _ _ _ h => h) (by kernel_rfl) (fun w hSw => ?_) (by assumption) ?_
          rotate_left
          · (try dsimp only at hSw); go_simp; (try with_reducible rfl)
          try simp only [Act.put, List.setIfInBounds_toArray, List.set_cons_zero, List.set_cons_succ]
          refine held_yes 12 (v := ?_) rfl (by kernel_rfl) (by kernel_rfl) (by kernel_rfl) (fun _ _ _ h => h) (by kernel_rfl) (fun w hSw => ?_) (by assumption) ?_
          rotate_left
          · (try dsimp only at hSw); go_simp; (try with_reducible rfl)
          try simp only [Act.put, List.setIfInBounds_toArray, List.set_cons_zero, List.set_cons_succ]
          refine held_yes 13 (v := ?_) rfl (by kernel_rfl) (by kernel_rfl) (by kernel_rfl) (fun _ _ _ h => h) (by kernel_rfl) (fun w hSw => ?_) (by assumption) ?_
          rotate_left
          · (try dsimp only at hSw); go_simp; (try with_reducible rfl)
          try simp only [Act.put, List.setIfInBounds_toArray, List.set_cons_zero, List.set_cons_succ]
          refine held_yes 14 (v := ?_) rfl (by kernel_rfl) (by kernel_rfl) (by kernel_rfl) (fun _ _ _ h => h) (by kernel_rfl) (fun w hSw => ?_) (by assumption) ?_
          rotate_left
          · (try dsimp only at hSw); go_simp; (try with_reducible rfl)
          try simp only [Act.put, List.setIfInBounds_toArray, List.set_cons_zero, List.set_cons_succ]
          refine wpAnyH_ready (rs := [15]) (by kernel_rfl) (by simp) (AllReadyH.cons rfl (fun K hK => ?_) AllReadyH.nil)
          go_simp
          refine (HCT.out _ hHeld3.1).mono ?_
          rintro e w4 ⟨rfl, hf4⟩
          go_wp2_with fail
          refine hK.out _ _ (HK.out _ _ hf4 hHeld3) (fun hHeld4 => ?_)
          clear hK K hHeld3
          try simp only [Act.put, List.setIfInBounds_toArray, List.set_cons_zero, List.set_cons_succ]
          refine held_yes 16 (v := ?_) rfl (by kernel_rfl) (by kernel_rfl) (by kernel_rfl) (fun _ _ _ h => h) (by kernel_rfl) (fun w hSw => ?_) (by assumption) ?_
          rotate_left
          · (try dsimp only at hSw); go_simp; (try with_reducible rfl)
          try simp only [Act.put, List.setIfInBounds_toArray, List.set_cons_zero, List.set_cons_succ]
          refine held_yes 17 (v := ?_) rfl (by kernel_rfl) (by kernel_rfl) (by kernel_rfl) (fun _ _ _ h => h) (by kernel_rfl) (fun w hSw => ?_) (by assumption) ?_
          rotate_left
          · (try dsimp only at hSw); go_simp; (try with_reducible rfl)
          try simp only [Act.put, List.setIfInBounds_toArray, List.set_cons_zero, List.set_cons_succ]
          refine held_yes 18 (v := ?_) rfl (by kernel_rfl) (by kernel_rfl) (by kernel_rfl) (fun _ _ _ h => h) (by kernel_rfl) (fun w hSw => ?_) (by assumption) ?_
          rotate_left
          · (try dsimp only at hSw); go_simp; (try with_reducible rfl)
          try simp only [Act.put, List.setIfInBounds_toArray, List.set_cons_zero, List.set_cons_succ]
          refine wpAnyH_done (by kernel_rfl) ?_ _
          by_cases hz : z < 0
          · have hz2 : Hid (Ty.fitSet n s ts none = Ty.fitSet n s (ts.drop (k + 1)) (ahead ts (k + 1))) := by
              unfold Hid
              rw [HS.out, HSD.out]
              simp [hz]
            go_wp2_with fail
            exact ⟨⟨k + 1, by omega, by go_num, frm_trans hfr hHeld4.1, hone.move (frm_lt hHeld4.1 _ hone.lt), hz2⟩, by simp [intOf]; omega⟩
          · have hz2 : Hid (Ty.fitSet n s ts none = false) := by
              unfold Hid
              rw [HS.out, HSD.out]
              simp [hz]
            go_wp2_with fail
            refine bodyPost_ret (results_tmp rfl _ _ _) rfl ⟨?_, frm_trans hfr hHeld4.1⟩
            rw [hz2.out]
            rfl
      · have hfit : Ty.fits n ts[k] s = false := by simpa using hfit
        rw [hfit] at HAT
        have HS2 : Hid (Ty.fitSet n s ts none = false) := by
          unfold Hid
          rw [HS.out]
          match k, hlt with
          | 0, hlt => rw [Ty.fitSet_drop0 n s ts hlt, hfit]; rfl
          | k + 1, hlt => rw [Ty.fitSet_dropS n s ts k hlt, hfit]; rfl
        clear HS hfit
        have HK : Hid (∀ w1 w2 : World, w1.grownBy w2 none → (wr.grownBy w1 none ∧ w1.cell? ⟨w.heap.size, 0, none⟩ = some (.slice B m d) ∧ w1.cell? ⟨wr.heap.size, 0, none⟩ = some (.int .i64 s1) ∧ w1.cell? ⟨wr.heap.size, 1, none⟩ = some (.slice A1 n1 c1)) → (wr.grownBy w2 none ∧ w2.cell? ⟨w.heap.size, 0, none⟩ = some (.slice B m d) ∧ w2.cell? ⟨wr.heap.size, 0, none⟩ = some (.int .i64 s1) ∧ w2.cell? ⟨wr.heap.size, 1, none⟩ = some (.slice A1 n1 c1))) := fun w1 w2 hf h => ⟨frm_trans h.1 hf, frm_cell hf h.2.1, frm_cell hf h.2.2.1, frm_cell hf h.2.2.2⟩
        go_wp2_with fail
        generalize wr.alloc (.cells #[.int .i64 s1, .slice A1 n1 c1] 24) = w8 at *
        refine wp_region_held_drew (S := fun w' => (wr.grownBy w' none ∧ w'.cell? ⟨w.heap.size, 0, none⟩ = some (.slice B m d) ∧ w'.cell? ⟨wr.heap.size, 0, none⟩ = some (.int .i64 s1) ∧ w'.cell? ⟨wr.heap.size, 1, none⟩ = some (.slice A1 n1 c1))) (by kernel_rfl) ⟨frm_trans hf8 (frm_drew _), hcell, x0, x1⟩ (fun hHeld => ?_)
        refine held_yes 0 (v := ?_) rfl (by kernel_rfl) (by kernel_rfl) (by kernel_rfl) (fun _ _ _ h => h) (by kernel_rfl) (fun w hSw => ?_) (by assumption) ?_
        rotate_left
        · (try dsimp only at hSw); go_simp; (try with_reducible rfl)
        try simp only [Act.put, List.setIfInBounds_toArray, List.set_cons_zero, List.set_cons_succ]
        refine held_yes 1 (v := ?_) rfl (by kernel_rfl) (by kernel_rfl) (by kernel_rfl) (fun _ _ _ h => h) (by kernel_rfl) (fun w hSw => ?_) (by assumption) ?_
        rotate_left
        · (try dsimp only at hSw); go_simp; (try with_reducible rfl)
        try simp only [Act.put, List.setIfInBounds_toArray, List.set_cons_zero, List.set_cons_succ]
        refine held_yes 2 (v := ?_) rfl (by kernel_rfl) (by kernel_rfl) (by kernel_rfl) (fun _ _ _ h => h) (by kernel_rfl) (fun w hSw => ?_) (by assumption) ?_
        rotate_left
        · (try dsimp only at hSw); go_simp; (try with_reducible rfl)
        try simp only [Act.put, List.setIfInBounds_toArray, List.set_cons_zero, List.set_cons_succ]
        refine wpAnyH_ready (rs := [3]) (by kernel_rfl) (by simp) (AllReadyH.cons rfl (fun K hK => ?_) AllReadyH.nil)
        go_simp
        refine (HAT.out _ hHeld.1).mono ?_
        rintro e w3 ⟨rfl, hf3⟩
        go_wp2_with fail
        refine hK.out _ _ (HK.out _ _ hf3 hHeld) (fun hHeld3 => ?_)
        clear hK K hHeld
        try simp only [Act.put, List.setIfInBounds_toArray, List.set_cons_zero, List.set_cons_succ]
        refine held_yes 4 (v := ?_) rfl (by kernel_rfl) (by kernel_rfl) (by kernel_rfl) (fun _ _ _ h => h) (by kernel_rfl) (fun w hSw => ?_) (by assumption) ?_
        rotate_left
        · (try dsimp only at hSw); go_simp; (try with_reducible rfl)
        try simp only [Act.put, List.setIfInBounds_toArray, List.set_cons_zero, List.set_cons_succ]
        refine held_yes 5 (v := ?_) rfl (by kernel_rfl) (by kernel_rfl) (by kernel_rfl) (fun _ _ _ h => h) (by kernel_rfl) (fun w hSw => ?_) (by assumption) ?_
        rotate_left
        · (try dsimp only at hSw); go_simp; (try with_reducible rfl)
        try simp only [Act.put, List.setIfInBounds_toArray, List.set_cons_zero, List.set_cons_succ]
        refine held_no 6 rfl (by kernel_rfl) (by kernel_rfl) (by kernel_rfl) (fun _ _ _ h => h) (by kernel_rfl) (by assumption) ?_
        try simp only [Act.put, List.setIfInBounds_toArray, List.set_cons_zero, List.set_cons_succ]
        refine held_no 7 rfl (by kernel_rfl) (by kernel_rfl) (by kernel_rfl) (fun _ _ _ h => h) (by kernel_rfl) (by assumption) ?_
        try simp only [Act.put, List.setIfInBounds_toArray, List.set_cons_zero, List.set_cons_succ]
        refine held_no 8 rfl (by kernel_rfl) (by kernel_rfl) (by kernel_rfl) (fun _ _ _ h => h) (by kernel_rfl) (by assumption) ?_
        try simp only [Act.put, List.setIfInBounds_toArray, List.set_cons_zero, List.set_cons_succ]
        refine held_no 9 rfl (by kernel_rfl) (by kernel_rfl) (by kernel_rfl) (fun _ _ _ h => h) (by kernel_rfl) (by assumption) ?_
        try simp only [Act.put, List.setIfInBounds_toArray, List.set_cons_zero, List.set_cons_succ]
        refine held_no 10 rfl (by kernel_rfl) (by kernel_rfl) (by kernel_rfl) (fun _ _ _ h => h) (by kernel_rfl) (by assumption) ?_
        try simp only [Act.put, List.setIfInBounds_toArray, List.set_cons_zero, List.set_cons_succ]
        refine held_no 11 rfl (by kernel_rfl) (by kernel_rfl) (by kernel_rfl) (fun _ _ _ h => h) (by kernel_rfl) (by assumption) ?_
        try simp only [Act.put, List.setIfInBounds_toArray, List.set_cons_zero, List.set_cons_succ]
        refine held_no 12 rfl (by kernel_rfl) (by kernel_rfl) (by kernel_rfl) (fun _ _ _ h => h) (by kernel_rfl) (by assumption) ?_
        try simp only [Act.put, List.setIfInBounds_toArray, List.set_cons_zero, List.set_cons_succ]
        refine held_no 13 rfl (by kernel_rfl) (by kernel_rfl) (by kernel_rfl) (fun _ _ _ h => h) (by kernel_rfl) (by assumption) ?_
        try simp only [Act.put, List.setIfInBounds_toArray, List.set_cons_zero, List.set_cons_succ]
        refine held_no 14 rfl (by kernel_rfl) (by kernel_rfl) (by kernel_rfl) (fun _ _ _ h => h) (by kernel_rfl) (by assumption) ?_
        try simp only [Act.put, List.setIfInBounds_toArray, List.set_cons_zero, List.set_cons_succ]
        refine held_no 15 rfl (by kernel_rfl) (by kernel_rfl) (by kernel_rfl) (fun _ _ _ h => h) (by kernel_rfl) (by assumption) ?_
        try simp only [Act.put, List.setIfInBounds_toArray, List.set_cons_zero, List.set_cons_succ]
        refine held_no 16 rfl (by kernel_rfl) (by kernel_rfl) (by kernel_rfl) (fun _ _ _ h => h) (by kernel_rfl) (by assumption) ?_
        try simp only [Act.put, List.setIfInBounds_toArray, List.set_cons_zero, List.set_cons_succ]
        refine held_no 17 rfl (by kernel_rfl) (by kernel_rfl) (by kernel_rfl) (fun _ _ _ h => h) (by kernel_rfl) (by assumption) ?_
        try simp only [Act.put, List.setIfInBounds_toArray, List.set_cons_zero, List.set_cons_succ]
        refine held_yes 18 (v := ?_) rfl (by kernel_rfl) (by kernel_rfl) (by kernel_rfl) (fun _ _ _ h => h) (by kernel_rfl) (fun w hSw => ?_) (by assumption) ?_
        rotate_left
        · (try dsimp only at hSw); go_simp; (try with_reducible rfl)
        try simp only [Act.put, List.setIfInBounds_toArray, List.set_cons_zero, List.set_cons_succ]
        refine wpAnyH_done (by kernel_rfl) ?_ _
        go_wp2_with fail
        refine bodyPost_ret (results_tmp rfl _ _ _) rfl ⟨?_, frm_trans hfr hHeld3.1⟩
        rw [HS2.out]
        rfl
    · obtain rfl : k = ts.length := by omega
      have HS2 : Hid (Ty.fitSet n s ts none = true) := by
        unfold Hid
        rw [HS.out, Ty.fitSet_end]
      go_wp2_with fail
      refine bodyPost_ret (results_tmp rfl _ _ _) rfl ⟨?_, hfr⟩
      rw [HS2.out]
      rfl

set_option maxRecDepth 100000 in
set_option maxHeartbeats 4000000 in
theorem fits_calls (n : Int) : ∀ t : Ty, fitsAt n t := by
  intro t
  induction t using Ty.ind with
  | h st args ih =>
    intro w s a0 v0 v1 ha ht
    rw [TyO_mk] at ht
    obtain ⟨v, hcs, h1, h2, hs⟩ := ht
    obtain ⟨rfl, rfl⟩ : v0 = .int .i64 st ∧ v1 = v := by simpa using hcs
    obtain ⟨A, c, rfl, hc, hm⟩ := hs.val
    have hss := SrtO_mk ha
    obtain ⟨B, d, rfl, hd, hdm⟩ := hss.val
    clear hcs
    have IH : Hid (∀ ts ∈ args, ∀ (w : World) (s : Srt) (a0 v : Value), SrtO w s [a0] → SetO w ts [v] → Calls Tryd.prog 64 #[.agg #[a0], .int .i64 n, v] w (Ret w (.bool (Ty.fitSet n s ts none)))) :=
      fun ts hts w s a0 v ha hv => fitsSet_calls n ts (ih ts hts) w s a0 v ha hv
    clear ih
    have HF := Lib.hid (Ty.fits_mk n st args s)
    have hfr0 := frm_then_alloc (frm_alloc w (.cells #[.slice B s.args.length d] 43)) (.cells #[.int .i64 st, .slice A args.length c] 24)
    have hbs := (OneAt.new w (.slice B s.args.length d) 43).alloc (.cells #[.int .i64 st, .slice A args.length c] 24)
    clear ha
    go_enter Tryd.func58, Tryd.ntmps58
    by_cases hst0 : st < 0
    · have HN : Hid (Ty.fits n (.mk st args) s = false) := by
        unfold Hid
        rw [HF.out]
        simp [show ¬ 0 ≤ st by omega]
      go_wp2_with fail
      refine bodyPost_ret (results_tmp rfl _ _ _) rfl ⟨?_, hfr0⟩
      rw [HN.out]
      rfl
    by_cases hst1 : n ≤ st
    · have HN : Hid (Ty.fits n (.mk st args) s = false) := by
        unfold Hid
        rw [HF.out]
        simp [show ¬ st < n by omega]
      go_wp2_with fail
      refine bodyPost_ret (results_tmp rfl _ _ _) rfl ⟨?_, hfr0⟩
      rw [HN.out]
      rfl
    by_cases hlen : args.length = s.args.length
    · have HN : Hid (Ty.fits n (.mk st args) s = Ty.fitRows n args s.args) := by
        unfold Hid
        rw [HF.out]
        simp [show st < n by omega, show 0 ≤ st by omega, hlen]
      have hlb : ((args.length : Int) != (s.args.length : Int)) = false := by simp [hlen]
      have HLEN := Lib.hid hlen
      clear hlen
      go_wp2_with fail
      go_loopw [30] (fun i wr => ∃ k : Nat, k ≤ args.length ∧ i = .int .i64 k ∧ w.grownBy wr none ∧ OneAt wr w.heap.size (.slice B s.args.length d) 43 ∧ Hid (Ty.fitRows n args s.args = Ty.fitRows n (args.drop k) (s.args.drop k))) (fun i _ => args.length - (intOf i).toNat)
      case atStart => exact ⟨0, Nat.zero_le _, rfl, hfr0, hbs, rfl⟩
      case round =>
        obtain ⟨k, hk, rfl, hfr, hone, HS⟩ := hrel
        have hcell := hone.cell
        by_cases hlt : k < args.length
        · have hlt2 : k < s.args.length := by rw [← HLEN.out]; exact hlt
          obtain ⟨b, o, p0, rfl, hb, hp0, hpt⟩ := (hs.frm hfr stays_set).at1 k hlt
          obtain ⟨b2, o2, q0, rfl, hb2, hq0, hqt⟩ := (hss.frm hfr stays_srt).at1 k hlt2
          obtain ⟨A2, m2, c2, hcs2⟩ := SrtR_len hqt
          obtain rfl : q0 = .slice A2 m2 c2 := by simpa using hcs2
          obtain ⟨A3, c3, rfl, _, _⟩ := (SetO.sl hpt).val
          have HD := Lib.hid (Ty.fitRows_drop n args s.args k hlt hlt2)
          have hmem : args[k] ∈ args := List.getElem_mem hlt
          clear hcs2
          generalize args[k] = ts at *
          generalize s.args[k] = s2 at *
          go_wp2_with fail
          refine (IH.out _ hmem _ _ _ _ hqt hpt).mono ?_
          rintro e w1 ⟨rfl, hf1⟩
          cases hfit : Ty.fitSet n s2 ts none
          · have HW := Lib.hid hfit
            clear hfit
            go_wp2_with fail
            refine bodyPost_ret (results_tmp rfl _ _ _) rfl ⟨?_, frm_trans hfr hf1⟩
            rw [HN.out, HS.out, HD.out, HW.out]
            rfl
          · have HW := Lib.hid hfit
            clear hfit
            go_wp2_with fail
            refine ⟨⟨k + 1, by omega, by go_num, frm_trans hfr hf1, hone.move (frm_lt hf1 _ hone.lt), ?_⟩, by simp [intOf]; omega⟩
            unfold Hid
            rw [HS.out, HD.out, HW.out]
            rfl
        · obtain rfl : k = args.length := by omega
          have HT : Hid (Ty.fits n (.mk st args) s = true) := by
            unfold Hid
            rw [HN.out, HS.out, Ty.fitRows_end]
          go_wp2_with fail
          refine bodyPost_ret (results_tmp rfl _ _ _) rfl ⟨?_, hfr⟩
          rw [HT.out]
          rfl
    · have HN : Hid (Ty.fits n (.mk st args) s = false) := by
        unfold Hid
        rw [HF.out]
        simp [hlen]
      have hlb : ((args.length : Int) != (s.args.length : Int)) = true := by rw [bne_iff_ne]; omega
      clear hlen
      go_wp2_with fail
      refine bodyPost_ret (results_tmp rfl _ _ _) rfl ⟨?_, hfr0⟩
      rw [HN.out]
      rfl


/-- What virgation/virgationref12.shaped's contract says of a type. -/
def shapedAt (n : Int) (t : Ty) : Prop := ∀ (w : World) (s : Srt) (a0 v0 v1 : Value), SrtO w s [a0] → TyO w t [v0, v1] →
  Calls Tryd.prog 89 #[.agg #[a0], .int .i64 n, .agg #[v0, v1]] w (Ret w (.bool (Ty.fits n t s)))

set_option maxRecDepth 100000 in
set_option maxHeartbeats 4000000 in
theorem shapedSet_calls (n : Int) (ts : List Ty) (IH : ∀ t ∈ ts, shapedAt n t) (w : World) (s : Srt) (a0 v : Value) (ha : SrtO w s [a0]) (hv : SetO w ts [v]) :
    Calls Tryd.prog 91 #[.agg #[a0], .int .i64 n, v] w (Ret w (.bool (Ty.fitSet n s ts none))) := by
  have hs := SetO.sl hv
  obtain ⟨A, c, rfl, hc, hm⟩ := hs.val
  obtain ⟨B, m, d, hcs⟩ := SrtR_len ha
  obtain rfl : a0 = .slice B m d := by simpa using hcs
  have HI := Lib.hid IH
  have HA := Lib.hid ha
  have hbox := OneAt.new w (.slice B m d) 43
  clear IH hv hcs ha
  go_enter Tryd.func91, Tryd.ntmps91
  go_wp2_with fail
  go_loopw [11] (fun i wr => ∃ k : Nat, k ≤ ts.length ∧ i = .int .i64 k ∧ w.grownBy wr none ∧ OneAt wr w.heap.size (.slice B m d) 43 ∧ Hid (Ty.fitSet n s ts none = Ty.fitSet n s (ts.drop k) (ahead ts k))) (fun i _ => ts.length - (intOf i).toNat)
  case atStart => exact ⟨0, Nat.zero_le _, rfl, frm_alloc _ _, hbox, rfl⟩
  case round =>
    obtain ⟨k, hk, rfl, hfr, hone, HS⟩ := hrel
    by_cases hlt : k < ts.length
    · obtain ⟨b, o, p0, p1, rfl, hb, hp0, hp1, hpt⟩ := (hs.frm hfr stays_ty).at2 k hlt
      obtain ⟨s1, A1, n1, c1, rfl, rfl⟩ := hpt.vals
      have hat := HI.out _ (List.getElem_mem hlt)
      have HAT : Hid (∀ w', wr.grownBy w' none → Calls Tryd.prog 89 #[.agg #[.slice B m d], .int .i64 n, .agg #[.int .i64 s1, .slice A1 n1 c1]] w' (Ret w' (.bool (Ty.fits n ts[k] s)))) :=
        fun w' hf => hat w' s _ _ _ (stays_srt _ _ _ _ (frm_trans hfr hf) HA.out) (stays_ty _ _ _ _ hf hpt)
      clear hat
      have hf8 := frm_alloc wr (.cells #[.int .i64 s1, .slice A1 n1 c1] 24)
      have hx := TwoAt.new wr (.int .i64 s1) (.slice A1 n1 c1) 24
      have hone8 := hone.alloc (.cells #[.int .i64 s1, .slice A1 n1 c1] 24)
      have hcell := hone8.cell
      obtain ⟨x0, x1, _, _⟩ := hx.cells
      by_cases hfit : Ty.fits n ts[k] s = true
      · rw [hfit] at HAT
        rcases Nat.eq_zero_or_pos k with h0 | h0
        · have HS2 : Hid (Ty.fitSet n s ts none = Ty.fitSet n s (ts.drop (k + 1)) (ahead ts (k + 1))) := by
            unfold Hid
            rw [HS.out]
            subst h0
            rw [Ty.fitSet_drop0 n s ts hlt, hfit]
            rfl
          have H0 := Lib.hid h0
          clear HS hfit
          have HK : Hid (∀ w1 w2 : World, w1.grownBy w2 none → (wr.grownBy w1 none ∧ w1.cell? ⟨w.heap.size, 0, none⟩ = some (.slice B m d) ∧ w1.cell? ⟨wr.heap.size, 0, none⟩ = some (.int .i64 s1) ∧ w1.cell? ⟨wr.heap.size, 1, none⟩ = some (.slice A1 n1 c1)) → (wr.grownBy w2 none ∧ w2.cell? ⟨w.heap.size, 0, none⟩ = some (.slice B m d) ∧ w2.cell? ⟨wr.heap.size, 0, none⟩ = some (.int .i64 s1) ∧ w2.cell? ⟨wr.heap.size, 1, none⟩ = some (.slice A1 n1 c1))) := fun w1 w2 hf h => ⟨frm_trans h.1 hf, frm_cell hf h.2.1, frm_cell hf h.2.2.1, frm_cell hf h.2.2.2⟩
          have i5 : decide (0 < k) = false := by rw [decide_eq_false_iff_not]; omega
          clear h0
          go_wp2_with fail
          generalize wr.alloc (.cells #[.int .i64 s1, .slice A1 n1 c1] 24) = w8 at *
          refine wp_region_held_drew (S := fun w' => (wr.grownBy w' none ∧ w'.cell? ⟨w.heap.size, 0, none⟩ = some (.slice B m d) ∧ w'.cell? ⟨wr.heap.size, 0, none⟩ = some (.int .i64 s1) ∧ w'.cell? ⟨wr.heap.size, 1, none⟩ = some (.slice A1 n1 c1))) (by kernel_rfl) ⟨frm_trans hf8 (frm_drew _), hcell, x0, x1⟩ (fun hHeld => ?_)
          refine held_yes 0 (v := ?_) rfl (by kernel_rfl) (by kernel_rfl) (by kernel_rfl) (fun _ _ _ h => h) (by kernel_rfl) (fun w hSw => ?_) (by assumption) ?_
          rotate_left
          · (try dsimp only at hSw); go_simp; (try with_reducible rfl)
          try simp only [Act.put, List.setIfInBounds_toArray, List.set_cons_zero, List.set_cons_succ]
          refine held_yes 1 (v := ?_) rfl (by kernel_rfl) (by kernel_rfl) (by kernel_rfl) (fun _ _ _ h => h) (by kernel_rfl) (fun w hSw => ?_) (by assumption) ?_
          rotate_left
          · (try dsimp only at hSw); go_simp; (try with_reducible rfl)
          try simp only [Act.put, List.setIfInBounds_toArray, List.set_cons_zero, List.set_cons_succ]
          refine held_yes 2 (v := ?_) rfl (by kernel_rfl) (by kernel_rfl) (by kernel_rfl) (fun _ _ _ h => h) (by kernel_rfl) (fun w hSw => ?_) (by assumption) ?_
          rotate_left
          · (try dsimp only at hSw); go_simp; (try with_reducible rfl)
          try simp only [Act.put, List.setIfInBounds_toArray, List.set_cons_zero, List.set_cons_succ]
          refine wpAnyH_ready (rs := [3]) (by kernel_rfl) (by simp) (AllReadyH.cons rfl (fun K hK => ?_) AllReadyH.nil)
          go_simp
          refine (HAT.out _ hHeld.1).mono ?_
          rintro e w3 ⟨rfl, hf3⟩
          go_wp2_with fail
          refine hK.out _ _ (HK.out _ _ hf3 hHeld) (fun hHeld3 => ?_)
          clear hK K hHeld
          try simp only [Act.put, List.setIfInBounds_toArray, List.set_cons_zero, List.set_cons_succ]
          refine held_yes 4 (v := ?_) rfl (by kernel_rfl) (by kernel_rfl) (by kernel_rfl) (fun _ _ _ h => h) (by kernel_rfl) (fun w hSw => ?_) (by assumption) ?_
          rotate_left
          · (try dsimp only at hSw); go_simp; (try with_reducible rfl)
          try simp only [Act.put, List.setIfInBounds_toArray, List.set_cons_zero, List.set_cons_succ]
          refine held_yes 5 (v := ?_) rfl (by kernel_rfl) (by kernel_rfl) (by kernel_rfl) (fun _ _ _ h => h) (by kernel_rfl) (fun w hSw => ?_) (by assumption) ?_
          rotate_left
          · (try dsimp only at hSw); go_simp; (try with_reducible rfl)
          try simp only [Act.put, List.setIfInBounds_toArray, List.set_cons_zero, List.set_cons_succ]
          refine held_yes 6 (v := ?_) rfl (by kernel_rfl) (by kernel_rfl) (by kernel_rfl) (fun _ _ _ h => h) (by kernel_rfl) (fun w hSw => ?_) (by assumption) ?_
          rotate_left
          · (try dsimp only at hSw); go_simp; (try with_reducible rfl)
          try simp only [Act.put, List.setIfInBounds_toArray, List.set_cons_zero, List.set_cons_succ]
          refine held_yes 7 (v := ?_) rfl (by kernel_rfl) (by kernel_rfl) (by kernel_rfl) (fun _ _ _ h => h) (by kernel_rfl) (fun w hSw => ?_) (by assumption) ?_
          rotate_left
          · (try dsimp only at hSw); go_simp; (try with_reducible rfl)
          try simp only [Act.put, List.setIfInBounds_toArray, List.set_cons_zero, List.set_cons_succ]
          try simp only [i5]
          refine held_yes 8 (v := ?_) rfl (by kernel_rfl) (by kernel_rfl) (by kernel_rfl) (fun _ _ _ h => h) (by kernel_rfl) (fun w hSw => ?_) (by assumption) ?_
          rotate_left
          · (try dsimp only at hSw); go_simp; (try with_reducible rfl)
          try simp only [Act.put, List.setIfInBounds_toArray, List.set_cons_zero, List.set_cons_succ]
          refine held_no 9 rfl (by kernel_rfl) (by kernel_rfl) (by kernel_rfl) (fun _ _ _ h => h) (by kernel_rfl) (by assumption) ?_
          try simp only [Act.put, List.setIfInBounds_toArray, List.set_cons_zero, List.set_cons_succ]
          refine held_no 10 rfl (by kernel_rfl) (by kernel_rfl) (by kernel_rfl) (fun _ _ _ h => h) (by kernel_rfl) (by assumption) ?_
          try simp only [Act.put, List.setIfInBounds_toArray, List.set_cons_zero, List.set_cons_succ]
          refine held_no 11 rfl (by kernel_rfl) (by kernel_rfl) (by kernel_rfl) (fun _ _ _ h => h) (by kernel_rfl) (by assumption) ?_
          try simp only [Act.put, List.setIfInBounds_toArray, List.set_cons_zero, List.set_cons_succ]
          refine held_no 12 rfl (by kernel_rfl) (by kernel_rfl) (by kernel_rfl) (fun _ _ _ h => h) (by kernel_rfl) (by assumption) ?_
          try simp only [Act.put, List.setIfInBounds_toArray, List.set_cons_zero, List.set_cons_succ]
          refine held_no 13 rfl (by kernel_rfl) (by kernel_rfl) (by kernel_rfl) (fun _ _ _ h => h) (by kernel_rfl) (by assumption) ?_
          try simp only [Act.put, List.setIfInBounds_toArray, List.set_cons_zero, List.set_cons_succ]
          refine held_no 14 rfl (by kernel_rfl) (by kernel_rfl) (by kernel_rfl) (fun _ _ _ h => h) (by kernel_rfl) (by assumption) ?_
          try simp only [Act.put, List.setIfInBounds_toArray, List.set_cons_zero, List.set_cons_succ]
          refine held_no 15 rfl (by kernel_rfl) (by kernel_rfl) (by kernel_rfl) (fun _ _ _ h => h) (by kernel_rfl) (by assumption) ?_
          try simp only [Act.put, List.setIfInBounds_toArray, List.set_cons_zero, List.set_cons_succ]
          refine held_no 16 rfl (by kernel_rfl) (by kernel_rfl) (by kernel_rfl) (fun _ _ _ h => h) (by kernel_rfl) (by assumption) ?_
          try simp only [Act.put, List.setIfInBounds_toArray, List.set_cons_zero, List.set_cons_succ]
          refine held_yes 17 (v := ?_) rfl (by kernel_rfl) (by kernel_rfl) (by kernel_rfl) (fun _ _ _ h => h) (by kernel_rfl) (fun w hSw => ?_) (by assumption) ?_
          rotate_left
          · (try dsimp only at hSw); go_simp; (try with_reducible rfl)
          try simp only [Act.put, List.setIfInBounds_toArray, List.set_cons_zero, List.set_cons_succ]
          refine held_yes 18 (v := ?_) rfl (by kernel_rfl) (by kernel_rfl) (by kernel_rfl) (fun _ _ _ h => h) (by kernel_rfl) (fun w hSw => ?_) (by assumption) ?_
          rotate_left
          · (try dsimp only at hSw); go_simp; (try with_reducible rfl)
          try simp only [Act.put, List.setIfInBounds_toArray, List.set_cons_zero, List.set_cons_succ]
          refine wpAnyH_done (by kernel_rfl) ?_ _
          go_wp2_with fail
          refine ⟨⟨k + 1, by omega, by go_num, frm_trans hfr hHeld3.1, hone.move (frm_lt hHeld3.1 _ hone.lt), HS2⟩, by simp [intOf]; omega⟩
        · obtain ⟨k0, hk0⟩ : ∃ k0, k = k0 + 1 := ⟨k - 1, by omega⟩
          have hlt0 : k0 < ts.length := by omega
          obtain ⟨b', o', q0, q1, hA', hb', hq0, hq1, hqt⟩ := (hs.frm hfr stays_ty).at2 k0 hlt0
          injection hA' with hA'
          injection hA' with hA1 hA2 hA3
          subst hA1 hA2
          obtain ⟨s2, A2, n2, c2, rfl, rfl⟩ := hqt.vals
          have hcat := before_calls ts[k0] ts[k]
          have HCT : Hid (∀ w', wr.grownBy w' none → Calls Tryd.prog 53 #[.agg #[.int .i64 s2, .slice A2 n2 c2], .agg #[.int .i64 s1, .slice A1 n1 c1]] w' (Ret w' (.int .i64 (Ty.cmp ts[k0] ts[k])))) :=
            fun w' hf => hcat w' _ _ _ _ (stays_ty _ _ _ _ hf hqt) (stays_ty _ _ _ _ hf hpt)
          clear hcat
          have HSD : Hid (Ty.fitSet n s (ts.drop k) (ahead ts k) = (Ty.fits n ts[k] s && decide (Ty.cmp ts[k0] ts[k] < 0) && Ty.fitSet n s (ts.drop (k + 1)) (ahead ts (k + 1)))) := by
            subst hk0
            exact Ty.fitSet_dropS n s ts k0 hlt
          rw [hfit] at HSD
          generalize Ty.cmp ts[k0] ts[k] = z at *
          clear hfit
          have y0 := frm_cell hf8 hq0
          have y1 := frm_cell hf8 hq1
          have i1 : IntKind.i64.wrap ((k : Int) - 1) = (k : Int) - 1 := by rw [IntKind.wrap_i64]; omega
          have i2 : (0 : Int) ≤ (k : Int) - 1 := by omega
          have i3 : (k : Int) - 1 < (ts.length : Int) := by omega
          have i4 : ((k : Int) - 1).toNat = k0 := by omega
          have i6 : (1 : Int) ≤ (k : Int) := by omega
          have i5 : decide (0 < k) = true := by rw [decide_eq_true_iff]; omega
          have HK0E := Lib.hid hk0
          clear hk0 h0
          have HK : Hid (∀ w1 w2 : World, w1.grownBy w2 none → (wr.grownBy w1 none ∧ w1.cell? ⟨w.heap.size, 0, none⟩ = some (.slice B m d) ∧ w1.cell? ⟨wr.heap.size, 0, none⟩ = some (.int .i64 s1) ∧ w1.cell? ⟨wr.heap.size, 1, none⟩ = some (.slice A1 n1 c1) ∧ w1.cell? ⟨b, o + k0 * 2, none⟩ = some (.int .i64 s2) ∧ w1.cell? ⟨b, o + k0 * 2 + 1, none⟩ = some (.slice A2 n2 c2)) → (wr.grownBy w2 none ∧ w2.cell? ⟨w.heap.size, 0, none⟩ = some (.slice B m d) ∧ w2.cell? ⟨wr.heap.size, 0, none⟩ = some (.int .i64 s1) ∧ w2.cell? ⟨wr.heap.size, 1, none⟩ = some (.slice A1 n1 c1) ∧ w2.cell? ⟨b, o + k0 * 2, none⟩ = some (.int .i64 s2) ∧ w2.cell? ⟨b, o + k0 * 2 + 1, none⟩ = some (.slice A2 n2 c2))) := fun w1 w2 hf h => ⟨frm_trans h.1 hf, frm_cell hf h.2.1, frm_cell hf h.2.2.1, frm_cell hf h.2.2.2.1, frm_cell hf h.2.2.2.2.1, frm_cell hf h.2.2.2.2.2⟩
          go_wp2_with fail
          generalize wr.alloc (.cells #[.int .i64 s1, .slice A1 n1 c1] 24) = w8 at *
          refine wp_region_held_drew (S := fun w' => (wr.grownBy w' none ∧ w'.cell? ⟨w.heap.size, 0, none⟩ = some (.slice B m d) ∧ w'.cell? ⟨wr.heap.size, 0, none⟩ = some (.int .i64 s1) ∧ w'.cell? ⟨wr.heap.size, 1, none⟩ = some (.slice A1 n1 c1) ∧ w'.cell? ⟨b, o + k0 * 2, none⟩ = some (.int .i64 s2) ∧ w'.cell? ⟨b, o + k0 * 2 + 1, none⟩ = some (.slice A2 n2 c2))) (by kernel_rfl) ⟨frm_trans hf8 (frm_drew _), hcell, x0, x1, y0, y1⟩ (fun hHeld => ?_)
          refine held_yes 0 (v := ?_) rfl (by kernel_rfl) (by kernel_rfl) (by kernel_rfl) (fun _ _ _ h => h) (by kernel_rfl) (fun w hSw => ?_) (by assumption) ?_
          rotate_left
          · (try dsimp only at hSw); go_simp; (try with_reducible rfl)
          try simp only [Act.put, List.setIfInBounds_toArray, List.set_cons_zero, List.set_cons_succ]
          refine held_yes 1 (v := ?_) rfl (by kernel_rfl) (by kernel_rfl) (by kernel_rfl) (fun _ _ _ h => h) (by kernel_rfl) (fun w hSw => ?_) (by assumption) ?_
          rotate_left
          · (try dsimp only at hSw); go_simp; (try with_reducible rfl)
          try simp only [Act.put, List.setIfInBounds_toArray, List.set_cons_zero, List.set_cons_succ]
          refine held_yes 2 (v := ?_) rfl (by kernel_rfl) (by kernel_rfl) (by kernel_rfl) (fun _ _ _ h => h) (by kernel_rfl) (fun w hSw => ?_) (by assumption) ?_
          rotate_left
          · (try dsimp only at hSw); go_simp; (try with_reducible rfl)
          try simp only [Act.put, List.setIfInBounds_toArray, List.set_cons_zero, List.set_cons_succ]
          refine wpAnyH_ready (rs := [3]) (by kernel_rfl) (by simp) (AllReadyH.cons rfl (fun K hK => ?_) AllReadyH.nil)
          go_simp
          refine (HAT.out _ hHeld.1).mono ?_
          rintro e w3 ⟨rfl, hf3⟩
          go_wp2_with fail
          refine hK.out _ _ (HK.out _ _ hf3 hHeld) (fun hHeld3 => ?_)
          clear hK K hHeld
          try simp only [Act.put, List.setIfInBounds_toArray, List.set_cons_zero, List.set_cons_succ]
          refine held_yes 4 (v := ?_) rfl (by kernel_rfl) (by kernel_rfl) (by kernel_rfl) (fun _ _ _ h => h) (by kernel_rfl) (fun w hSw => ?_) (by assumption) ?_
          rotate_left
          · (try dsimp only at hSw); go_simp; (try with_reducible rfl)
          try simp only [Act.put, List.setIfInBounds_toArray, List.set_cons_zero, List.set_cons_succ]
          refine held_yes 5 (v := ?_) rfl (by kernel_rfl) (by kernel_rfl) (by kernel_rfl) (fun _ _ _ h => h) (by kernel_rfl) (fun w hSw => ?_) (by assumption) ?_
          rotate_left
          · (try dsimp only at hSw); go_simp; (try with_reducible rfl)
          try simp only [Act.put, List.setIfInBounds_toArray, List.set_cons_zero, List.set_cons_succ]
          refine held_yes 6 (v := ?_) rfl (by kernel_rfl) (by kernel_rfl) (by kernel_rfl) (fun _ _ _ h => h) (by kernel_rfl) (fun w hSw => ?_) (by assumption) ?_
          rotate_left
          · (try dsimp only at hSw); go_simp; (try with_reducible rfl)
          try simp only [Act.put, List.setIfInBounds_toArray, List.set_cons_zero, List.set_cons_succ]
          refine held_yes 7 (v := ?_) rfl (by kernel_rfl) (by kernel_rfl) (by kernel_rfl) (fun _ _ _ h => h) (by kernel_rfl) (fun w hSw => ?_) (by assumption) ?_
          rotate_left
          · (try dsimp only at hSw); go_simp; (try with_reducible rfl)
          try simp only [Act.put, List.setIfInBounds_toArray, List.set_cons_zero, List.set_cons_succ]
          try simp only [i5]
          refine held_yes 8 (v := ?_) rfl (by kernel_rfl) (by kernel_rfl) (by kernel_rfl) (fun _ _ _ h => h) (by kernel_rfl) (fun w hSw => ?_) (by assumption) ?_
          rotate_left
          · (try dsimp only at hSw); go_simp; (try with_reducible rfl)
          try simp only [Act.put, List.setIfInBounds_toArray, List.set_cons_zero, List.set_cons_succ]
          refine held_yes 9 (v := ?_) rfl (by kernel_rfl) (by kernel_rfl) (by kernel_rfl) (fun _ _ _ h => h) (by kernel_rfl) (fun w hSw => ?_) (by assumption) ?_
          rotate_left
          · (try dsimp only at hSw); go_simp; (try with_reducible rfl)
          try simp only [Act.put, List.setIfInBounds_toArray, List.set_cons_zero, List.set_cons_succ]
          refine held_yes 10 (v := ?_) rfl (by kernel_rfl) (by kernel_rfl) (by kernel_rfl) (fun _ _ _ h => h) (by kernel_rfl) (fun w hSw => ?_) (by assumption) ?_
          rotate_left
          · (try dsimp only at hSw); go_simp; (try with_reducible rfl)
          try simp only [Act.put, List.setIfInBounds_toArray, List.set_cons_zero, List.set_cons_succ]
          refine held_yes 11 (v := ?_) rfl (by kernel_rfl) (by kernel_rfl) (by kernel_rfl) (fun _ _ _ h => h) (by kernel_rfl) (fun w hSw => ?_) (by assumption) ?_
          rotate_left
          · (try dsimp only at hSw); go_simp; (try with_reducible rfl)
          try simp only [Act.put, List.setIfInBounds_toArray, List.set_cons_zero, List.set_cons_succ]
          refine held_yes 12 (v := ?_) rfl (by kernel_rfl) (by kernel_rfl) (by kernel_rfl) (fun _ _ _ h => h) (by kernel_rfl) (fun w hSw => ?_) (by assumption) ?_
          rotate_left
          · (try dsimp only at hSw); go_simp; (try with_reducible rfl)
          try simp only [Act.put, List.setIfInBounds_toArray, List.set_cons_zero, List.set_cons_succ]
          refine held_yes 13 (v := ?_) rfl (by kernel_rfl) (by kernel_rfl) (by kernel_rfl) (fun _ _ _ h => h) (by kernel_rfl) (fun w hSw => ?_) (by assumption) ?_
          rotate_left
          · (try dsimp only at hSw); go_simp; (try with_reducible rfl)
          try simp only [Act.put, List.setIfInBounds_toArray, List.set_cons_zero, List.set_cons_succ]
          refine held_yes 14 (v := ?_) rfl (by kernel_rfl) (by kernel_rfl) (by kernel_rfl) (fun _ _ _ h => h) (by kernel_rfl) (fun w hSw => ?_) (by assumption) ?_
          rotate_left
          · (try dsimp only at hSw); go_simp; (try with_reducible rfl)
          try simp only [Act.put, List.setIfInBounds_toArray, List.set_cons_zero, List.set_cons_succ]
          refine wpAnyH_ready (rs := [15]) (by kernel_rfl) (by simp) (AllReadyH.cons rfl (fun K hK => ?_) AllReadyH.nil)
          go_simp
          refine (HCT.out _ hHeld3.1).mono ?_
          rintro e w4 ⟨rfl, hf4⟩
          go_wp2_with fail
          refine hK.out _ _ (HK.out _ _ hf4 hHeld3) (fun hHeld4 => ?_)
          clear hK K hHeld3
          try simp only [Act.put, List.setIfInBounds_toArray, List.set_cons_zero, List.set_cons_succ]
          refine held_yes 16 (v := ?_) rfl (by kernel_rfl) (by kernel_rfl) (by kernel_rfl) (fun _ _ _ h => h) (by kernel_rfl) (fun w hSw => ?_) (by assumption) ?_
          rotate_left
          · (try dsimp only at hSw); go_simp; (try with_reducible rfl)
          try simp only [Act.put, List.setIfInBounds_toArray, List.set_cons_zero, List.set_cons_succ]
          refine held_yes 17 (v := ?_) rfl (by kernel_rfl) (by kernel_rfl) (by kernel_rfl) (fun _ _ _ h => h) (by kernel_rfl) (fun w hSw => ?_) (by assumption) ?_
          rotate_left
          · (try dsimp only at hSw); go_simp; (try with_reducible rfl)
          try simp only [Act.put, List.setIfInBounds_toArray, List.set_cons_zero, List.set_cons_succ]
          refine held_yes 18 (v := ?_) rfl (by kernel_rfl) (by kernel_rfl) (by kernel_rfl) (fun _ _ _ h => h) (by kernel_rfl) (fun w hSw => ?_) (by assumption) ?_
          rotate_left
          · (try dsimp only at hSw); go_simp; (try with_reducible rfl)
          try simp only [Act.put, List.setIfInBounds_toArray, List.set_cons_zero, List.set_cons_succ]
          refine wpAnyH_done (by kernel_rfl) ?_ _
          by_cases hz : z < 0
          · have hz2 : Hid (Ty.fitSet n s ts none = Ty.fitSet n s (ts.drop (k + 1)) (ahead ts (k + 1))) := by
              unfold Hid
              rw [HS.out, HSD.out]
              simp [hz]
            go_wp2_with fail
            exact ⟨⟨k + 1, by omega, by go_num, frm_trans hfr hHeld4.1, hone.move (frm_lt hHeld4.1 _ hone.lt), hz2⟩, by simp [intOf]; omega⟩
          · have hz2 : Hid (Ty.fitSet n s ts none = false) := by
              unfold Hid
              rw [HS.out, HSD.out]
              simp [hz]
            go_wp2_with fail
            refine bodyPost_ret (results_tmp rfl _ _ _) rfl ⟨?_, frm_trans hfr hHeld4.1⟩
            rw [hz2.out]
            rfl
      · have hfit : Ty.fits n ts[k] s = false := by simpa using hfit
        rw [hfit] at HAT
        have HS2 : Hid (Ty.fitSet n s ts none = false) := by
          unfold Hid
          rw [HS.out]
          match k, hlt with
          | 0, hlt => rw [Ty.fitSet_drop0 n s ts hlt, hfit]; rfl
          | k + 1, hlt => rw [Ty.fitSet_dropS n s ts k hlt, hfit]; rfl
        clear HS hfit
        have HK : Hid (∀ w1 w2 : World, w1.grownBy w2 none → (wr.grownBy w1 none ∧ w1.cell? ⟨w.heap.size, 0, none⟩ = some (.slice B m d) ∧ w1.cell? ⟨wr.heap.size, 0, none⟩ = some (.int .i64 s1) ∧ w1.cell? ⟨wr.heap.size, 1, none⟩ = some (.slice A1 n1 c1)) → (wr.grownBy w2 none ∧ w2.cell? ⟨w.heap.size, 0, none⟩ = some (.slice B m d) ∧ w2.cell? ⟨wr.heap.size, 0, none⟩ = some (.int .i64 s1) ∧ w2.cell? ⟨wr.heap.size, 1, none⟩ = some (.slice A1 n1 c1))) := fun w1 w2 hf h => ⟨frm_trans h.1 hf, frm_cell hf h.2.1, frm_cell hf h.2.2.1, frm_cell hf h.2.2.2⟩
        go_wp2_with fail
        generalize wr.alloc (.cells #[.int .i64 s1, .slice A1 n1 c1] 24) = w8 at *
        refine wp_region_held_drew (S := fun w' => (wr.grownBy w' none ∧ w'.cell? ⟨w.heap.size, 0, none⟩ = some (.slice B m d) ∧ w'.cell? ⟨wr.heap.size, 0, none⟩ = some (.int .i64 s1) ∧ w'.cell? ⟨wr.heap.size, 1, none⟩ = some (.slice A1 n1 c1))) (by kernel_rfl) ⟨frm_trans hf8 (frm_drew _), hcell, x0, x1⟩ (fun hHeld => ?_)
        refine held_yes 0 (v := ?_) rfl (by kernel_rfl) (by kernel_rfl) (by kernel_rfl) (fun _ _ _ h => h) (by kernel_rfl) (fun w hSw => ?_) (by assumption) ?_
        rotate_left
        · (try dsimp only at hSw); go_simp; (try with_reducible rfl)
        try simp only [Act.put, List.setIfInBounds_toArray, List.set_cons_zero, List.set_cons_succ]
        refine held_yes 1 (v := ?_) rfl (by kernel_rfl) (by kernel_rfl) (by kernel_rfl) (fun _ _ _ h => h) (by kernel_rfl) (fun w hSw => ?_) (by assumption) ?_
        rotate_left
        · (try dsimp only at hSw); go_simp; (try with_reducible rfl)
        try simp only [Act.put, List.setIfInBounds_toArray, List.set_cons_zero, List.set_cons_succ]
        refine held_yes 2 (v := ?_) rfl (by kernel_rfl) (by kernel_rfl) (by kernel_rfl) (fun _ _ _ h => h) (by kernel_rfl) (fun w hSw => ?_) (by assumption) ?_
        rotate_left
        · (try dsimp only at hSw); go_simp; (try with_reducible rfl)
        try simp only [Act.put, List.setIfInBounds_toArray, List.set_cons_zero, List.set_cons_succ]
        refine wpAnyH_ready (rs := [3]) (by kernel_rfl) (by simp) (AllReadyH.cons rfl (fun K hK => ?_) AllReadyH.nil)
        go_simp
        refine (HAT.out _ hHeld.1).mono ?_
        rintro e w3 ⟨rfl, hf3⟩
        go_wp2_with fail
        refine hK.out _ _ (HK.out _ _ hf3 hHeld) (fun hHeld3 => ?_)
        clear hK K hHeld
        try simp only [Act.put, List.setIfInBounds_toArray, List.set_cons_zero, List.set_cons_succ]
        refine held_yes 4 (v := ?_) rfl (by kernel_rfl) (by kernel_rfl) (by kernel_rfl) (fun _ _ _ h => h) (by kernel_rfl) (fun w hSw => ?_) (by assumption) ?_
        rotate_left
        · (try dsimp only at hSw); go_simp; (try with_reducible rfl)
        try simp only [Act.put, List.setIfInBounds_toArray, List.set_cons_zero, List.set_cons_succ]
        refine held_yes 5 (v := ?_) rfl (by kernel_rfl) (by kernel_rfl) (by kernel_rfl) (fun _ _ _ h => h) (by kernel_rfl) (fun w hSw => ?_) (by assumption) ?_
        rotate_left
        · (try dsimp only at hSw); go_simp; (try with_reducible rfl)
        try simp only [Act.put, List.setIfInBounds_toArray, List.set_cons_zero, List.set_cons_succ]
        refine held_no 6 rfl (by kernel_rfl) (by kernel_rfl) (by kernel_rfl) (fun _ _ _ h => h) (by kernel_rfl) (by assumption) ?_
        try simp only [Act.put, List.setIfInBounds_toArray, List.set_cons_zero, List.set_cons_succ]
        refine held_no 7 rfl (by kernel_rfl) (by kernel_rfl) (by kernel_rfl) (fun _ _ _ h => h) (by kernel_rfl) (by assumption) ?_
        try simp only [Act.put, List.setIfInBounds_toArray, List.set_cons_zero, List.set_cons_succ]
        refine held_no 8 rfl (by kernel_rfl) (by kernel_rfl) (by kernel_rfl) (fun _ _ _ h => h) (by kernel_rfl) (by assumption) ?_
        try simp only [Act.put, List.setIfInBounds_toArray, List.set_cons_zero, List.set_cons_succ]
        refine held_no 9 rfl (by kernel_rfl) (by kernel_rfl) (by kernel_rfl) (fun _ _ _ h => h) (by kernel_rfl) (by assumption) ?_
        try simp only [Act.put, List.setIfInBounds_toArray, List.set_cons_zero, List.set_cons_succ]
        refine held_no 10 rfl (by kernel_rfl) (by kernel_rfl) (by kernel_rfl) (fun _ _ _ h => h) (by kernel_rfl) (by assumption) ?_
        try simp only [Act.put, List.setIfInBounds_toArray, List.set_cons_zero, List.set_cons_succ]
        refine held_no 11 rfl (by kernel_rfl) (by kernel_rfl) (by kernel_rfl) (fun _ _ _ h => h) (by kernel_rfl) (by assumption) ?_
        try simp only [Act.put, List.setIfInBounds_toArray, List.set_cons_zero, List.set_cons_succ]
        refine held_no 12 rfl (by kernel_rfl) (by kernel_rfl) (by kernel_rfl) (fun _ _ _ h => h) (by kernel_rfl) (by assumption) ?_
        try simp only [Act.put, List.setIfInBounds_toArray, List.set_cons_zero, List.set_cons_succ]
        refine held_no 13 rfl (by kernel_rfl) (by kernel_rfl) (by kernel_rfl) (fun _ _ _ h => h) (by kernel_rfl) (by assumption) ?_
        try simp only [Act.put, List.setIfInBounds_toArray, List.set_cons_zero, List.set_cons_succ]
        refine held_no 14 rfl (by kernel_rfl) (by kernel_rfl) (by kernel_rfl) (fun _ _ _ h => h) (by kernel_rfl) (by assumption) ?_
        try simp only [Act.put, List.setIfInBounds_toArray, List.set_cons_zero, List.set_cons_succ]
        refine held_no 15 rfl (by kernel_rfl) (by kernel_rfl) (by kernel_rfl) (fun _ _ _ h => h) (by kernel_rfl) (by assumption) ?_
        try simp only [Act.put, List.setIfInBounds_toArray, List.set_cons_zero, List.set_cons_succ]
        refine held_no 16 rfl (by kernel_rfl) (by kernel_rfl) (by kernel_rfl) (fun _ _ _ h => h) (by kernel_rfl) (by assumption) ?_
        try simp only [Act.put, List.setIfInBounds_toArray, List.set_cons_zero, List.set_cons_succ]
        refine held_no 17 rfl (by kernel_rfl) (by kernel_rfl) (by kernel_rfl) (fun _ _ _ h => h) (by kernel_rfl) (by assumption) ?_
        try simp only [Act.put, List.setIfInBounds_toArray, List.set_cons_zero, List.set_cons_succ]
        refine held_yes 18 (v := ?_) rfl (by kernel_rfl) (by kernel_rfl) (by kernel_rfl) (fun _ _ _ h => h) (by kernel_rfl) (fun w hSw => ?_) (by assumption) ?_
        rotate_left
        · (try dsimp only at hSw); go_simp; (try with_reducible rfl)
        try simp only [Act.put, List.setIfInBounds_toArray, List.set_cons_zero, List.set_cons_succ]
        refine wpAnyH_done (by kernel_rfl) ?_ _
        go_wp2_with fail
        refine bodyPost_ret (results_tmp rfl _ _ _) rfl ⟨?_, frm_trans hfr hHeld3.1⟩
        rw [HS2.out]
        rfl
    · obtain rfl : k = ts.length := by omega
      have HS2 : Hid (Ty.fitSet n s ts none = true) := by
        unfold Hid
        rw [HS.out, Ty.fitSet_end]
      go_wp2_with fail
      refine bodyPost_ret (results_tmp rfl _ _ _) rfl ⟨?_, hfr⟩
      rw [HS2.out]
      rfl

set_option maxRecDepth 100000 in
set_option maxHeartbeats 4000000 in
theorem shaped_calls (n : Int) : ∀ t : Ty, shapedAt n t := by
  intro t
  induction t using Ty.ind with
  | h st args ih =>
    intro w s a0 v0 v1 ha ht
    rw [TyO_mk] at ht
    obtain ⟨v, hcs, h1, h2, hs⟩ := ht
    obtain ⟨rfl, rfl⟩ : v0 = .int .i64 st ∧ v1 = v := by simpa using hcs
    obtain ⟨A, c, rfl, hc, hm⟩ := hs.val
    have hss := SrtO_mk ha
    obtain ⟨B, d, rfl, hd, hdm⟩ := hss.val
    clear hcs
    have IH : Hid (∀ ts ∈ args, ∀ (w : World) (s : Srt) (a0 v : Value), SrtO w s [a0] → SetO w ts [v] → Calls Tryd.prog 91 #[.agg #[a0], .int .i64 n, v] w (Ret w (.bool (Ty.fitSet n s ts none)))) :=
      fun ts hts w s a0 v ha hv => shapedSet_calls n ts (ih ts hts) w s a0 v ha hv
    clear ih
    have HF := Lib.hid (Ty.fits_mk n st args s)
    have hfr0 := frm_then_alloc (frm_alloc w (.cells #[.slice B s.args.length d] 43)) (.cells #[.int .i64 st, .slice A args.length c] 24)
    have hbs := (OneAt.new w (.slice B s.args.length d) 43).alloc (.cells #[.int .i64 st, .slice A args.length c] 24)
    clear ha
    go_enter Tryd.func89, Tryd.ntmps89
    by_cases hst0 : st < 0
    · have HN : Hid (Ty.fits n (.mk st args) s = false) := by
        unfold Hid
        rw [HF.out]
        simp [show ¬ 0 ≤ st by omega]
      go_wp2_with fail
      refine bodyPost_ret (results_tmp rfl _ _ _) rfl ⟨?_, hfr0⟩
      rw [HN.out]
      rfl
    by_cases hst1 : n ≤ st
    · have HN : Hid (Ty.fits n (.mk st args) s = false) := by
        unfold Hid
        rw [HF.out]
        simp [show ¬ st < n by omega]
      go_wp2_with fail
      refine bodyPost_ret (results_tmp rfl _ _ _) rfl ⟨?_, hfr0⟩
      rw [HN.out]
      rfl
    by_cases hlen : args.length = s.args.length
    · have HN : Hid (Ty.fits n (.mk st args) s = Ty.fitRows n args s.args) := by
        unfold Hid
        rw [HF.out]
        simp [show st < n by omega, show 0 ≤ st by omega, hlen]
      have hlb : ((args.length : Int) != (s.args.length : Int)) = false := by simp [hlen]
      have HLEN := Lib.hid hlen
      clear hlen
      go_wp2_with fail
      go_loopw [30] (fun i wr => ∃ k : Nat, k ≤ args.length ∧ i = .int .i64 k ∧ w.grownBy wr none ∧ OneAt wr w.heap.size (.slice B s.args.length d) 43 ∧ Hid (Ty.fitRows n args s.args = Ty.fitRows n (args.drop k) (s.args.drop k))) (fun i _ => args.length - (intOf i).toNat)
      case atStart => exact ⟨0, Nat.zero_le _, rfl, hfr0, hbs, rfl⟩
      case round =>
        obtain ⟨k, hk, rfl, hfr, hone, HS⟩ := hrel
        have hcell := hone.cell
        by_cases hlt : k < args.length
        · have hlt2 : k < s.args.length := by rw [← HLEN.out]; exact hlt
          obtain ⟨b, o, p0, rfl, hb, hp0, hpt⟩ := (hs.frm hfr stays_set).at1 k hlt
          obtain ⟨b2, o2, q0, rfl, hb2, hq0, hqt⟩ := (hss.frm hfr stays_srt).at1 k hlt2
          obtain ⟨A2, m2, c2, hcs2⟩ := SrtR_len hqt
          obtain rfl : q0 = .slice A2 m2 c2 := by simpa using hcs2
          obtain ⟨A3, c3, rfl, _, _⟩ := (SetO.sl hpt).val
          have HD := Lib.hid (Ty.fitRows_drop n args s.args k hlt hlt2)
          have hmem : args[k] ∈ args := List.getElem_mem hlt
          clear hcs2
          generalize args[k] = ts at *
          generalize s.args[k] = s2 at *
          go_wp2_with fail
          refine (IH.out _ hmem _ _ _ _ hqt hpt).mono ?_
          rintro e w1 ⟨rfl, hf1⟩
          cases hfit : Ty.fitSet n s2 ts none
          · have HW := Lib.hid hfit
            clear hfit
            go_wp2_with fail
            refine bodyPost_ret (results_tmp rfl _ _ _) rfl ⟨?_, frm_trans hfr hf1⟩
            rw [HN.out, HS.out, HD.out, HW.out]
            rfl
          · have HW := Lib.hid hfit
            clear hfit
            go_wp2_with fail
            refine ⟨⟨k + 1, by omega, by go_num, frm_trans hfr hf1, hone.move (frm_lt hf1 _ hone.lt), ?_⟩, by simp [intOf]; omega⟩
            unfold Hid
            rw [HS.out, HD.out, HW.out]
            rfl
        · obtain rfl : k = args.length := by omega
          have HT : Hid (Ty.fits n (.mk st args) s = true) := by
            unfold Hid
            rw [HN.out, HS.out, Ty.fitRows_end]
          go_wp2_with fail
          refine bodyPost_ret (results_tmp rfl _ _ _) rfl ⟨?_, hfr⟩
          rw [HT.out]
          rfl
    · have HN : Hid (Ty.fits n (.mk st args) s = false) := by
        unfold Hid
        rw [HF.out]
        simp [hlen]
      have hlb : ((args.length : Int) != (s.args.length : Int)) = true := by rw [bne_iff_ne]; omega
      clear hlen
      go_wp2_with fail
      refine bodyPost_ret (results_tmp rfl _ _ _) rfl ⟨?_, hfr0⟩
      rw [HN.out]
      rfl

end Go.Proofs.YtmdgoalekkkpnaaDoor
