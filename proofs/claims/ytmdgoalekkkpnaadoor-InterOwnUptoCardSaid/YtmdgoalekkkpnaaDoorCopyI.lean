/- inter's copies: what is copied lies in new memory, each set apart from the others. -/
import Derived.Test.YtmdgoalekkkpnaaDoorCopy
set_option linter.unusedVariables false
set_option linter.unusedSimpArgs false
namespace Go.Proofs.YtmdgoalekkkpnaaDoor
open Go.RowKit

def ICopyAt (t : Ty) : Prop := ∀ (w : World) (v0 v1 : Value), TyO w t [v0, v1] → t.Fit → Calls Tryd.prog 92 #[.agg #[v0, v1]] w fun e w' => match t with | .mk st args => CopyPost w st args e w'
set_option maxRecDepth 100000 in
set_option maxHeartbeats 1000000 in
theorem icopies_calls (ts : List Ty) (IH : ∀ t ∈ ts, ICopyAt t) (w : World) (v : Value) (hv : SetO w ts [v]) (hfit : ∀ t ∈ ts, t.Fit) (hb32 : ts.length * 32 ≤ 140737488351232) :
    Calls Tryd.prog 66 #[v] w fun e w' => ∃ u, e = .returned u ∧ w.grownBy w' none ∧ Own TyR w' w.heap.size 24 2 (fun b => w.heap.size ≤ b) u ts := by
  have hs := SetO.sl hv
  obtain ⟨A, c, rfl, hc, hm⟩ := hs.val
  have HI := Lib.hid IH
  have HF := Lib.hid hfit
  clear IH hfit hv
  go_enter Tryd.func66, Tryd.ntmps66
  go_wp2_with fail
  go_loopw [3, 8] (fun u i wr => ∃ k : Nat, k ≤ ts.length ∧ i = .int .i64 k ∧ w.grownBy wr none ∧ Own TyR wr w.heap.size 24 2 (fun b => w.heap.size ≤ b) u (ts.take k)) (fun _ i _ => ts.length - (intOf i).toNat)
  case atStart => exact ⟨0, Nat.zero_le _, rfl, frm_refl _ _, Own.nil _ _ _ _ _ _⟩
  case round =>
    obtain ⟨k, hk, rfl, hfr, hO⟩ := hrel
    obtain ⟨Au, cu, he, hcu⟩ := hO.val
    have hlk : (ts.take k).length = k := by rw [List.length_take]; omega
    rw [hlk] at he hcu
    subst he
    by_cases hlt : k < ts.length
    · obtain ⟨b, o, p0, p1, rfl, hb, hp0, hp1, hpt⟩ := (hs.frm hfr stays_ty).at2 k hlt
      obtain ⟨s1, A1, n1, c1, rfl, rfl⟩ := hpt.vals
      have HT := Lib.hid (List.take_succ_eq_append_getElem hlt)
      have ih := Lib.hid (HI.out _ (List.getElem_mem hlt))
      have fit := HF.out _ (List.getElem_mem hlt)
      generalize ts[k] = t at *
      have hf4 := frm_alloc wr (.cells #[.int .i64 s1, .slice A1 n1 c1] 24)
      go_wp2_with fail
      refine (ih.out _ _ _ (stays_ty _ _ _ _ hf4 hpt) fit).mono ?_
      cases t with
      | mk st args =>
        rintro e w5 ⟨v5, ps, rfl, hf5, ho5, hps⟩
        obtain ⟨A5, c5, rfl, _⟩ := ho5.val
        obtain ⟨hp1s, hpw⟩ := hps
        obtain ⟨g1, g2, g3⟩ := fit_args fit
        have hstb : -9223372036854775808 ≤ st ∧ st ≤ 9223372036854775807 := by
          obtain ⟨_, _, q1, q2, _⟩ := TyO_mk.1 hpt
          exact ⟨q1, q2⟩
        have hty := CopyPost.ty hstb.1 hstb.2 (by omega) (fun s hs => by have := g2 s hs; omega) ho5 hp1s
        have hf45 := frm_trans hf4 hf5
        have hf6 : w5.grownBy ((w5.alloc (.cells #[.int .i64 st, .slice A5 ps.length c5] 24)) ) none := frm_alloc _ _
        have hO5 := ((hO.kept moves_ty hf45 (ownNone _) (by simp)).kept moves_ty hf6 (ownNone _) (by simp))
        have hlt5 := hO.lt
        have hsz4 := hf45.size
        have hsz0 := hfr.size
        dsimp only
        repeat ((fail_if_success at_builtin); first | go_values | go_skip | go_guarded | go_step | go_upon)
        have htw := TwoAt.new w5 (.int .i64 st) (.slice A5 ps.length c5) 24
        refine Own.append1 moves_ty elem_ty hO5 rfl _ _ rfl rfl rfl (.mk st args) [.int .i64 st, .slice A5 ps.length c5] rfl ?_ ?_ ?_ (by rw [hlk]; omega) (by omega) (by simp; omega) ?_
        · intro j u hj
          match j with
          | 0 => simp at hj; subst hj; exact htw.cells.1
          | 1 => simp at hj; subst hj; exact htw.cells.2.1
          | j + 2 => simp at hj
        · intro u hu
          simp at hu
          rcases hu with rfl | rfl <;> rfl
        · refine hty.move (fun b hb => ⟨?_, ?_, fun e => ?_⟩) (fun b hb => frm_lt hf6 b hb.2)
          · have := hb.1
            simp at this
            omega
          · have := hb.2
            simp
            omega
          · have h1 := (hlt5 b e.symm).2
            have h2 := hb.1
            simp at h2
            omega
        intro v7 w7 hO8 hg7 hp7
        have hfr7 := frm_own (frm_trans hfr (frm_trans hf45 hf6)) (fun b hb => (hlt5 b hb).1) hg7
        obtain ⟨A7, c7, rfl, _⟩ := hO8.val
        rw [← HT.out] at hO8
        go_wp2_with fail
        refine ⟨⟨k + 1, by omega, by go_num, hfr7, ?_⟩, by simp [intOf]; omega⟩
        have hl8 : (ts.take (k + 1)).length = k + 1 := by rw [List.length_take]; omega
        rw [hl8] at hO8
        simpa [hlk] using hO8
    · obtain rfl : k = ts.length := by omega
      rw [List.take_length] at hO
      go_wp2_with fail
      exact bodyPost_ret (results_tmp rfl _ _ _) rfl ⟨.slice Au ts.length cu, rfl, hfr, hO⟩

set_option maxRecDepth 100000 in
set_option maxHeartbeats 2000000 in
theorem icopy_calls : ∀ t : Ty, ICopyAt t := by
  intro t
  induction t using Ty.ind with
  | h st args ih =>
    intro w v0 v1 ht hfit
    rw [TyO_mk] at ht
    obtain ⟨v, hcs, h1, h2, hs⟩ := ht
    obtain ⟨rfl, rfl⟩ : v0 = .int .i64 st ∧ v1 = v := by simpa using hcs
    obtain ⟨A, c, rfl, hc, hm⟩ := hs.val
    obtain ⟨g1, g2, g3⟩ := fit_args hfit
    have HS := Lib.hid g1
    clear hcs hfit g1
    have IH : Hid (∀ s ∈ args, ∀ (w : World) (v : Value), SetO w s [v] → Calls Tryd.prog 66 #[v] w fun e w' => ∃ u, e = .returned u ∧ w.grownBy w' none ∧ Own TyR w' w.heap.size 24 2 (fun b => w.heap.size ≤ b) u s) :=
      fun s hs w v hv => icopies_calls s (ih s hs) w v hv (g3 s hs) (g2 s hs)
    clear ih
    go_enter Tryd.func92, Tryd.ntmps92
    go_wp2_with fail
    go_loopw [12] (fun i wr => ∃ (k : Nat), k ≤ args.length ∧ i = .int .i64 k ∧ CopyRel w st args k wr) (fun i _ => args.length - (intOf i).toNat)
    case atStart =>
      refine ⟨0, Nat.zero_le _, rfl, .slice none 0 0, [], frm_then_alloc (frm_then_alloc (frm_alloc _ _) _) _, (TwoAt.new2 w _ _ _ _).alloc _, TwoAt.new3 w _ _ _ _ _, Own.nil _ _ _ _ _ _, rfl, .nil, by simp⟩
    case round =>
      obtain ⟨k, hk, rfl, va, ps, hfr, hres, hout, hO, hmap, hpw, hhi⟩ := hrel
      obtain ⟨k1, k2, k3, k4⟩ := hout.cells
      obtain ⟨j1, j2, j3, j4⟩ := hres.cells
      have kl := hout.lt
      obtain ⟨Av, cv, rfl, _⟩ := hO.val
      by_cases hlt : k < args.length
      · obtain ⟨o, p, q, rfl, ho, hq, hqt⟩ := (hs.frm hfr stays_set).at1 k hlt
        obtain ⟨A2, c2, rfl, hc2, hm2⟩ := (SetO.sl hqt).val
        have hmt := Lib.hid (List.take_succ_eq_append_getElem hlt)
        have hma := List.getElem_mem hlt
        generalize args[k] = ts at *
        have hpw := Lib.hid hpw
        have hmap := Lib.hid hmap
        have hhi := Lib.hid hhi
        go_wp2_with fail
        have k2d := frm_cell (frm_drew wr) k2
        refine wp_region_held_drew (S := fun _ => True) (by kernel_rfl) trivial (fun hHeld => ?_)
        refine held_yes 0 (v := ?_) rfl (by kernel_rfl) (by kernel_rfl) (by kernel_rfl) (fun _ _ _ h => h) (by kernel_rfl) (fun w hSw => ?_) (by assumption) ?_
        rotate_left
        · (try dsimp only at hSw); go_simp; (try with_reducible rfl)
        try simp only [Act.put, List.setIfInBounds_toArray, List.set_cons_zero, List.set_cons_succ]
        refine held_yes 2 (v := ?_) rfl (by kernel_rfl) (by kernel_rfl) (by kernel_rfl) (fun _ _ _ h => h) (by kernel_rfl) (fun w hSw => ?_) (by assumption) ?_
        rotate_left
        · (try dsimp only at hSw); go_simp; (try with_reducible rfl)
        try simp only [Act.put, List.setIfInBounds_toArray, List.set_cons_zero, List.set_cons_succ]
        refine wpAnyH_ready (rs := [1, 3]) (by kernel_rfl) (by simp) (AllReadyH.cons rfl (fun K hK => ?_) (AllReadyH.cons rfl (fun K hK => ?_) AllReadyH.nil))
        · go_simp
          refine hK.out _ _ trivial (fun hHeld => ?_)
          clear hK K
          try simp only [Act.put, List.setIfInBounds_toArray, List.set_cons_zero, List.set_cons_succ]
          refine wpAnyH_ready (rs := [3]) (by kernel_rfl) (by simp) (AllReadyH.cons rfl (fun K hK => ?_) AllReadyH.nil)
          go_simp
          refine (IH.out _ hma _ _ (stays_set _ _ _ _ (frm_drew _) hqt)).mono ?_
          rintro e w5 ⟨u5, rfl, hf5, ho5⟩
          obtain ⟨A5, c5, rfl, _⟩ := ho5.val
          go_wp2_with fail
          have HN := Lib.hid (copy_next hlt HS hmt hfr hres hout hO hmap.out hpw.out hhi.out hf5 ho5)
          refine hK.out _ _ trivial (fun hHeld => ?_)
          clear hK K
          try simp only [Act.put, List.setIfInBounds_toArray, List.set_cons_zero, List.set_cons_succ]
          refine wpAnyH_ready (rs := [4]) (by kernel_rfl) (by simp) (AllReadyH.cons rfl (fun K hK => ?_) AllReadyH.nil)
          go_simp
          refine hK.out _ _ trivial (fun hHeld => ?_)
          clear hK K
          try simp only [Act.put, List.setIfInBounds_toArray, List.set_cons_zero, List.set_cons_succ]
          obtain ⟨w7, A7, c7, hrun, hout7, HR⟩ := HN.out
          obtain ⟨m1, m2, m3, m4⟩ := hout7.cells
          have ml := hout7.lt
          refine wpAnyH_ready (rs := [5]) (by kernel_rfl) (by simp) (AllReadyH.cons rfl (fun K hK => ?_) AllReadyH.nil)
          rw [if_pos (by kernel_rfl)]
          refine append_wp (.tmp 17) (.tmp 20) rfl rfl rfl hrun ?_
          refine hK.out _ _ trivial (fun hHeld => ?_)
          clear hK K
          try simp only [Act.put, List.setIfInBounds_toArray, List.set_cons_zero, List.set_cons_succ]
          refine held_yes 6 (v := ?_) rfl (by kernel_rfl) (by kernel_rfl) (by kernel_rfl) (fun _ _ _ h => h) (by kernel_rfl) (fun w hSw => ?_) (by assumption) ?_
          rotate_left
          · (try dsimp only at hSw); go_simp; (try with_reducible rfl)
          try simp only [Act.put, List.setIfInBounds_toArray, List.set_cons_zero, List.set_cons_succ]
          refine wpAnyH_ready (rs := [7]) (by kernel_rfl) (by simp) (AllReadyH.cons rfl (fun K hK => ?_) AllReadyH.nil)
          go_simp
          refine hK.out _ _ trivial (fun hHeld => ?_)
          clear hK K
          try simp only [Act.put, List.setIfInBounds_toArray, List.set_cons_zero, List.set_cons_succ]
          refine wpAnyH_done (by kernel_rfl) ?_ _
          go_wp2_with fail
          exact ⟨⟨k + 1, by omega, by go_num, HR⟩, by simp [intOf]; omega⟩
        · go_simp
          refine (IH.out _ hma _ _ (stays_set _ _ _ _ (frm_drew _) hqt)).mono ?_
          rintro e w5 ⟨u5, rfl, hf5, ho5⟩
          obtain ⟨A5, c5, rfl, _⟩ := ho5.val
          go_wp2_with fail
          have HN := Lib.hid (copy_next hlt HS hmt hfr hres hout hO hmap.out hpw.out hhi.out hf5 ho5)
          refine hK.out _ _ trivial (fun hHeld => ?_)
          clear hK K
          try simp only [Act.put, List.setIfInBounds_toArray, List.set_cons_zero, List.set_cons_succ]
          have k2' := frm_cell hf5 (frm_cell (frm_drew wr) k2)
          refine wpAnyH_ready (rs := [1, 4]) (by kernel_rfl) (by simp) (AllReadyH.cons rfl (fun K hK => ?_) (AllReadyH.cons rfl (fun K hK => ?_) AllReadyH.nil))
          · go_simp
            refine hK.out _ _ trivial (fun hHeld => ?_)
            clear hK K
            try simp only [Act.put, List.setIfInBounds_toArray, List.set_cons_zero, List.set_cons_succ]
            refine wpAnyH_ready (rs := [4]) (by kernel_rfl) (by simp) (AllReadyH.cons rfl (fun K hK => ?_) AllReadyH.nil)
            go_simp
            refine hK.out _ _ trivial (fun hHeld => ?_)
            clear hK K
            try simp only [Act.put, List.setIfInBounds_toArray, List.set_cons_zero, List.set_cons_succ]
            obtain ⟨w7, A7, c7, hrun, hout7, HR⟩ := HN.out
            obtain ⟨m1, m2, m3, m4⟩ := hout7.cells
            have ml := hout7.lt
            refine wpAnyH_ready (rs := [5]) (by kernel_rfl) (by simp) (AllReadyH.cons rfl (fun K hK => ?_) AllReadyH.nil)
            rw [if_pos (by kernel_rfl)]
            refine append_wp (.tmp 17) (.tmp 20) rfl rfl rfl hrun ?_
            refine hK.out _ _ trivial (fun hHeld => ?_)
            clear hK K
            try simp only [Act.put, List.setIfInBounds_toArray, List.set_cons_zero, List.set_cons_succ]
            refine held_yes 6 (v := ?_) rfl (by kernel_rfl) (by kernel_rfl) (by kernel_rfl) (fun _ _ _ h => h) (by kernel_rfl) (fun w hSw => ?_) (by assumption) ?_
            rotate_left
            · (try dsimp only at hSw); go_simp; (try with_reducible rfl)
            try simp only [Act.put, List.setIfInBounds_toArray, List.set_cons_zero, List.set_cons_succ]
            refine wpAnyH_ready (rs := [7]) (by kernel_rfl) (by simp) (AllReadyH.cons rfl (fun K hK => ?_) AllReadyH.nil)
            go_simp
            refine hK.out _ _ trivial (fun hHeld => ?_)
            clear hK K
            try simp only [Act.put, List.setIfInBounds_toArray, List.set_cons_zero, List.set_cons_succ]
            refine wpAnyH_done (by kernel_rfl) ?_ _
            go_wp2_with fail
            exact ⟨⟨k + 1, by omega, by go_num, HR⟩, by simp [intOf]; omega⟩
          · go_simp
            refine hK.out _ _ trivial (fun hHeld => ?_)
            clear hK K
            try simp only [Act.put, List.setIfInBounds_toArray, List.set_cons_zero, List.set_cons_succ]
            have k2' := frm_cell (frm_alloc w5 (.cells #[.slice A5 ts.length c5] 36)) (frm_cell hf5 (frm_cell (frm_drew wr) k2))
            refine wpAnyH_ready (rs := [1]) (by kernel_rfl) (by simp) (AllReadyH.cons rfl (fun K hK => ?_) AllReadyH.nil)
            go_simp
            refine hK.out _ _ trivial (fun hHeld => ?_)
            clear hK K
            try simp only [Act.put, List.setIfInBounds_toArray, List.set_cons_zero, List.set_cons_succ]
            obtain ⟨w7, A7, c7, hrun, hout7, HR⟩ := HN.out
            obtain ⟨m1, m2, m3, m4⟩ := hout7.cells
            have ml := hout7.lt
            refine wpAnyH_ready (rs := [5]) (by kernel_rfl) (by simp) (AllReadyH.cons rfl (fun K hK => ?_) AllReadyH.nil)
            rw [if_pos (by kernel_rfl)]
            refine append_wp (.tmp 17) (.tmp 20) rfl rfl rfl hrun ?_
            refine hK.out _ _ trivial (fun hHeld => ?_)
            clear hK K
            try simp only [Act.put, List.setIfInBounds_toArray, List.set_cons_zero, List.set_cons_succ]
            refine held_yes 6 (v := ?_) rfl (by kernel_rfl) (by kernel_rfl) (by kernel_rfl) (fun _ _ _ h => h) (by kernel_rfl) (fun w hSw => ?_) (by assumption) ?_
            rotate_left
            · (try dsimp only at hSw); go_simp; (try with_reducible rfl)
            try simp only [Act.put, List.setIfInBounds_toArray, List.set_cons_zero, List.set_cons_succ]
            refine wpAnyH_ready (rs := [7]) (by kernel_rfl) (by simp) (AllReadyH.cons rfl (fun K hK => ?_) AllReadyH.nil)
            go_simp
            refine hK.out _ _ trivial (fun hHeld => ?_)
            clear hK K
            try simp only [Act.put, List.setIfInBounds_toArray, List.set_cons_zero, List.set_cons_succ]
            refine wpAnyH_done (by kernel_rfl) ?_ _
            go_wp2_with fail
            exact ⟨⟨k + 1, by omega, by go_num, HR⟩, by simp [intOf]; omega⟩
      · obtain rfl : k = args.length := by omega
        rw [List.take_length] at hmap
        have HM := Lib.hid hmap
        have HP := Lib.hid hpw
        clear hmap hpw hhi
        go_wp2_with fail
        have hfin : TwoAt ((wr.setCell ⟨w.heap.size + 1, 0, none⟩ (.int .i64 st)).setCell ⟨w.heap.size + 1, 1, none⟩ (.slice Av ps.length cv)) (w.heap.size + 1) (.int .i64 st) (.slice Av ps.length cv) 24 := (hres.set0 _).set1 _
        obtain ⟨f1, f2, _, _⟩ := hfin.cells
        have hlt5 := hO.lt
        have hG : wr.grownBy ((wr.setCell ⟨w.heap.size + 1, 0, none⟩ (.int .i64 st)).setCell ⟨w.heap.size + 1, 1, none⟩ (.slice Av ps.length cv)) (some (w.heap.size + 1)) := frm_set (frm_set (frm_refl _ _) _ _) _ _
        have hO2 := hO.kept moves_setX hG (by
          cases hv : (Value.slice Av ps.length cv).ownBlock with
          | none => exact .inl rfl
          | some g =>
            refine .inr fun e => ?_
            injection e with e
            have := (hlt5 g hv).1
            omega) (by
          intro b hb e
          injection e with e
          omega)
        exact bodyPost_ret (v := .agg #[.int .i64 st, .slice Av ps.length cv]) (by simp [results, Tryd.results92, go_sem, f1, f2]) rfl ⟨.slice Av ps.length cv, ps, rfl, frm_set_new (frm_set_new hfr (by omega) _ _) (by omega) _ _, (hO2.lower (by omega)).ok_mono moves_setX (fun b hb _ => by omega), HM.out, HP.out⟩
end Go.Proofs.YtmdgoalekkkpnaaDoor
