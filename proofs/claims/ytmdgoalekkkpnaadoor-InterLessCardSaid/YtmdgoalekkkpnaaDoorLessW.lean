/- InterLess: the law's walk. -/
import Derived.Test.YtmdgoalekkkpnaaDoorLess
import Derived.Test.YtmdgoalekkkpnaaDoorHeld
import Derived.Deep.RegionHeld3
import Derived.Deep.DeepCutAuto
import Derived.Deep.CutBlock
import Derived.StillTailTactics
import Derived.IntWalk
set_option linter.unusedVariables false
set_option linter.unusedSimpArgs false
namespace Go.Proofs.YtmdgoalekkkpnaaDoor
open Go.RowKit

theorem wf_i64 {n : Int} (h : (Lit.int .i64 n).wf = true) : -9223372036854775808 ≤ n ∧ n ≤ 9223372036854775807 := by
  simp [Lit.wf, IntKind.min, IntKind.max, IntKind.signed, IntKind.bits] at h
  omega

set_option maxRecDepth 100000 in
set_option maxHeartbeats 4000000 in
theorem less_calls (w : World) (x : Ty) (x0 x1 : Value) (i k : Int) (y : Ty) (y0 y1 : Value) (hx : TyO w x [x0, x1]) (hfit : x.Fit) (hy : TyO w y [y0, y1])
    (hi1 : -9223372036854775808 ≤ i) (hi2 : i ≤ 9223372036854775807) (hk1 : -9223372036854775808 ≤ k) (hk2 : k ≤ 9223372036854775807)
    (htab : Lib.TabIs Tryd.prog w "internal/strconv.uint64pow10" .u64 Lib.pow10Tab) :
    Calls Tryd.prog 6 #[.agg #[x0, x1], .int .i64 i, .int .i64 k, .agg #[y0, y1]] w (Ret w (.bool true)) := by
  have HT : Hid (Tab w.heap.size w) := Lib.tabBelow_of_tabIs htab
  clear htab
  obtain ⟨st, args⟩ := x
  have HX := Lib.hid hx
  have HFit := Lib.hid hfit
  rw [TyO_mk] at hx
  obtain ⟨v, hcs, hst1, hst2, hs⟩ := hx
  obtain ⟨rfl, rfl⟩ : x0 = .int .i64 st ∧ x1 = v := by simpa using hcs
  obtain ⟨A, c, rfl, hc, hm⟩ := hs.val
  clear hcs hfit
  obtain ⟨ys, yA, yn, yc, rfl, rfl⟩ := hy.vals
  have hf0 : w.grownBy ((w.alloc (.cells #[.int .i64 st, .slice A args.length c] 24)).alloc (.cells #[.int .i64 ys, .slice yA yn yc] 24)) none := frm_then_alloc (frm_alloc _ _) _
  have xb : TwoAt ((w.alloc (.cells #[.int .i64 st, .slice A args.length c] 24)).alloc (.cells #[.int .i64 ys, .slice yA yn yc] 24)) (w.heap.size) (.int .i64 st) (.slice A args.length c) 24 := (TwoAt.new _ _ _ _).alloc _
  have yb : TwoAt ((w.alloc (.cells #[.int .i64 st, .slice A args.length c] 24)).alloc (.cells #[.int .i64 ys, .slice yA yn yc] 24)) (w.heap.size + 1) (.int .i64 ys) (.slice yA yn yc) 24 := TwoAt.new2 _ _ _ _ _
  obtain ⟨xc0, xc1, _, _⟩ := xb.cells
  obtain ⟨yc0, yc1, _, _⟩ := yb.cells
  go_enter Tryd.func6, Tryd.ntmps6
  go_wp2_with fail
  refine (rlarge_calls _ _ _ _ (stays_ty _ _ _ _ hf0 HX.out)).mono ?_
  rintro e w1 ⟨rfl, g1⟩
  have hf1 := frm_trans hf0 g1
  clear xc0 xc1 yc0 yc1
  replace xb := xb.frm g1
  replace yb := yb.frm g1
  obtain ⟨xc0, xc1, _, _⟩ := xb.cells
  obtain ⟨yc0, yc1, _, _⟩ := yb.cells
  cases hl : (Ty.mk st args).large
  rotate_left
  · clear hl
    go_wp2_with fail
    refine (alive_calls _ (HT.out.step (frm_below hf1 (Nat.le_refl _))).here).mono ?_
    rintro e w9 ⟨rfl, g9⟩
    have hf9 := frm_trans hf1 g9
    go_wp2_with fail
    exact bodyPost_ret (results_tmp rfl _ _ _) rfl ⟨rfl, hf9⟩
  have HL := Lib.hid hl
  clear hl
  by_cases hi : i < 0
  ·
    go_wp2_with fail
    refine (alive_calls _ (HT.out.step (frm_below hf1 (Nat.le_refl _))).here).mono ?_
    rintro e w9 ⟨rfl, g9⟩
    have hf9 := frm_trans hf1 g9
    go_wp2_with fail
    exact bodyPost_ret (results_tmp rfl _ _ _) rfl ⟨rfl, hf9⟩
  obtain ⟨i, rfl⟩ : ∃ n : Nat, i = n := ⟨i.toNat, by omega⟩
  by_cases hi3 : args.length ≤ i
  · have hi4 : (args.length : Int) ≤ i := by omega
    go_wp2_with fail
    refine (alive_calls _ (HT.out.step (frm_below hf1 (Nat.le_refl _))).here).mono ?_
    rintro e w9 ⟨rfl, g9⟩
    have hf9 := frm_trans hf1 g9
    go_wp2_with fail
    exact bodyPost_ret (results_tmp rfl _ _ _) rfl ⟨rfl, hf9⟩
  have hlt : i < args.length := by omega
  by_cases hk : k < 0
  ·
    go_wp2_with fail
    refine (alive_calls _ (HT.out.step (frm_below hf1 (Nat.le_refl _))).here).mono ?_
    rintro e w9 ⟨rfl, g9⟩
    have hf9 := frm_trans hf1 g9
    go_wp2_with fail
    exact bodyPost_ret (results_tmp rfl _ _ _) rfl ⟨rfl, hf9⟩
  obtain ⟨k, rfl⟩ : ∃ n : Nat, k = n := ⟨k.toNat, by omega⟩
  obtain ⟨o, p, q, rfl, ho, hq, hqt⟩ := (hs.frm hf1 stays_set).at1 i hlt
  have hset := SetO.sl hqt
  have hlo := Lib.hid (Ty.less_stronger (k := k) hlt HL.out)
  have hoo := Lib.hid (fun (h : k < (args[i]).length) (y : Ty) (hw : Ty.stronger (args[i])[k] y = true) (ho : (Ty.mk st (args.set i ((args[i]).set k y))).large = false) => Ty.other_stronger hlt h HL.out hw ho)
  generalize hts : args[i] = ts at *
  have Hts := Lib.hid hts
  clear hts
  obtain ⟨A2, c2, rfl, hc2, hm2⟩ := hset.val
  by_cases hk3 : ts.length ≤ k
  · have hk4 : (ts.length : Int) ≤ k := by omega
    go_wp2_with fail
    refine (alive_calls _ (HT.out.step (frm_below hf1 (Nat.le_refl _))).here).mono ?_
    rintro e w9 ⟨rfl, g9⟩
    have hf9 := frm_trans hf1 g9
    go_wp2_with fail
    exact bodyPost_ret (results_tmp rfl _ _ _) rfl ⟨rfl, hf9⟩
  have hltk : k < ts.length := by omega
  obtain ⟨b2, o2, q0, q1, rfl, hb2, hq0, hq1, hqt2⟩ := hset.at2 k hltk
  have HT2 := Lib.hid hqt2
  obtain ⟨s3, A3, n3, c3, rfl, rfl⟩ := hqt2.vals
  clear hqt2
  go_upto_region 4 with fail
  obtain ⟨wb, hwb⟩ : ∃ wb, wb = w1.alloc (.cells #[.int .i64 s3, .slice A3 n3 c3] 24) := ⟨_, rfl⟩
  rw [← hwb]
  have hf2 : w.grownBy wb none := by rw [hwb]; exact frm_then_alloc hf1 _
  have g2 : w1.grownBy wb none := by rw [hwb]; exact frm_alloc _ _
  have ab : TwoAt wb w1.heap.size (.int .i64 s3) (.slice A3 n3 c3) 24 := by rw [hwb]; exact TwoAt.new _ _ _ _
  have Hwb := Lib.hid hwb
  clear hwb
  clear xc0 xc1 yc0 yc1
  replace xb := xb.frm g2
  replace yb := yb.frm g2
  obtain ⟨xc0, xc1, _, _⟩ := xb.cells
  obtain ⟨yc0, yc1, _, _⟩ := yb.cells
  have hybl := yb.lt
  go_cut [10, 11] (fun s10 s11 wx => Mid wb st args s10 s11 wx)
  case first =>
    have HS : Hid (∀ wx, wb.grownBy wx none → (wx.cell? ⟨w.heap.size, 0, none⟩ = some (.int .i64 st) ∧ wx.cell? ⟨w.heap.size, 1, none⟩ = some (.slice (some ⟨o, p, none⟩) args.length c))) := fun wx hg => ⟨frm_cell hg xc0, frm_cell hg xc1⟩
    have HC : Hid (∀ wx, wb.grownBy wx none → Calls Tryd.prog 23 #[.agg #[.int .i64 st, .slice (some ⟨o, p, none⟩) args.length c]] wx fun e w' => CopyPost wx st args e w') := fun wx hg => rcopy_calls (.mk st args) _ _ _ (stays_ty _ _ _ _ (frm_trans hf2 hg) HX.out) HFit.out
    refine wp_region_held_drew (S := fun wx => wx.cell? ⟨w.heap.size, 0, none⟩ = some (.int .i64 st) ∧ wx.cell? ⟨w.heap.size, 1, none⟩ = some (.slice (some ⟨o, p, none⟩) args.length c)) (by kernel_rfl) (HS.out _ (frm_drew _)) (fun hHeld => ?_)
    have hB0 := frm_drew wb
    clear hq hq0 hq1 hqt hset
    generalize wb.drew = v0 at *
    refine held_yes 0 (v := ?_) rfl (by kernel_rfl) (by kernel_rfl) (by kernel_rfl) (fun _ _ _ h => h) (by kernel_rfl) (fun w hSw => ?_) (by assumption) ?_
    rotate_left
    · obtain ⟨hS0, hS1⟩ := hSw
      go_simp
      (try with_reducible rfl)
    try simp only [Act.put, List.setIfInBounds_toArray, List.set_cons_zero, List.set_cons_succ]
    refine held_yes 2 (v := ?_) rfl (by kernel_rfl) (by kernel_rfl) (by kernel_rfl) (fun _ _ _ h => h) (by kernel_rfl) (fun w hSw => ?_) (by assumption) ?_
    rotate_left
    · obtain ⟨hS0, hS1⟩ := hSw
      go_simp
      (try with_reducible rfl)
    try simp only [Act.put, List.setIfInBounds_toArray, List.set_cons_zero, List.set_cons_succ]
    refine wpAnyH_ready (rs := [1, 4, 5]) (by kernel_rfl) (by simp) (AllReadyH.cons rfl (fun K hK => ?_) (AllReadyH.cons rfl (fun K hK => ?_) (AllReadyH.cons rfl (fun K hK => ?_) AllReadyH.nil)))
    · go_simp
      refine (HC.out _ hB0).mono ?_
      rintro e v1 ⟨u1, ps1, rfl, hg1, ho1, hp1, hpw1⟩
      have cc1 := Cp.new ho1 hp1 hpw1 hB0.size [] (by simp)
      obtain ⟨Au1, cu1, rfl, _⟩ := ho1.val
      clear ho1 hp1 hpw1
      go_wp2_with fail
      have hB1 := frm_trans hB0 hg1
      have hM1 := frm_refl v1 none
      have hlm := hB1.size
      refine hK.out _ _ (HS.out _ hB1) (fun hHeld => ?_)
      clear hK K
      try simp only [Act.put, List.setIfInBounds_toArray, List.set_cons_zero, List.set_cons_succ]
      refine wpAnyH_ready (rs := [3, 4, 5]) (by kernel_rfl) (by simp) (AllReadyH.cons rfl (fun K hK => ?_) (AllReadyH.cons rfl (fun K hK => ?_) (AllReadyH.cons rfl (fun K hK => ?_) AllReadyH.nil)))
      · go_simp
        refine (HC.out _ hB1).mono ?_
        rintro e v2 ⟨u2, ps2, rfl, hg2, ho2, hp2, hpw2⟩
        have cc2 := Cp.new ho2 hp2 hpw2 hM1.size [] (by simp)
        obtain ⟨Au2, cu2, rfl, _⟩ := ho2.val
        clear ho2 hp2 hpw2
        go_wp2_with fail
        have hB2 := frm_trans hB1 hg2
        have hM2 := frm_trans hM1 hg2
        have cc1_2 := cc1.frm hg2
        refine hK.out _ _ (HS.out _ hB2) (fun hHeld => ?_)
        clear hK K
        try simp only [Act.put, List.setIfInBounds_toArray, List.set_cons_zero, List.set_cons_succ]
        refine wpAnyH_ready (rs := [4, 5]) (by kernel_rfl) (by simp) (AllReadyH.cons rfl (fun K hK => ?_) (AllReadyH.cons rfl (fun K hK => ?_) AllReadyH.nil))
        · go_simp
          have hB3 : wb.grownBy (v2.alloc (.cells #[.int .i64 0, .slice none 0 0] 24)) none := frm_then_alloc hB2 _
          have hL3 := TwoAt.new v2 (.int .i64 0) (.slice none 0 0) 24
          have hloL := hB2.size
          have hM3 := frm_then_alloc hM2 (.cells #[.int .i64 0, .slice none 0 0] 24)
          have cc1_2_3 := cc1_2.alloc (.cells #[.int .i64 0, .slice none 0 0] 24)
          have cc2_3 := cc2.alloc (.cells #[.int .i64 0, .slice none 0 0] 24)
          refine hK.out _ _ (HS.out _ hB3) (fun hHeld => ?_)
          clear hK K
          try simp only [Act.put, List.setIfInBounds_toArray, List.set_cons_zero, List.set_cons_succ]
          generalize hgw3 : v2.alloc (.cells #[.int .i64 0, .slice none 0 0] 24) = v3 at *
          clear hgw3
          refine wpAnyH_ready (rs := [5]) (by kernel_rfl) (by simp) (AllReadyH.cons rfl (fun K hK => ?_) AllReadyH.nil)
          · go_simp
            have hB4 : wb.grownBy (v3.alloc (.cells #[.int .i64 0, .slice none 0 0] 24)) none := frm_then_alloc hB3 _
            have hO4 := TwoAt.new v3 (.int .i64 0) (.slice none 0 0) 24
            have hloO := hB3.size
            have hM4 := frm_then_alloc hM3 (.cells #[.int .i64 0, .slice none 0 0] 24)
            have hL4 := hL3.alloc (.cells #[.int .i64 0, .slice none 0 0] 24)
            have hne := hL3.lt
            have cc1_2_3_4 := cc1_2_3.alloc (.cells #[.int .i64 0, .slice none 0 0] 24)
            have cc2_3_4 := cc2_3.alloc (.cells #[.int .i64 0, .slice none 0 0] 24)
            refine hK.out _ _ (HS.out _ hB4) (fun hHeld => ?_)
            clear hK K
            try simp only [Act.put, List.setIfInBounds_toArray, List.set_cons_zero, List.set_cons_succ]
            generalize hgw4 : v3.alloc (.cells #[.int .i64 0, .slice none 0 0] 24) = v4 at *
            clear hgw4
            have hff1 : wb.grownBy ((v4.setCell ⟨v2.heap.size, 0, none⟩ (.int .i64 st)).setCell ⟨v2.heap.size, 1, none⟩ _) none := frm_set_new (frm_set_new hB4 hloL _ _) hloL _ (.slice Au1 ps1.length cu1)
            have hff2 := frm_set_new (frm_set_new hff1 hloO 0 (.int .i64 st)) hloO 1 (.slice Au2 ps2.length cu2)
            have hlL := hL4.lt
            have hlO := hO4.lt
            obtain ⟨hk1, hk2, hk3, hk4⟩ := hL4.cells
            obtain ⟨hk5, hk6, hk7, hk8⟩ := hO4.cells
            refine wpAnyH_ready (rs := [6]) (by kernel_rfl) (by simp) (AllReadyH.cons rfl (fun K hK => ?_) AllReadyH.nil)
            go_simp
            refine hK.out _ _ (HS.out _ hff1) (fun hHeld => ?_)
            clear hK K
            try simp only [Act.put, List.setIfInBounds_toArray, List.set_cons_zero, List.set_cons_succ]
            refine wpAnyH_ready (rs := [7]) (by kernel_rfl) (by simp) (AllReadyH.cons rfl (fun K hK => ?_) AllReadyH.nil)
            go_simp
            refine hK.out _ _ (HS.out _ hff2) (fun hHeld => ?_)
            clear hK K
            try simp only [Act.put, List.setIfInBounds_toArray, List.set_cons_zero, List.set_cons_succ]
            refine wpAnyH_done (by kernel_rfl) ?_ _
            go_wp2_with fail
            go_meet
            exact mid_close hB4 hL4 hO4 hloL hloO (by omega) hlm cc1_2_3_4 cc2_3_4 (by simp) (by simp)
        · go_simp
          have hB3 : wb.grownBy (v2.alloc (.cells #[.int .i64 0, .slice none 0 0] 24)) none := frm_then_alloc hB2 _
          have hO3 := TwoAt.new v2 (.int .i64 0) (.slice none 0 0) 24
          have hloO := hB2.size
          have hM3 := frm_then_alloc hM2 (.cells #[.int .i64 0, .slice none 0 0] 24)
          have cc1_2_3 := cc1_2.alloc (.cells #[.int .i64 0, .slice none 0 0] 24)
          have cc2_3 := cc2.alloc (.cells #[.int .i64 0, .slice none 0 0] 24)
          refine hK.out _ _ (HS.out _ hB3) (fun hHeld => ?_)
          clear hK K
          try simp only [Act.put, List.setIfInBounds_toArray, List.set_cons_zero, List.set_cons_succ]
          generalize hgw3 : v2.alloc (.cells #[.int .i64 0, .slice none 0 0] 24) = v3 at *
          clear hgw3
          refine wpAnyH_ready (rs := [4]) (by kernel_rfl) (by simp) (AllReadyH.cons rfl (fun K hK => ?_) AllReadyH.nil)
          · go_simp
            have hB4 : wb.grownBy (v3.alloc (.cells #[.int .i64 0, .slice none 0 0] 24)) none := frm_then_alloc hB3 _
            have hL4 := TwoAt.new v3 (.int .i64 0) (.slice none 0 0) 24
            have hloL := hB3.size
            have hM4 := frm_then_alloc hM3 (.cells #[.int .i64 0, .slice none 0 0] 24)
            have hO4 := hO3.alloc (.cells #[.int .i64 0, .slice none 0 0] 24)
            have hne := hO3.lt
            have cc1_2_3_4 := cc1_2_3.alloc (.cells #[.int .i64 0, .slice none 0 0] 24)
            have cc2_3_4 := cc2_3.alloc (.cells #[.int .i64 0, .slice none 0 0] 24)
            refine hK.out _ _ (HS.out _ hB4) (fun hHeld => ?_)
            clear hK K
            try simp only [Act.put, List.setIfInBounds_toArray, List.set_cons_zero, List.set_cons_succ]
            generalize hgw4 : v3.alloc (.cells #[.int .i64 0, .slice none 0 0] 24) = v4 at *
            clear hgw4
            have hff1 : wb.grownBy ((v4.setCell ⟨v3.heap.size, 0, none⟩ (.int .i64 st)).setCell ⟨v3.heap.size, 1, none⟩ _) none := frm_set_new (frm_set_new hB4 hloL _ _) hloL _ (.slice Au1 ps1.length cu1)
            have hff2 := frm_set_new (frm_set_new hff1 hloO 0 (.int .i64 st)) hloO 1 (.slice Au2 ps2.length cu2)
            have hlL := hL4.lt
            have hlO := hO4.lt
            obtain ⟨hk1, hk2, hk3, hk4⟩ := hL4.cells
            obtain ⟨hk5, hk6, hk7, hk8⟩ := hO4.cells
            refine wpAnyH_ready (rs := [6]) (by kernel_rfl) (by simp) (AllReadyH.cons rfl (fun K hK => ?_) AllReadyH.nil)
            go_simp
            refine hK.out _ _ (HS.out _ hff1) (fun hHeld => ?_)
            clear hK K
            try simp only [Act.put, List.setIfInBounds_toArray, List.set_cons_zero, List.set_cons_succ]
            refine wpAnyH_ready (rs := [7]) (by kernel_rfl) (by simp) (AllReadyH.cons rfl (fun K hK => ?_) AllReadyH.nil)
            go_simp
            refine hK.out _ _ (HS.out _ hff2) (fun hHeld => ?_)
            clear hK K
            try simp only [Act.put, List.setIfInBounds_toArray, List.set_cons_zero, List.set_cons_succ]
            refine wpAnyH_done (by kernel_rfl) ?_ _
            go_wp2_with fail
            go_meet
            exact mid_close hB4 hL4 hO4 hloL hloO (by omega) hlm cc1_2_3_4 cc2_3_4 (by simp) (by simp)
      · go_simp
        have hB2 : wb.grownBy (v1.alloc (.cells #[.int .i64 0, .slice none 0 0] 24)) none := frm_then_alloc hB1 _
        have hL2 := TwoAt.new v1 (.int .i64 0) (.slice none 0 0) 24
        have hloL := hB1.size
        have hM2 := frm_then_alloc hM1 (.cells #[.int .i64 0, .slice none 0 0] 24)
        have cc1_2 := cc1.alloc (.cells #[.int .i64 0, .slice none 0 0] 24)
        refine hK.out _ _ (HS.out _ hB2) (fun hHeld => ?_)
        clear hK K
        try simp only [Act.put, List.setIfInBounds_toArray, List.set_cons_zero, List.set_cons_succ]
        generalize hgw2 : v1.alloc (.cells #[.int .i64 0, .slice none 0 0] 24) = v2 at *
        clear hgw2
        refine wpAnyH_ready (rs := [3, 5]) (by kernel_rfl) (by simp) (AllReadyH.cons rfl (fun K hK => ?_) (AllReadyH.cons rfl (fun K hK => ?_) AllReadyH.nil))
        · go_simp
          refine (HC.out _ hB2).mono ?_
          rintro e v3 ⟨u3, ps3, rfl, hg3, ho3, hp3, hpw3⟩
          have cc3 := Cp.new ho3 hp3 hpw3 hM2.size [v1.heap.size] (by simp only [List.mem_cons, List.not_mem_nil, or_false]; rintro b rfl <;> first | exact hL2.lt)
          obtain ⟨Au3, cu3, rfl, _⟩ := ho3.val
          clear ho3 hp3 hpw3
          go_wp2_with fail
          have hB3 := frm_trans hB2 hg3
          have hM3 := frm_trans hM2 hg3
          have hL3 := hL2.frm hg3
          have cc1_2_3 := cc1_2.frm hg3
          refine hK.out _ _ (HS.out _ hB3) (fun hHeld => ?_)
          clear hK K
          try simp only [Act.put, List.setIfInBounds_toArray, List.set_cons_zero, List.set_cons_succ]
          refine wpAnyH_ready (rs := [5]) (by kernel_rfl) (by simp) (AllReadyH.cons rfl (fun K hK => ?_) AllReadyH.nil)
          · go_simp
            have hB4 : wb.grownBy (v3.alloc (.cells #[.int .i64 0, .slice none 0 0] 24)) none := frm_then_alloc hB3 _
            have hO4 := TwoAt.new v3 (.int .i64 0) (.slice none 0 0) 24
            have hloO := hB3.size
            have hM4 := frm_then_alloc hM3 (.cells #[.int .i64 0, .slice none 0 0] 24)
            have hL4 := hL3.alloc (.cells #[.int .i64 0, .slice none 0 0] 24)
            have hne := hL3.lt
            have cc1_2_3_4 := cc1_2_3.alloc (.cells #[.int .i64 0, .slice none 0 0] 24)
            have cc3_4 := cc3.alloc (.cells #[.int .i64 0, .slice none 0 0] 24)
            refine hK.out _ _ (HS.out _ hB4) (fun hHeld => ?_)
            clear hK K
            try simp only [Act.put, List.setIfInBounds_toArray, List.set_cons_zero, List.set_cons_succ]
            generalize hgw4 : v3.alloc (.cells #[.int .i64 0, .slice none 0 0] 24) = v4 at *
            clear hgw4
            have hff1 : wb.grownBy ((v4.setCell ⟨v1.heap.size, 0, none⟩ (.int .i64 st)).setCell ⟨v1.heap.size, 1, none⟩ _) none := frm_set_new (frm_set_new hB4 hloL _ _) hloL _ (.slice Au1 ps1.length cu1)
            have hff2 := frm_set_new (frm_set_new hff1 hloO 0 (.int .i64 st)) hloO 1 (.slice Au3 ps3.length cu3)
            have hlL := hL4.lt
            have hlO := hO4.lt
            obtain ⟨hk1, hk2, hk3, hk4⟩ := hL4.cells
            obtain ⟨hk5, hk6, hk7, hk8⟩ := hO4.cells
            refine wpAnyH_ready (rs := [6]) (by kernel_rfl) (by simp) (AllReadyH.cons rfl (fun K hK => ?_) AllReadyH.nil)
            go_simp
            refine hK.out _ _ (HS.out _ hff1) (fun hHeld => ?_)
            clear hK K
            try simp only [Act.put, List.setIfInBounds_toArray, List.set_cons_zero, List.set_cons_succ]
            refine wpAnyH_ready (rs := [7]) (by kernel_rfl) (by simp) (AllReadyH.cons rfl (fun K hK => ?_) AllReadyH.nil)
            go_simp
            refine hK.out _ _ (HS.out _ hff2) (fun hHeld => ?_)
            clear hK K
            try simp only [Act.put, List.setIfInBounds_toArray, List.set_cons_zero, List.set_cons_succ]
            refine wpAnyH_done (by kernel_rfl) ?_ _
            go_wp2_with fail
            go_meet
            exact mid_close hB4 hL4 hO4 hloL hloO (by omega) hlm cc1_2_3_4 cc3_4 (by simp) (by simp)
        · go_simp
          have hB3 : wb.grownBy (v2.alloc (.cells #[.int .i64 0, .slice none 0 0] 24)) none := frm_then_alloc hB2 _
          have hO3 := TwoAt.new v2 (.int .i64 0) (.slice none 0 0) 24
          have hloO := hB2.size
          have hM3 := frm_then_alloc hM2 (.cells #[.int .i64 0, .slice none 0 0] 24)
          have hL3 := hL2.alloc (.cells #[.int .i64 0, .slice none 0 0] 24)
          have hne := hL2.lt
          have cc1_2_3 := cc1_2.alloc (.cells #[.int .i64 0, .slice none 0 0] 24)
          refine hK.out _ _ (HS.out _ hB3) (fun hHeld => ?_)
          clear hK K
          try simp only [Act.put, List.setIfInBounds_toArray, List.set_cons_zero, List.set_cons_succ]
          generalize hgw3 : v2.alloc (.cells #[.int .i64 0, .slice none 0 0] 24) = v3 at *
          clear hgw3
          refine wpAnyH_ready (rs := [3]) (by kernel_rfl) (by simp) (AllReadyH.cons rfl (fun K hK => ?_) AllReadyH.nil)
          · go_simp
            refine (HC.out _ hB3).mono ?_
            rintro e v4 ⟨u4, ps4, rfl, hg4, ho4, hp4, hpw4⟩
            have cc4 := Cp.new ho4 hp4 hpw4 hM3.size [v1.heap.size, v2.heap.size] (by simp only [List.mem_cons, List.not_mem_nil, or_false]; rintro b (rfl | rfl) <;> first | exact hL3.lt | exact hO3.lt)
            obtain ⟨Au4, cu4, rfl, _⟩ := ho4.val
            clear ho4 hp4 hpw4
            go_wp2_with fail
            have hB4 := frm_trans hB3 hg4
            have hM4 := frm_trans hM3 hg4
            have hL4 := hL3.frm hg4
            have hO4 := hO3.frm hg4
            have cc1_2_3_4 := cc1_2_3.frm hg4
            refine hK.out _ _ (HS.out _ hB4) (fun hHeld => ?_)
            clear hK K
            try simp only [Act.put, List.setIfInBounds_toArray, List.set_cons_zero, List.set_cons_succ]
            have hff1 : wb.grownBy ((v4.setCell ⟨v1.heap.size, 0, none⟩ (.int .i64 st)).setCell ⟨v1.heap.size, 1, none⟩ _) none := frm_set_new (frm_set_new hB4 hloL _ _) hloL _ (.slice Au1 ps1.length cu1)
            have hff2 := frm_set_new (frm_set_new hff1 hloO 0 (.int .i64 st)) hloO 1 (.slice Au4 ps4.length cu4)
            have hlL := hL4.lt
            have hlO := hO4.lt
            obtain ⟨hk1, hk2, hk3, hk4⟩ := hL4.cells
            obtain ⟨hk5, hk6, hk7, hk8⟩ := hO4.cells
            refine wpAnyH_ready (rs := [6]) (by kernel_rfl) (by simp) (AllReadyH.cons rfl (fun K hK => ?_) AllReadyH.nil)
            go_simp
            refine hK.out _ _ (HS.out _ hff1) (fun hHeld => ?_)
            clear hK K
            try simp only [Act.put, List.setIfInBounds_toArray, List.set_cons_zero, List.set_cons_succ]
            refine wpAnyH_ready (rs := [7]) (by kernel_rfl) (by simp) (AllReadyH.cons rfl (fun K hK => ?_) AllReadyH.nil)
            go_simp
            refine hK.out _ _ (HS.out _ hff2) (fun hHeld => ?_)
            clear hK K
            try simp only [Act.put, List.setIfInBounds_toArray, List.set_cons_zero, List.set_cons_succ]
            refine wpAnyH_done (by kernel_rfl) ?_ _
            go_wp2_with fail
            go_meet
            exact mid_close hB4 hL4 hO4 hloL hloO (by omega) hlm cc1_2_3_4 cc4 (by simp) (by simp)
      · go_simp
        have hB2 : wb.grownBy (v1.alloc (.cells #[.int .i64 0, .slice none 0 0] 24)) none := frm_then_alloc hB1 _
        have hO2 := TwoAt.new v1 (.int .i64 0) (.slice none 0 0) 24
        have hloO := hB1.size
        have hM2 := frm_then_alloc hM1 (.cells #[.int .i64 0, .slice none 0 0] 24)
        have cc1_2 := cc1.alloc (.cells #[.int .i64 0, .slice none 0 0] 24)
        refine hK.out _ _ (HS.out _ hB2) (fun hHeld => ?_)
        clear hK K
        try simp only [Act.put, List.setIfInBounds_toArray, List.set_cons_zero, List.set_cons_succ]
        generalize hgw2 : v1.alloc (.cells #[.int .i64 0, .slice none 0 0] 24) = v2 at *
        clear hgw2
        refine wpAnyH_ready (rs := [3, 4]) (by kernel_rfl) (by simp) (AllReadyH.cons rfl (fun K hK => ?_) (AllReadyH.cons rfl (fun K hK => ?_) AllReadyH.nil))
        · go_simp
          refine (HC.out _ hB2).mono ?_
          rintro e v3 ⟨u3, ps3, rfl, hg3, ho3, hp3, hpw3⟩
          have cc3 := Cp.new ho3 hp3 hpw3 hM2.size [v1.heap.size] (by simp only [List.mem_cons, List.not_mem_nil, or_false]; rintro b rfl <;> first | exact hO2.lt)
          obtain ⟨Au3, cu3, rfl, _⟩ := ho3.val
          clear ho3 hp3 hpw3
          go_wp2_with fail
          have hB3 := frm_trans hB2 hg3
          have hM3 := frm_trans hM2 hg3
          have hO3 := hO2.frm hg3
          have cc1_2_3 := cc1_2.frm hg3
          refine hK.out _ _ (HS.out _ hB3) (fun hHeld => ?_)
          clear hK K
          try simp only [Act.put, List.setIfInBounds_toArray, List.set_cons_zero, List.set_cons_succ]
          refine wpAnyH_ready (rs := [4]) (by kernel_rfl) (by simp) (AllReadyH.cons rfl (fun K hK => ?_) AllReadyH.nil)
          · go_simp
            have hB4 : wb.grownBy (v3.alloc (.cells #[.int .i64 0, .slice none 0 0] 24)) none := frm_then_alloc hB3 _
            have hL4 := TwoAt.new v3 (.int .i64 0) (.slice none 0 0) 24
            have hloL := hB3.size
            have hM4 := frm_then_alloc hM3 (.cells #[.int .i64 0, .slice none 0 0] 24)
            have hO4 := hO3.alloc (.cells #[.int .i64 0, .slice none 0 0] 24)
            have hne := hO3.lt
            have cc1_2_3_4 := cc1_2_3.alloc (.cells #[.int .i64 0, .slice none 0 0] 24)
            have cc3_4 := cc3.alloc (.cells #[.int .i64 0, .slice none 0 0] 24)
            refine hK.out _ _ (HS.out _ hB4) (fun hHeld => ?_)
            clear hK K
            try simp only [Act.put, List.setIfInBounds_toArray, List.set_cons_zero, List.set_cons_succ]
            generalize hgw4 : v3.alloc (.cells #[.int .i64 0, .slice none 0 0] 24) = v4 at *
            clear hgw4
            have hff1 : wb.grownBy ((v4.setCell ⟨v3.heap.size, 0, none⟩ (.int .i64 st)).setCell ⟨v3.heap.size, 1, none⟩ _) none := frm_set_new (frm_set_new hB4 hloL _ _) hloL _ (.slice Au1 ps1.length cu1)
            have hff2 := frm_set_new (frm_set_new hff1 hloO 0 (.int .i64 st)) hloO 1 (.slice Au3 ps3.length cu3)
            have hlL := hL4.lt
            have hlO := hO4.lt
            obtain ⟨hk1, hk2, hk3, hk4⟩ := hL4.cells
            obtain ⟨hk5, hk6, hk7, hk8⟩ := hO4.cells
            refine wpAnyH_ready (rs := [6]) (by kernel_rfl) (by simp) (AllReadyH.cons rfl (fun K hK => ?_) AllReadyH.nil)
            go_simp
            refine hK.out _ _ (HS.out _ hff1) (fun hHeld => ?_)
            clear hK K
            try simp only [Act.put, List.setIfInBounds_toArray, List.set_cons_zero, List.set_cons_succ]
            refine wpAnyH_ready (rs := [7]) (by kernel_rfl) (by simp) (AllReadyH.cons rfl (fun K hK => ?_) AllReadyH.nil)
            go_simp
            refine hK.out _ _ (HS.out _ hff2) (fun hHeld => ?_)
            clear hK K
            try simp only [Act.put, List.setIfInBounds_toArray, List.set_cons_zero, List.set_cons_succ]
            refine wpAnyH_done (by kernel_rfl) ?_ _
            go_wp2_with fail
            go_meet
            exact mid_close hB4 hL4 hO4 hloL hloO (by omega) hlm cc1_2_3_4 cc3_4 (by simp) (by simp)
        · go_simp
          have hB3 : wb.grownBy (v2.alloc (.cells #[.int .i64 0, .slice none 0 0] 24)) none := frm_then_alloc hB2 _
          have hL3 := TwoAt.new v2 (.int .i64 0) (.slice none 0 0) 24
          have hloL := hB2.size
          have hM3 := frm_then_alloc hM2 (.cells #[.int .i64 0, .slice none 0 0] 24)
          have hO3 := hO2.alloc (.cells #[.int .i64 0, .slice none 0 0] 24)
          have hne := hO2.lt
          have cc1_2_3 := cc1_2.alloc (.cells #[.int .i64 0, .slice none 0 0] 24)
          refine hK.out _ _ (HS.out _ hB3) (fun hHeld => ?_)
          clear hK K
          try simp only [Act.put, List.setIfInBounds_toArray, List.set_cons_zero, List.set_cons_succ]
          generalize hgw3 : v2.alloc (.cells #[.int .i64 0, .slice none 0 0] 24) = v3 at *
          clear hgw3
          refine wpAnyH_ready (rs := [3]) (by kernel_rfl) (by simp) (AllReadyH.cons rfl (fun K hK => ?_) AllReadyH.nil)
          · go_simp
            refine (HC.out _ hB3).mono ?_
            rintro e v4 ⟨u4, ps4, rfl, hg4, ho4, hp4, hpw4⟩
            have cc4 := Cp.new ho4 hp4 hpw4 hM3.size [v2.heap.size, v1.heap.size] (by simp only [List.mem_cons, List.not_mem_nil, or_false]; rintro b (rfl | rfl) <;> first | exact hL3.lt | exact hO3.lt)
            obtain ⟨Au4, cu4, rfl, _⟩ := ho4.val
            clear ho4 hp4 hpw4
            go_wp2_with fail
            have hB4 := frm_trans hB3 hg4
            have hM4 := frm_trans hM3 hg4
            have hL4 := hL3.frm hg4
            have hO4 := hO3.frm hg4
            have cc1_2_3_4 := cc1_2_3.frm hg4
            refine hK.out _ _ (HS.out _ hB4) (fun hHeld => ?_)
            clear hK K
            try simp only [Act.put, List.setIfInBounds_toArray, List.set_cons_zero, List.set_cons_succ]
            have hff1 : wb.grownBy ((v4.setCell ⟨v2.heap.size, 0, none⟩ (.int .i64 st)).setCell ⟨v2.heap.size, 1, none⟩ _) none := frm_set_new (frm_set_new hB4 hloL _ _) hloL _ (.slice Au1 ps1.length cu1)
            have hff2 := frm_set_new (frm_set_new hff1 hloO 0 (.int .i64 st)) hloO 1 (.slice Au4 ps4.length cu4)
            have hlL := hL4.lt
            have hlO := hO4.lt
            obtain ⟨hk1, hk2, hk3, hk4⟩ := hL4.cells
            obtain ⟨hk5, hk6, hk7, hk8⟩ := hO4.cells
            refine wpAnyH_ready (rs := [6]) (by kernel_rfl) (by simp) (AllReadyH.cons rfl (fun K hK => ?_) AllReadyH.nil)
            go_simp
            refine hK.out _ _ (HS.out _ hff1) (fun hHeld => ?_)
            clear hK K
            try simp only [Act.put, List.setIfInBounds_toArray, List.set_cons_zero, List.set_cons_succ]
            refine wpAnyH_ready (rs := [7]) (by kernel_rfl) (by simp) (AllReadyH.cons rfl (fun K hK => ?_) AllReadyH.nil)
            go_simp
            refine hK.out _ _ (HS.out _ hff2) (fun hHeld => ?_)
            clear hK K
            try simp only [Act.put, List.setIfInBounds_toArray, List.set_cons_zero, List.set_cons_succ]
            refine wpAnyH_done (by kernel_rfl) ?_ _
            go_wp2_with fail
            go_meet
            exact mid_close hB4 hL4 hO4 hloL hloO (by omega) hlm cc1_2_3_4 cc4 (by simp) (by simp)
    · go_simp
      have hB1 : wb.grownBy (v0.alloc (.cells #[.int .i64 0, .slice none 0 0] 24)) none := frm_then_alloc hB0 _
      have hL1 := TwoAt.new v0 (.int .i64 0) (.slice none 0 0) 24
      have hloL := hB0.size
      refine hK.out _ _ (HS.out _ hB1) (fun hHeld => ?_)
      clear hK K
      try simp only [Act.put, List.setIfInBounds_toArray, List.set_cons_zero, List.set_cons_succ]
      generalize hgw1 : v0.alloc (.cells #[.int .i64 0, .slice none 0 0] 24) = v1 at *
      clear hgw1
      refine wpAnyH_ready (rs := [1, 5]) (by kernel_rfl) (by simp) (AllReadyH.cons rfl (fun K hK => ?_) (AllReadyH.cons rfl (fun K hK => ?_) AllReadyH.nil))
      · go_simp
        refine (HC.out _ hB1).mono ?_
        rintro e v2 ⟨u2, ps2, rfl, hg2, ho2, hp2, hpw2⟩
        have cc2 := Cp.new ho2 hp2 hpw2 hB1.size [v0.heap.size] (by simp only [List.mem_cons, List.not_mem_nil, or_false]; rintro b rfl <;> first | exact hL1.lt)
        obtain ⟨Au2, cu2, rfl, _⟩ := ho2.val
        clear ho2 hp2 hpw2
        go_wp2_with fail
        have hB2 := frm_trans hB1 hg2
        have hM2 := frm_refl v2 none
        have hlm := hB2.size
        have hL2 := hL1.frm hg2
        refine hK.out _ _ (HS.out _ hB2) (fun hHeld => ?_)
        clear hK K
        try simp only [Act.put, List.setIfInBounds_toArray, List.set_cons_zero, List.set_cons_succ]
        refine wpAnyH_ready (rs := [3, 5]) (by kernel_rfl) (by simp) (AllReadyH.cons rfl (fun K hK => ?_) (AllReadyH.cons rfl (fun K hK => ?_) AllReadyH.nil))
        · go_simp
          refine (HC.out _ hB2).mono ?_
          rintro e v3 ⟨u3, ps3, rfl, hg3, ho3, hp3, hpw3⟩
          have cc3 := Cp.new ho3 hp3 hpw3 hM2.size [v0.heap.size] (by simp only [List.mem_cons, List.not_mem_nil, or_false]; rintro b rfl <;> first | exact hL2.lt)
          obtain ⟨Au3, cu3, rfl, _⟩ := ho3.val
          clear ho3 hp3 hpw3
          go_wp2_with fail
          have hB3 := frm_trans hB2 hg3
          have hM3 := frm_trans hM2 hg3
          have hL3 := hL2.frm hg3
          have cc2_3 := cc2.frm hg3
          refine hK.out _ _ (HS.out _ hB3) (fun hHeld => ?_)
          clear hK K
          try simp only [Act.put, List.setIfInBounds_toArray, List.set_cons_zero, List.set_cons_succ]
          refine wpAnyH_ready (rs := [5]) (by kernel_rfl) (by simp) (AllReadyH.cons rfl (fun K hK => ?_) AllReadyH.nil)
          · go_simp
            have hB4 : wb.grownBy (v3.alloc (.cells #[.int .i64 0, .slice none 0 0] 24)) none := frm_then_alloc hB3 _
            have hO4 := TwoAt.new v3 (.int .i64 0) (.slice none 0 0) 24
            have hloO := hB3.size
            have hM4 := frm_then_alloc hM3 (.cells #[.int .i64 0, .slice none 0 0] 24)
            have hL4 := hL3.alloc (.cells #[.int .i64 0, .slice none 0 0] 24)
            have hne := hL3.lt
            have cc2_3_4 := cc2_3.alloc (.cells #[.int .i64 0, .slice none 0 0] 24)
            have cc3_4 := cc3.alloc (.cells #[.int .i64 0, .slice none 0 0] 24)
            refine hK.out _ _ (HS.out _ hB4) (fun hHeld => ?_)
            clear hK K
            try simp only [Act.put, List.setIfInBounds_toArray, List.set_cons_zero, List.set_cons_succ]
            generalize hgw4 : v3.alloc (.cells #[.int .i64 0, .slice none 0 0] 24) = v4 at *
            clear hgw4
            have hff1 : wb.grownBy ((v4.setCell ⟨v0.heap.size, 0, none⟩ (.int .i64 st)).setCell ⟨v0.heap.size, 1, none⟩ _) none := frm_set_new (frm_set_new hB4 hloL _ _) hloL _ (.slice Au2 ps2.length cu2)
            have hff2 := frm_set_new (frm_set_new hff1 hloO 0 (.int .i64 st)) hloO 1 (.slice Au3 ps3.length cu3)
            have hlL := hL4.lt
            have hlO := hO4.lt
            obtain ⟨hk1, hk2, hk3, hk4⟩ := hL4.cells
            obtain ⟨hk5, hk6, hk7, hk8⟩ := hO4.cells
            refine wpAnyH_ready (rs := [6]) (by kernel_rfl) (by simp) (AllReadyH.cons rfl (fun K hK => ?_) AllReadyH.nil)
            go_simp
            refine hK.out _ _ (HS.out _ hff1) (fun hHeld => ?_)
            clear hK K
            try simp only [Act.put, List.setIfInBounds_toArray, List.set_cons_zero, List.set_cons_succ]
            refine wpAnyH_ready (rs := [7]) (by kernel_rfl) (by simp) (AllReadyH.cons rfl (fun K hK => ?_) AllReadyH.nil)
            go_simp
            refine hK.out _ _ (HS.out _ hff2) (fun hHeld => ?_)
            clear hK K
            try simp only [Act.put, List.setIfInBounds_toArray, List.set_cons_zero, List.set_cons_succ]
            refine wpAnyH_done (by kernel_rfl) ?_ _
            go_wp2_with fail
            go_meet
            exact mid_close hB4 hL4 hO4 hloL hloO (by omega) hlm cc2_3_4 cc3_4 (by simp) (by simp)
        · go_simp
          have hB3 : wb.grownBy (v2.alloc (.cells #[.int .i64 0, .slice none 0 0] 24)) none := frm_then_alloc hB2 _
          have hO3 := TwoAt.new v2 (.int .i64 0) (.slice none 0 0) 24
          have hloO := hB2.size
          have hM3 := frm_then_alloc hM2 (.cells #[.int .i64 0, .slice none 0 0] 24)
          have hL3 := hL2.alloc (.cells #[.int .i64 0, .slice none 0 0] 24)
          have hne := hL2.lt
          have cc2_3 := cc2.alloc (.cells #[.int .i64 0, .slice none 0 0] 24)
          refine hK.out _ _ (HS.out _ hB3) (fun hHeld => ?_)
          clear hK K
          try simp only [Act.put, List.setIfInBounds_toArray, List.set_cons_zero, List.set_cons_succ]
          generalize hgw3 : v2.alloc (.cells #[.int .i64 0, .slice none 0 0] 24) = v3 at *
          clear hgw3
          refine wpAnyH_ready (rs := [3]) (by kernel_rfl) (by simp) (AllReadyH.cons rfl (fun K hK => ?_) AllReadyH.nil)
          · go_simp
            refine (HC.out _ hB3).mono ?_
            rintro e v4 ⟨u4, ps4, rfl, hg4, ho4, hp4, hpw4⟩
            have cc4 := Cp.new ho4 hp4 hpw4 hM3.size [v0.heap.size, v2.heap.size] (by simp only [List.mem_cons, List.not_mem_nil, or_false]; rintro b (rfl | rfl) <;> first | exact hL3.lt | exact hO3.lt)
            obtain ⟨Au4, cu4, rfl, _⟩ := ho4.val
            clear ho4 hp4 hpw4
            go_wp2_with fail
            have hB4 := frm_trans hB3 hg4
            have hM4 := frm_trans hM3 hg4
            have hL4 := hL3.frm hg4
            have hO4 := hO3.frm hg4
            have cc2_3_4 := cc2_3.frm hg4
            refine hK.out _ _ (HS.out _ hB4) (fun hHeld => ?_)
            clear hK K
            try simp only [Act.put, List.setIfInBounds_toArray, List.set_cons_zero, List.set_cons_succ]
            have hff1 : wb.grownBy ((v4.setCell ⟨v0.heap.size, 0, none⟩ (.int .i64 st)).setCell ⟨v0.heap.size, 1, none⟩ _) none := frm_set_new (frm_set_new hB4 hloL _ _) hloL _ (.slice Au2 ps2.length cu2)
            have hff2 := frm_set_new (frm_set_new hff1 hloO 0 (.int .i64 st)) hloO 1 (.slice Au4 ps4.length cu4)
            have hlL := hL4.lt
            have hlO := hO4.lt
            obtain ⟨hk1, hk2, hk3, hk4⟩ := hL4.cells
            obtain ⟨hk5, hk6, hk7, hk8⟩ := hO4.cells
            refine wpAnyH_ready (rs := [6]) (by kernel_rfl) (by simp) (AllReadyH.cons rfl (fun K hK => ?_) AllReadyH.nil)
            go_simp
            refine hK.out _ _ (HS.out _ hff1) (fun hHeld => ?_)
            clear hK K
            try simp only [Act.put, List.setIfInBounds_toArray, List.set_cons_zero, List.set_cons_succ]
            refine wpAnyH_ready (rs := [7]) (by kernel_rfl) (by simp) (AllReadyH.cons rfl (fun K hK => ?_) AllReadyH.nil)
            go_simp
            refine hK.out _ _ (HS.out _ hff2) (fun hHeld => ?_)
            clear hK K
            try simp only [Act.put, List.setIfInBounds_toArray, List.set_cons_zero, List.set_cons_succ]
            refine wpAnyH_done (by kernel_rfl) ?_ _
            go_wp2_with fail
            go_meet
            exact mid_close hB4 hL4 hO4 hloL hloO (by omega) hlm cc2_3_4 cc4 (by simp) (by simp)
      · go_simp
        have hB2 : wb.grownBy (v1.alloc (.cells #[.int .i64 0, .slice none 0 0] 24)) none := frm_then_alloc hB1 _
        have hO2 := TwoAt.new v1 (.int .i64 0) (.slice none 0 0) 24
        have hloO := hB1.size
        have hL2 := hL1.alloc (.cells #[.int .i64 0, .slice none 0 0] 24)
        have hne := hL1.lt
        refine hK.out _ _ (HS.out _ hB2) (fun hHeld => ?_)
        clear hK K
        try simp only [Act.put, List.setIfInBounds_toArray, List.set_cons_zero, List.set_cons_succ]
        generalize hgw2 : v1.alloc (.cells #[.int .i64 0, .slice none 0 0] 24) = v2 at *
        clear hgw2
        refine wpAnyH_ready (rs := [1]) (by kernel_rfl) (by simp) (AllReadyH.cons rfl (fun K hK => ?_) AllReadyH.nil)
        · go_simp
          refine (HC.out _ hB2).mono ?_
          rintro e v3 ⟨u3, ps3, rfl, hg3, ho3, hp3, hpw3⟩
          have cc3 := Cp.new ho3 hp3 hpw3 hB2.size [v0.heap.size, v1.heap.size] (by simp only [List.mem_cons, List.not_mem_nil, or_false]; rintro b (rfl | rfl) <;> first | exact hL2.lt | exact hO2.lt)
          obtain ⟨Au3, cu3, rfl, _⟩ := ho3.val
          clear ho3 hp3 hpw3
          go_wp2_with fail
          have hB3 := frm_trans hB2 hg3
          have hM3 := frm_refl v3 none
          have hlm := hB3.size
          have hL3 := hL2.frm hg3
          have hO3 := hO2.frm hg3
          refine hK.out _ _ (HS.out _ hB3) (fun hHeld => ?_)
          clear hK K
          try simp only [Act.put, List.setIfInBounds_toArray, List.set_cons_zero, List.set_cons_succ]
          refine wpAnyH_ready (rs := [3]) (by kernel_rfl) (by simp) (AllReadyH.cons rfl (fun K hK => ?_) AllReadyH.nil)
          · go_simp
            refine (HC.out _ hB3).mono ?_
            rintro e v4 ⟨u4, ps4, rfl, hg4, ho4, hp4, hpw4⟩
            have cc4 := Cp.new ho4 hp4 hpw4 hM3.size [v0.heap.size, v1.heap.size] (by simp only [List.mem_cons, List.not_mem_nil, or_false]; rintro b (rfl | rfl) <;> first | exact hL3.lt | exact hO3.lt)
            obtain ⟨Au4, cu4, rfl, _⟩ := ho4.val
            clear ho4 hp4 hpw4
            go_wp2_with fail
            have hB4 := frm_trans hB3 hg4
            have hM4 := frm_trans hM3 hg4
            have hL4 := hL3.frm hg4
            have hO4 := hO3.frm hg4
            have cc3_4 := cc3.frm hg4
            refine hK.out _ _ (HS.out _ hB4) (fun hHeld => ?_)
            clear hK K
            try simp only [Act.put, List.setIfInBounds_toArray, List.set_cons_zero, List.set_cons_succ]
            have hff1 : wb.grownBy ((v4.setCell ⟨v0.heap.size, 0, none⟩ (.int .i64 st)).setCell ⟨v0.heap.size, 1, none⟩ _) none := frm_set_new (frm_set_new hB4 hloL _ _) hloL _ (.slice Au3 ps3.length cu3)
            have hff2 := frm_set_new (frm_set_new hff1 hloO 0 (.int .i64 st)) hloO 1 (.slice Au4 ps4.length cu4)
            have hlL := hL4.lt
            have hlO := hO4.lt
            obtain ⟨hk1, hk2, hk3, hk4⟩ := hL4.cells
            obtain ⟨hk5, hk6, hk7, hk8⟩ := hO4.cells
            refine wpAnyH_ready (rs := [6]) (by kernel_rfl) (by simp) (AllReadyH.cons rfl (fun K hK => ?_) AllReadyH.nil)
            go_simp
            refine hK.out _ _ (HS.out _ hff1) (fun hHeld => ?_)
            clear hK K
            try simp only [Act.put, List.setIfInBounds_toArray, List.set_cons_zero, List.set_cons_succ]
            refine wpAnyH_ready (rs := [7]) (by kernel_rfl) (by simp) (AllReadyH.cons rfl (fun K hK => ?_) AllReadyH.nil)
            go_simp
            refine hK.out _ _ (HS.out _ hff2) (fun hHeld => ?_)
            clear hK K
            try simp only [Act.put, List.setIfInBounds_toArray, List.set_cons_zero, List.set_cons_succ]
            refine wpAnyH_done (by kernel_rfl) ?_ _
            go_wp2_with fail
            go_meet
            exact mid_close hB4 hL4 hO4 hloL hloO (by omega) hlm cc3_4 cc4 (by simp) (by simp)
    · go_simp
      have hB1 : wb.grownBy (v0.alloc (.cells #[.int .i64 0, .slice none 0 0] 24)) none := frm_then_alloc hB0 _
      have hO1 := TwoAt.new v0 (.int .i64 0) (.slice none 0 0) 24
      have hloO := hB0.size
      refine hK.out _ _ (HS.out _ hB1) (fun hHeld => ?_)
      clear hK K
      try simp only [Act.put, List.setIfInBounds_toArray, List.set_cons_zero, List.set_cons_succ]
      generalize hgw1 : v0.alloc (.cells #[.int .i64 0, .slice none 0 0] 24) = v1 at *
      clear hgw1
      refine wpAnyH_ready (rs := [1, 4]) (by kernel_rfl) (by simp) (AllReadyH.cons rfl (fun K hK => ?_) (AllReadyH.cons rfl (fun K hK => ?_) AllReadyH.nil))
      · go_simp
        refine (HC.out _ hB1).mono ?_
        rintro e v2 ⟨u2, ps2, rfl, hg2, ho2, hp2, hpw2⟩
        have cc2 := Cp.new ho2 hp2 hpw2 hB1.size [v0.heap.size] (by simp only [List.mem_cons, List.not_mem_nil, or_false]; rintro b rfl <;> first | exact hO1.lt)
        obtain ⟨Au2, cu2, rfl, _⟩ := ho2.val
        clear ho2 hp2 hpw2
        go_wp2_with fail
        have hB2 := frm_trans hB1 hg2
        have hM2 := frm_refl v2 none
        have hlm := hB2.size
        have hO2 := hO1.frm hg2
        refine hK.out _ _ (HS.out _ hB2) (fun hHeld => ?_)
        clear hK K
        try simp only [Act.put, List.setIfInBounds_toArray, List.set_cons_zero, List.set_cons_succ]
        refine wpAnyH_ready (rs := [3, 4]) (by kernel_rfl) (by simp) (AllReadyH.cons rfl (fun K hK => ?_) (AllReadyH.cons rfl (fun K hK => ?_) AllReadyH.nil))
        · go_simp
          refine (HC.out _ hB2).mono ?_
          rintro e v3 ⟨u3, ps3, rfl, hg3, ho3, hp3, hpw3⟩
          have cc3 := Cp.new ho3 hp3 hpw3 hM2.size [v0.heap.size] (by simp only [List.mem_cons, List.not_mem_nil, or_false]; rintro b rfl <;> first | exact hO2.lt)
          obtain ⟨Au3, cu3, rfl, _⟩ := ho3.val
          clear ho3 hp3 hpw3
          go_wp2_with fail
          have hB3 := frm_trans hB2 hg3
          have hM3 := frm_trans hM2 hg3
          have hO3 := hO2.frm hg3
          have cc2_3 := cc2.frm hg3
          refine hK.out _ _ (HS.out _ hB3) (fun hHeld => ?_)
          clear hK K
          try simp only [Act.put, List.setIfInBounds_toArray, List.set_cons_zero, List.set_cons_succ]
          refine wpAnyH_ready (rs := [4]) (by kernel_rfl) (by simp) (AllReadyH.cons rfl (fun K hK => ?_) AllReadyH.nil)
          · go_simp
            have hB4 : wb.grownBy (v3.alloc (.cells #[.int .i64 0, .slice none 0 0] 24)) none := frm_then_alloc hB3 _
            have hL4 := TwoAt.new v3 (.int .i64 0) (.slice none 0 0) 24
            have hloL := hB3.size
            have hM4 := frm_then_alloc hM3 (.cells #[.int .i64 0, .slice none 0 0] 24)
            have hO4 := hO3.alloc (.cells #[.int .i64 0, .slice none 0 0] 24)
            have hne := hO3.lt
            have cc2_3_4 := cc2_3.alloc (.cells #[.int .i64 0, .slice none 0 0] 24)
            have cc3_4 := cc3.alloc (.cells #[.int .i64 0, .slice none 0 0] 24)
            refine hK.out _ _ (HS.out _ hB4) (fun hHeld => ?_)
            clear hK K
            try simp only [Act.put, List.setIfInBounds_toArray, List.set_cons_zero, List.set_cons_succ]
            generalize hgw4 : v3.alloc (.cells #[.int .i64 0, .slice none 0 0] 24) = v4 at *
            clear hgw4
            have hff1 : wb.grownBy ((v4.setCell ⟨v3.heap.size, 0, none⟩ (.int .i64 st)).setCell ⟨v3.heap.size, 1, none⟩ _) none := frm_set_new (frm_set_new hB4 hloL _ _) hloL _ (.slice Au2 ps2.length cu2)
            have hff2 := frm_set_new (frm_set_new hff1 hloO 0 (.int .i64 st)) hloO 1 (.slice Au3 ps3.length cu3)
            have hlL := hL4.lt
            have hlO := hO4.lt
            obtain ⟨hk1, hk2, hk3, hk4⟩ := hL4.cells
            obtain ⟨hk5, hk6, hk7, hk8⟩ := hO4.cells
            refine wpAnyH_ready (rs := [6]) (by kernel_rfl) (by simp) (AllReadyH.cons rfl (fun K hK => ?_) AllReadyH.nil)
            go_simp
            refine hK.out _ _ (HS.out _ hff1) (fun hHeld => ?_)
            clear hK K
            try simp only [Act.put, List.setIfInBounds_toArray, List.set_cons_zero, List.set_cons_succ]
            refine wpAnyH_ready (rs := [7]) (by kernel_rfl) (by simp) (AllReadyH.cons rfl (fun K hK => ?_) AllReadyH.nil)
            go_simp
            refine hK.out _ _ (HS.out _ hff2) (fun hHeld => ?_)
            clear hK K
            try simp only [Act.put, List.setIfInBounds_toArray, List.set_cons_zero, List.set_cons_succ]
            refine wpAnyH_done (by kernel_rfl) ?_ _
            go_wp2_with fail
            go_meet
            exact mid_close hB4 hL4 hO4 hloL hloO (by omega) hlm cc2_3_4 cc3_4 (by simp) (by simp)
        · go_simp
          have hB3 : wb.grownBy (v2.alloc (.cells #[.int .i64 0, .slice none 0 0] 24)) none := frm_then_alloc hB2 _
          have hL3 := TwoAt.new v2 (.int .i64 0) (.slice none 0 0) 24
          have hloL := hB2.size
          have hM3 := frm_then_alloc hM2 (.cells #[.int .i64 0, .slice none 0 0] 24)
          have hO3 := hO2.alloc (.cells #[.int .i64 0, .slice none 0 0] 24)
          have hne := hO2.lt
          have cc2_3 := cc2.alloc (.cells #[.int .i64 0, .slice none 0 0] 24)
          refine hK.out _ _ (HS.out _ hB3) (fun hHeld => ?_)
          clear hK K
          try simp only [Act.put, List.setIfInBounds_toArray, List.set_cons_zero, List.set_cons_succ]
          generalize hgw3 : v2.alloc (.cells #[.int .i64 0, .slice none 0 0] 24) = v3 at *
          clear hgw3
          refine wpAnyH_ready (rs := [3]) (by kernel_rfl) (by simp) (AllReadyH.cons rfl (fun K hK => ?_) AllReadyH.nil)
          · go_simp
            refine (HC.out _ hB3).mono ?_
            rintro e v4 ⟨u4, ps4, rfl, hg4, ho4, hp4, hpw4⟩
            have cc4 := Cp.new ho4 hp4 hpw4 hM3.size [v2.heap.size, v0.heap.size] (by simp only [List.mem_cons, List.not_mem_nil, or_false]; rintro b (rfl | rfl) <;> first | exact hL3.lt | exact hO3.lt)
            obtain ⟨Au4, cu4, rfl, _⟩ := ho4.val
            clear ho4 hp4 hpw4
            go_wp2_with fail
            have hB4 := frm_trans hB3 hg4
            have hM4 := frm_trans hM3 hg4
            have hL4 := hL3.frm hg4
            have hO4 := hO3.frm hg4
            have cc2_3_4 := cc2_3.frm hg4
            refine hK.out _ _ (HS.out _ hB4) (fun hHeld => ?_)
            clear hK K
            try simp only [Act.put, List.setIfInBounds_toArray, List.set_cons_zero, List.set_cons_succ]
            have hff1 : wb.grownBy ((v4.setCell ⟨v2.heap.size, 0, none⟩ (.int .i64 st)).setCell ⟨v2.heap.size, 1, none⟩ _) none := frm_set_new (frm_set_new hB4 hloL _ _) hloL _ (.slice Au2 ps2.length cu2)
            have hff2 := frm_set_new (frm_set_new hff1 hloO 0 (.int .i64 st)) hloO 1 (.slice Au4 ps4.length cu4)
            have hlL := hL4.lt
            have hlO := hO4.lt
            obtain ⟨hk1, hk2, hk3, hk4⟩ := hL4.cells
            obtain ⟨hk5, hk6, hk7, hk8⟩ := hO4.cells
            refine wpAnyH_ready (rs := [6]) (by kernel_rfl) (by simp) (AllReadyH.cons rfl (fun K hK => ?_) AllReadyH.nil)
            go_simp
            refine hK.out _ _ (HS.out _ hff1) (fun hHeld => ?_)
            clear hK K
            try simp only [Act.put, List.setIfInBounds_toArray, List.set_cons_zero, List.set_cons_succ]
            refine wpAnyH_ready (rs := [7]) (by kernel_rfl) (by simp) (AllReadyH.cons rfl (fun K hK => ?_) AllReadyH.nil)
            go_simp
            refine hK.out _ _ (HS.out _ hff2) (fun hHeld => ?_)
            clear hK K
            try simp only [Act.put, List.setIfInBounds_toArray, List.set_cons_zero, List.set_cons_succ]
            refine wpAnyH_done (by kernel_rfl) ?_ _
            go_wp2_with fail
            go_meet
            exact mid_close hB4 hL4 hO4 hloL hloO (by omega) hlm cc2_3_4 cc4 (by simp) (by simp)
      · go_simp
        have hB2 : wb.grownBy (v1.alloc (.cells #[.int .i64 0, .slice none 0 0] 24)) none := frm_then_alloc hB1 _
        have hL2 := TwoAt.new v1 (.int .i64 0) (.slice none 0 0) 24
        have hloL := hB1.size
        have hO2 := hO1.alloc (.cells #[.int .i64 0, .slice none 0 0] 24)
        have hne := hO1.lt
        refine hK.out _ _ (HS.out _ hB2) (fun hHeld => ?_)
        clear hK K
        try simp only [Act.put, List.setIfInBounds_toArray, List.set_cons_zero, List.set_cons_succ]
        generalize hgw2 : v1.alloc (.cells #[.int .i64 0, .slice none 0 0] 24) = v2 at *
        clear hgw2
        refine wpAnyH_ready (rs := [1]) (by kernel_rfl) (by simp) (AllReadyH.cons rfl (fun K hK => ?_) AllReadyH.nil)
        · go_simp
          refine (HC.out _ hB2).mono ?_
          rintro e v3 ⟨u3, ps3, rfl, hg3, ho3, hp3, hpw3⟩
          have cc3 := Cp.new ho3 hp3 hpw3 hB2.size [v1.heap.size, v0.heap.size] (by simp only [List.mem_cons, List.not_mem_nil, or_false]; rintro b (rfl | rfl) <;> first | exact hL2.lt | exact hO2.lt)
          obtain ⟨Au3, cu3, rfl, _⟩ := ho3.val
          clear ho3 hp3 hpw3
          go_wp2_with fail
          have hB3 := frm_trans hB2 hg3
          have hM3 := frm_refl v3 none
          have hlm := hB3.size
          have hL3 := hL2.frm hg3
          have hO3 := hO2.frm hg3
          refine hK.out _ _ (HS.out _ hB3) (fun hHeld => ?_)
          clear hK K
          try simp only [Act.put, List.setIfInBounds_toArray, List.set_cons_zero, List.set_cons_succ]
          refine wpAnyH_ready (rs := [3]) (by kernel_rfl) (by simp) (AllReadyH.cons rfl (fun K hK => ?_) AllReadyH.nil)
          · go_simp
            refine (HC.out _ hB3).mono ?_
            rintro e v4 ⟨u4, ps4, rfl, hg4, ho4, hp4, hpw4⟩
            have cc4 := Cp.new ho4 hp4 hpw4 hM3.size [v1.heap.size, v0.heap.size] (by simp only [List.mem_cons, List.not_mem_nil, or_false]; rintro b (rfl | rfl) <;> first | exact hL3.lt | exact hO3.lt)
            obtain ⟨Au4, cu4, rfl, _⟩ := ho4.val
            clear ho4 hp4 hpw4
            go_wp2_with fail
            have hB4 := frm_trans hB3 hg4
            have hM4 := frm_trans hM3 hg4
            have hL4 := hL3.frm hg4
            have hO4 := hO3.frm hg4
            have cc3_4 := cc3.frm hg4
            refine hK.out _ _ (HS.out _ hB4) (fun hHeld => ?_)
            clear hK K
            try simp only [Act.put, List.setIfInBounds_toArray, List.set_cons_zero, List.set_cons_succ]
            have hff1 : wb.grownBy ((v4.setCell ⟨v1.heap.size, 0, none⟩ (.int .i64 st)).setCell ⟨v1.heap.size, 1, none⟩ _) none := frm_set_new (frm_set_new hB4 hloL _ _) hloL _ (.slice Au3 ps3.length cu3)
            have hff2 := frm_set_new (frm_set_new hff1 hloO 0 (.int .i64 st)) hloO 1 (.slice Au4 ps4.length cu4)
            have hlL := hL4.lt
            have hlO := hO4.lt
            obtain ⟨hk1, hk2, hk3, hk4⟩ := hL4.cells
            obtain ⟨hk5, hk6, hk7, hk8⟩ := hO4.cells
            refine wpAnyH_ready (rs := [6]) (by kernel_rfl) (by simp) (AllReadyH.cons rfl (fun K hK => ?_) AllReadyH.nil)
            go_simp
            refine hK.out _ _ (HS.out _ hff1) (fun hHeld => ?_)
            clear hK K
            try simp only [Act.put, List.setIfInBounds_toArray, List.set_cons_zero, List.set_cons_succ]
            refine wpAnyH_ready (rs := [7]) (by kernel_rfl) (by simp) (AllReadyH.cons rfl (fun K hK => ?_) AllReadyH.nil)
            go_simp
            refine hK.out _ _ (HS.out _ hff2) (fun hHeld => ?_)
            clear hK K
            try simp only [Act.put, List.setIfInBounds_toArray, List.set_cons_zero, List.set_cons_succ]
            refine wpAnyH_done (by kernel_rfl) ?_ _
            go_wp2_with fail
            go_meet
            exact mid_close hB4 hL4 hO4 hloL hloO (by omega) hlm cc3_4 cc4 (by simp) (by simp)
  case rest =>
    go_upto_region 5 with fail
    obtain ⟨L, O, m, m2, va, vb, rfl, rfl, hgx, hLw, hOw, hne, tL, tO, hlm, ca, cb⟩ := hcut
    go_cut [10] (fun s10 wx => s10 = .pointer (some ⟨L, 0, none⟩) ∧ Mid2 wb st args (args.set i (ts.eraseIdx k)) L O va vb wx)
    case first =>
      replace hgx := frm_trans hgx (frm_drew wc)
      replace tL := tL.frm (frm_drew wc)
      replace tO := tO.frm (frm_drew wc)
      replace ca := ca.frm (frm_drew wc)
      replace cb := cb.frm (frm_drew wc)
      obtain ⟨g1, g2, g3⟩ := fit_args HFit.out
      have H24 := Lib.hid g1
      have Hms : Hid (∀ s ∈ args, s.length ≤ 140737488351232) := fun s hs => by have := g2 s hs; omega
      have H32 : Hid (ts.length * 32 ≤ 140737488351232) := by rw [← Hts.out]; exact g2 _ (List.getElem_mem hlt)
      clear g1 g2 g3
      obtain ⟨basea, psa, hba, hOa, hpa, hpwa, hbada⟩ := ca
      obtain ⟨ga, cra, rfl, hcra, hbga, hga, howna, hfza, hrowa⟩ := row_open hOa (fun b hb => hb.1) hpa hlt
      have hgb := hbada ga rfl
      have hgL : ga ≠ L := fun e => hgb.2 (by simp [e])
      have hgO : ga ≠ O := fun e => hgb.2 (by simp [e])
      have hgm := hgb.1
      have hpla : psa.length = args.length := by rw [← hpa, List.length_map]
      obtain ⟨vi, hvi, hoi, hui⟩ := hrowa i hlt (by omega)
      have hsli := hoi.sl2 moves_ty (Hms.out _ (List.getElem_mem hlt)) (S := fun b => b < wc.drew.heap.size ∧ b ≠ ga) (fun b hb _ => hb.2.2.2) (fun b hb => (hui b hb).2.2.2)
      clear hrowa hoi hui
      rw [Hts.out] at hsli
      obtain ⟨A5, c5, rfl, hc5, hm5⟩ := hsli.val
      obtain ⟨b5, o5, rfl, hb5, herase⟩ := erase_run hsli (fun b hb => hb.1) hltk H32.out
      have HE := Lib.hid herase
      clear herase
      obtain ⟨l1, l2, l3, l4⟩ := tL.cells
      have HSL := Lib.hid hsli
      clear hsli
      have hkk : ((k : Int) + 1) ≤ ts.length := by omega
      have hS : (wc.drew.cell? ⟨L, 1, none⟩ = some (.slice (some ⟨ga, 0, none⟩) args.length cra) ∧ wc.drew.cell? ⟨ga, i, none⟩ = some (.slice (some ⟨b5, o5, none⟩) ts.length c5)) := ⟨l2, hvi⟩
      have hw3 : k ≤ c5 := by omega
      have hw4 : (0 : Int) ≤ (k : Int) + 1 := by omega
      have hw1 : IntKind.i64.wrap ((k : Int) + 1) = (k : Int) + 1 := IntWalk.i64_in _ (by omega)
      have hw2 : ((k : Int) + 1).toNat = k + 1 := by omega
      have hS0 := l2
      have hS1 := hvi
      obtain ⟨v', wn, hrun, hgn, hsn⟩ := HE.out (if c5 = k + 1 then some ⟨b5, o5, none⟩ else some ⟨b5, o5 + (k + 1) * 2, none⟩) (ts.length - (k + 1)) (c5 - (k + 1)) rfl (fun h0 => by rw [if_neg (by omega)])
      obtain ⟨Av, nv, cv, rfl⟩ : ∃ Av nv cv, v' = .slice Av nv cv := by obtain ⟨a, b, h, _⟩ := hsn.val; exact ⟨_, _, _, h⟩
      have q2 := frm_cell hgn hS.2
      have q3 := frm_frozen hgn hga hfza
      have HSN := Lib.hid hsn
      have HR := Lib.hid hrun
      clear hsn hrun
      refine wp_region_held_drew (S := fun wx => wx.cell? ⟨L, 1, none⟩ = some (.slice (some ⟨ga, 0, none⟩) args.length cra)) (by kernel_rfl) l2 (fun hHeld => ?_)
      generalize wc.drew = wd at *
      refine held_yes 0 (v := ?_) rfl (by kernel_rfl) (by kernel_rfl) (by kernel_rfl) (fun _ _ _ h => h) (by kernel_rfl) (fun w hSw => ?_) (by assumption) ?_
      rotate_left
      · have hS7 := hSw
        go_simp
        (try with_reducible rfl)
      try simp only [Act.put, List.setIfInBounds_toArray, List.set_cons_zero, List.set_cons_succ]
      refine held_yes 1 (v := ?_) rfl (by kernel_rfl) (by kernel_rfl) (by kernel_rfl) (fun _ _ _ h => h) (by kernel_rfl) (fun w hSw => ?_) (by assumption) ?_
      rotate_left
      · have hS7 := hSw
        go_simp
        (try with_reducible rfl)
      try simp only [Act.put, List.setIfInBounds_toArray, List.set_cons_zero, List.set_cons_succ]
      refine held_yes 2 (v := ?_) rfl (by kernel_rfl) (by kernel_rfl) (by kernel_rfl) (fun _ _ _ h => h) (by kernel_rfl) (fun w hSw => ?_) (by assumption) ?_
      rotate_left
      · have hS7 := hSw
        go_simp
        (try with_reducible rfl)
      try simp only [Act.put, List.setIfInBounds_toArray, List.set_cons_zero, List.set_cons_succ]
      refine held_yes 3 (v := ?_) rfl (by kernel_rfl) (by kernel_rfl) (by kernel_rfl) (fun _ _ _ h => h) (by kernel_rfl) (fun w hSw => ?_) (by assumption) ?_
      rotate_left
      · have hS7 := hSw
        go_simp
        (try with_reducible rfl)
      try simp only [Act.put, List.setIfInBounds_toArray, List.set_cons_zero, List.set_cons_succ]
      refine held_yes 4 (v := ?_) rfl (by kernel_rfl) (by kernel_rfl) (by kernel_rfl) (fun _ _ _ h => h) (by kernel_rfl) (fun w hSw => ?_) (by assumption) ?_
      rotate_left
      · have hS7 := hSw
        go_simp
        (try with_reducible rfl)
      try simp only [Act.put, List.setIfInBounds_toArray, List.set_cons_zero, List.set_cons_succ]
      refine held_yes 5 (v := ?_) rfl (by kernel_rfl) (by kernel_rfl) (by kernel_rfl) (fun _ _ _ h => h) (by kernel_rfl) (fun w hSw => ?_) (by assumption) ?_
      rotate_left
      · have hS7 := hSw
        go_simp
        (try with_reducible rfl)
      try simp only [Act.put, List.setIfInBounds_toArray, List.set_cons_zero, List.set_cons_succ]
      refine held_yes 6 (v := ?_) rfl (by kernel_rfl) (by kernel_rfl) (by kernel_rfl) (fun _ _ _ h => h) (by kernel_rfl) (fun w hSw => ?_) (by assumption) ?_
      rotate_left
      · have hS7 := hSw
        go_simp
        (try with_reducible rfl)
      try simp only [Act.put, List.setIfInBounds_toArray, List.set_cons_zero, List.set_cons_succ]
      refine held_yes 8 (v := ?_) rfl (by kernel_rfl) (by kernel_rfl) (by kernel_rfl) (fun _ _ _ h => h) (by kernel_rfl) (fun w hSw => ?_) (by assumption) ?_
      rotate_left
      · have hS7 := hSw
        go_simp
        (try with_reducible rfl)
      try simp only [Act.put, List.setIfInBounds_toArray, List.set_cons_zero, List.set_cons_succ]
      refine held_yes 9 (v := ?_) rfl (by kernel_rfl) (by kernel_rfl) (by kernel_rfl) (fun _ _ _ h => h) (by kernel_rfl) (fun w hSw => ?_) (by assumption) ?_
      rotate_left
      · have hS7 := hSw
        go_simp
        (try with_reducible rfl)
      try simp only [Act.put, List.setIfInBounds_toArray, List.set_cons_zero, List.set_cons_succ]
      refine held_yes 11 (v := ?_) rfl (by kernel_rfl) (by kernel_rfl) (by kernel_rfl) (fun _ _ _ h => h) (by kernel_rfl) (fun w hSw => ?_) (by assumption) ?_
      rotate_left
      · have hS7 := hSw
        go_simp
        (try with_reducible rfl)
      try simp only [Act.put, List.setIfInBounds_toArray, List.set_cons_zero, List.set_cons_succ]
      refine held_yes 12 (v := ?_) rfl (by kernel_rfl) (by kernel_rfl) (by kernel_rfl) (fun _ _ _ h => h) (by kernel_rfl) (fun w hSw => ?_) (by assumption) ?_
      rotate_left
      · have hS7 := hSw
        go_simp
        (try with_reducible rfl)
      try simp only [Act.put, List.setIfInBounds_toArray, List.set_cons_zero, List.set_cons_succ]
      refine held_yes 13 (v := ?_) rfl (by kernel_rfl) (by kernel_rfl) (by kernel_rfl) (fun _ _ _ h => h) (by kernel_rfl) (fun w hSw => ?_) (by assumption) ?_
      rotate_left
      · have hS7 := hSw
        go_simp
        (try with_reducible rfl)
      try simp only [Act.put, List.setIfInBounds_toArray, List.set_cons_zero, List.set_cons_succ]
      refine held_yes 14 (v := ?_) rfl (by kernel_rfl) (by kernel_rfl) (by kernel_rfl) (fun _ _ _ h => h) (by kernel_rfl) (fun w hSw => ?_) (by assumption) ?_
      rotate_left
      · have hS7 := hSw
        go_simp
        (try with_reducible rfl)
      try simp only [Act.put, List.setIfInBounds_toArray, List.set_cons_zero, List.set_cons_succ]
      refine held_yes 16 (v := ?_) rfl (by kernel_rfl) (by kernel_rfl) (by kernel_rfl) (fun _ _ _ h => h) (by kernel_rfl) (fun w hSw => ?_) (by assumption) ?_
      rotate_left
      · have hS7 := hSw
        go_simp
        (try with_reducible rfl)
      try simp only [Act.put, List.setIfInBounds_toArray, List.set_cons_zero, List.set_cons_succ]
      refine held_yes 17 (v := ?_) rfl (by kernel_rfl) (by kernel_rfl) (by kernel_rfl) (fun _ _ _ h => h) (by kernel_rfl) (fun w hSw => ?_) (by assumption) ?_
      rotate_left
      · have hS7 := hSw
        go_simp
        (try with_reducible rfl)
      try simp only [Act.put, List.setIfInBounds_toArray, List.set_cons_zero, List.set_cons_succ]
      refine wpAnyH_ready (rs := [7, 15]) (by kernel_rfl) (by simp) (AllReadyH.cons rfl (fun K hK => ?_) (AllReadyH.cons rfl (fun K hK => ?_) AllReadyH.nil))
      · go_simp
        refine hK.out _ _ l2 (fun hHeld => ?_)
        clear hK K
        try simp only [Act.put, List.setIfInBounds_toArray, List.set_cons_zero, List.set_cons_succ]
        refine held_yes 10 (v := ?_) rfl (by kernel_rfl) (by kernel_rfl) (by kernel_rfl) (fun _ _ _ h => h) (by kernel_rfl) (fun w hSw => ?_) (by assumption) ?_
        rotate_left
        · have hS7 := hSw
          go_simp
          (try with_reducible rfl)
        try simp only [Act.put, List.setIfInBounds_toArray, List.set_cons_zero, List.set_cons_succ]
        refine wpAnyH_ready (rs := [15]) (by kernel_rfl) (by simp) (AllReadyH.cons rfl (fun K hK => ?_) AllReadyH.nil)
        go_simp
        refine hK.out _ _ l2 (fun hHeld => ?_)
        clear hK K
        try simp only [Act.put, List.setIfInBounds_toArray, List.set_cons_zero, List.set_cons_succ]
        refine held_yes 18 (v := ?_) rfl (by kernel_rfl) (by kernel_rfl) (by kernel_rfl) (fun _ _ _ h => h) (by kernel_rfl) (fun w hSw => ?_) (by assumption) ?_
        rotate_left
        · have hS7 := hSw
          go_simp
          (try with_reducible rfl)
        try simp only [Act.put, List.setIfInBounds_toArray, List.set_cons_zero, List.set_cons_succ]
        refine wpAnyH_ready (rs := [19]) (by kernel_rfl) (by simp) (AllReadyH.cons rfl (fun K hK => ?_) AllReadyH.nil)
        rw [if_pos (by kernel_rfl)]
        refine append_wp (.tmp 62) (.tmp 70) rfl rfl rfl HR.out ?_
        refine hK.out _ _ (frm_cell hgn l2) (fun hHeld => ?_)
        clear hK K
        try simp only [Act.put, List.setIfInBounds_toArray, List.set_cons_zero, List.set_cons_succ]
        refine held_yes 20 (v := ?_) rfl (by kernel_rfl) (by kernel_rfl) (by kernel_rfl) (fun _ _ _ h => h) (by kernel_rfl) (fun w hSw => ?_) (by assumption) ?_
        rotate_left
        · have hS7 := hSw
          go_simp
          (try with_reducible rfl)
        try simp only [Act.put, List.setIfInBounds_toArray, List.set_cons_zero, List.set_cons_succ]
        refine wpAnyH_ready (rs := [21]) (by kernel_rfl) (by simp) (AllReadyH.cons rfl (fun K hK => ?_) AllReadyH.nil)
        have q4 := frm_cell hgn l2
        go_simp
        refine hK.out _ _ ((World.cell?_setCell_other _ _ _ _ (by intro h; injection h with h _ _; omega)).trans q4) (fun hHeld => ?_)
        clear hK K
        try simp only [Act.put, List.setIfInBounds_toArray, List.set_cons_zero, List.set_cons_succ]
        refine wpAnyH_done (by kernel_rfl) ?_ _
        go_wp2_with fail
        all_goals go_meet
        all_goals exact ⟨rfl, m, m2, hlm, frm_set_new (frm_trans hgx hgn) (by omega) _ _, (tL.frm hgn).move (Below.heap_setCell _ _ _ _ (Ne.symm hgL)), (tO.frm hgn).move (Below.heap_setCell _ _ _ _ (Ne.symm hgO)), row_set hst1 hst2 hm Hms.out hOa (fun b hb => hb.1) hpa hlt rfl hgn HSN.out (fun b hb => Or.elim hb (fun h => ⟨Nat.lt_of_lt_of_le h.1 hgn.size, h.2⟩) (fun h => ⟨h.2, by have := h.1; omega⟩)), (cb.frm hgn).store (.inr (.inl hgm)) (frm_set (frm_refl _ _) _ _)⟩
      · go_simp
        refine hK.out _ _ l2 (fun hHeld => ?_)
        clear hK K
        try simp only [Act.put, List.setIfInBounds_toArray, List.set_cons_zero, List.set_cons_succ]
        refine held_yes 18 (v := ?_) rfl (by kernel_rfl) (by kernel_rfl) (by kernel_rfl) (fun _ _ _ h => h) (by kernel_rfl) (fun w hSw => ?_) (by assumption) ?_
        rotate_left
        · have hS7 := hSw
          go_simp
          (try with_reducible rfl)
        try simp only [Act.put, List.setIfInBounds_toArray, List.set_cons_zero, List.set_cons_succ]
        refine wpAnyH_ready (rs := [7]) (by kernel_rfl) (by simp) (AllReadyH.cons rfl (fun K hK => ?_) AllReadyH.nil)
        go_simp
        refine hK.out _ _ l2 (fun hHeld => ?_)
        clear hK K
        try simp only [Act.put, List.setIfInBounds_toArray, List.set_cons_zero, List.set_cons_succ]
        refine held_yes 10 (v := ?_) rfl (by kernel_rfl) (by kernel_rfl) (by kernel_rfl) (fun _ _ _ h => h) (by kernel_rfl) (fun w hSw => ?_) (by assumption) ?_
        rotate_left
        · have hS7 := hSw
          go_simp
          (try with_reducible rfl)
        try simp only [Act.put, List.setIfInBounds_toArray, List.set_cons_zero, List.set_cons_succ]
        refine wpAnyH_ready (rs := [19]) (by kernel_rfl) (by simp) (AllReadyH.cons rfl (fun K hK => ?_) AllReadyH.nil)
        rw [if_pos (by kernel_rfl)]
        refine append_wp (.tmp 62) (.tmp 70) rfl rfl rfl HR.out ?_
        refine hK.out _ _ (frm_cell hgn l2) (fun hHeld => ?_)
        clear hK K
        try simp only [Act.put, List.setIfInBounds_toArray, List.set_cons_zero, List.set_cons_succ]
        refine held_yes 20 (v := ?_) rfl (by kernel_rfl) (by kernel_rfl) (by kernel_rfl) (fun _ _ _ h => h) (by kernel_rfl) (fun w hSw => ?_) (by assumption) ?_
        rotate_left
        · have hS7 := hSw
          go_simp
          (try with_reducible rfl)
        try simp only [Act.put, List.setIfInBounds_toArray, List.set_cons_zero, List.set_cons_succ]
        refine wpAnyH_ready (rs := [21]) (by kernel_rfl) (by simp) (AllReadyH.cons rfl (fun K hK => ?_) AllReadyH.nil)
        have q4 := frm_cell hgn l2
        go_simp
        refine hK.out _ _ ((World.cell?_setCell_other _ _ _ _ (by intro h; injection h with h _ _; omega)).trans q4) (fun hHeld => ?_)
        clear hK K
        try simp only [Act.put, List.setIfInBounds_toArray, List.set_cons_zero, List.set_cons_succ]
        refine wpAnyH_done (by kernel_rfl) ?_ _
        go_wp2_with fail
        all_goals go_meet
        all_goals exact ⟨rfl, m, m2, hlm, frm_set_new (frm_trans hgx hgn) (by omega) _ _, (tL.frm hgn).move (Below.heap_setCell _ _ _ _ (Ne.symm hgL)), (tO.frm hgn).move (Below.heap_setCell _ _ _ _ (Ne.symm hgO)), row_set hst1 hst2 hm Hms.out hOa (fun b hb => hb.1) hpa hlt rfl hgn HSN.out (fun b hb => Or.elim hb (fun h => ⟨Nat.lt_of_lt_of_le h.1 hgn.size, h.2⟩) (fun h => ⟨h.2, by have := h.1; omega⟩)), (cb.frm hgn).store (.inr (.inl hgm)) (frm_set (frm_refl _ _) _ _)⟩
    case rest =>
      obtain ⟨rfl, m3, m4, hlm3, hgx2, tL2, tO2, hty2, cb2⟩ := hcut
      clear xc0 xc1 yc0 yc1 hq hq0 hq1
      replace xb := xb.frm hgx2
      replace yb := yb.frm hgx2
      replace ab := ab.frm hgx2
      obtain ⟨xc0, xc1, _, _⟩ := xb.cells
      obtain ⟨yc0, yc1, _, _⟩ := yb.cells
      obtain ⟨ac0, ac1, _, _⟩ := ab.cells
      obtain ⟨lc0, lc1, _, _⟩ := tL2.cells
      have hf6 := frm_trans hf2 hgx2
      obtain ⟨nA, nn, nc, rfl⟩ : ∃ nA nn nc, va = .slice nA nn nc := by obtain ⟨_, _, _, _, _, h⟩ := hty2.vals; exact ⟨_, _, _, h⟩
      obtain ⟨mA, mn, mc, rfl⟩ : ∃ mA mn mc, vb = .slice mA mn mc := by
        obtain ⟨_, _, _, hO9, _⟩ := cb2
        obtain ⟨_, _, h, _⟩ := hO9.val
        exact ⟨_, _, _, h⟩
      go_wp2_with fail
      refine (stronger_calls (.mk st (args.set i (ts.eraseIdx k))) (.mk st args) _ _ _ _ _ hty2 (stays_ty _ _ _ _ hf6 HX.out)).mono ?_
      rintro e w7 ⟨rfl, g7⟩
      rw [hlo.out]
      have hf7 := frm_trans hf6 g7
      clear xc0 xc1 yc0 yc1
      replace xb := xb.frm g7
      replace yb := yb.frm g7
      obtain ⟨xc0, xc1, _, _⟩ := xb.cells
      obtain ⟨yc0, yc1, _, _⟩ := yb.cells
      clear ac0 ac1 lc0 lc1
      replace ab := ab.frm g7
      replace tO2 := tO2.frm g7
      obtain ⟨ac0, ac1, _, _⟩ := ab.cells
      go_wp2_with fail
      refine (rlarge_calls y _ _ _ (stays_ty _ _ _ _ hf7 hy)).mono ?_
      rintro e w8 ⟨rfl, g8⟩
      have hf8 := frm_trans hf7 g8
      clear xc0 xc1 yc0 yc1
      replace xb := xb.frm g8
      replace yb := yb.frm g8
      obtain ⟨xc0, xc1, _, _⟩ := xb.cells
      obtain ⟨yc0, yc1, _, _⟩ := yb.cells
      clear ac0 ac1
      replace ab := ab.frm g8
      replace tO2 := tO2.frm g8
      obtain ⟨ac0, ac1, _, _⟩ := ab.cells
      cases hly : y.large
      rotate_left
      · clear hly
        go_wp2_with fail
        refine (alive_calls _ (HT.out.step (frm_below hf8 (Nat.le_refl _))).here).mono ?_
        rintro e w9 ⟨rfl, g9⟩
        have hf9 := frm_trans hf8 g9
        go_wp2_with fail
        exact bodyPost_ret (results_tmp rfl _ _ _) rfl ⟨rfl, hf9⟩
      clear hly
      have g18 : w1.grownBy w8 none := frm_trans g2 (frm_trans hgx2 (frm_trans g7 g8))
      go_wp2_with fail
      refine (stronger_calls ts[k] y _ _ _ _ _ (stays_ty _ _ _ _ g18 HT2.out) (stays_ty _ _ _ _ hf8 hy)).mono ?_
      rintro e w9 ⟨rfl, g9⟩
      have hf9 := frm_trans hf8 g9
      clear xc0 xc1 yc0 yc1
      replace xb := xb.frm g9
      replace yb := yb.frm g9
      obtain ⟨xc0, xc1, _, _⟩ := xb.cells
      obtain ⟨yc0, yc1, _, _⟩ := yb.cells
      replace tO2 := tO2.frm g9
      cases hsy : Ty.stronger ts[k] y
      · clear hsy
        go_wp2_with fail
        refine (alive_calls _ (HT.out.step (frm_below hf9 (Nat.le_refl _))).here).mono ?_
        rintro e w10 ⟨rfl, g10⟩
        have hf10 := frm_trans hf9 g10
        go_wp2_with fail
        exact bodyPost_ret (results_tmp rfl _ _ _) rfl ⟨rfl, hf10⟩
      have HSY := Lib.hid hsy
      clear hsy
      have g69 := frm_trans g7 (frm_trans g8 g9)
      replace cb2 := (cb2.frm g69)
      obtain ⟨wd, hwd⟩ : ∃ wd, wd = w9.drew := ⟨_, rfl⟩
      have hdw : w9.grownBy wd none := by rw [hwd]; exact frm_drew _
      have Hwd := Lib.hid hwd
      clear hwd
      replace cb2 := cb2.frm hdw
      replace tO2 := tO2.frm hdw
      replace yb := yb.frm hdw
      have hfd := frm_trans hf9 hdw
      obtain ⟨g1, g2, g3⟩ := fit_args HFit.out
      have Hms : Hid (∀ s ∈ args, s.length ≤ 140737488351232) := fun s hs => by have := g2 s hs; omega
      have H24 := Lib.hid g1
      clear g1 g2 g3
      obtain ⟨baseb, psb, hbb, hOb, hpb, hpwb, hbadb⟩ := cb2
      obtain ⟨gb, crb, gi, ci, q0, q1, hvb, hci, hgi, hgis, hgig, hg0, hg1, hz0, hz1, hone⟩ := one_set hst1 hst2 hm Hms.out hOb (fun b hb => hb.1) hpb hpwb hlt (k := k) (by rw [Hts.out]; exact hltk)
      have HONE := Lib.hid hone
      clear hone
      rw [Hts.out] at hci
      injection hvb with e1 e2 e3
      subst e1 e2 e3
      obtain ⟨yd0, yd1, _, _⟩ := yb.cells
      obtain ⟨od0, od1, _, _⟩ := tO2.cells
      have hgiO : gi ≠ O := fun e => hgi.2.2 (by simp [e])
      have hgi1 := hgi.1
      have hsw := hfd.size
      have hsb := hf2.size
      go_upto_region 10 with fail
      have hwd' := Hwd.out
      refine wp_region_held_drew (S := fun wx => wx.cell? ⟨O, 1, none⟩ = some (.slice (some ⟨gb, 0, none⟩) args.length mc) ∧ wx.cell? ⟨gb, i, none⟩ = some (.slice (some ⟨gi, 0, none⟩) ts.length ci) ∧ wx.cell? ⟨w.heap.size + 1, 0, none⟩ = some (.int .i64 ys) ∧ wx.cell? ⟨w.heap.size + 1, 1, none⟩ = some (.slice yA yn yc)) (by kernel_rfl) (by rw [← hwd']; exact ⟨od1, hci, yd0, yd1⟩) (fun hHeld => ?_)
      rw [← hwd'] at hHeld ⊢
      clear hwd'
      refine held_yes 0 (v := ?_) rfl (by kernel_rfl) (by kernel_rfl) (by kernel_rfl) (fun _ _ _ h => h) (by kernel_rfl) (fun w hSw => ?_) (by assumption) ?_
      rotate_left
      · obtain ⟨hS0, hS1, hS2, hS3⟩ := hSw
        go_simp
        (try with_reducible rfl)
      try simp only [Act.put, List.setIfInBounds_toArray, List.set_cons_zero, List.set_cons_succ]
      refine held_yes 1 (v := ?_) rfl (by kernel_rfl) (by kernel_rfl) (by kernel_rfl) (fun _ _ _ h => h) (by kernel_rfl) (fun w hSw => ?_) (by assumption) ?_
      rotate_left
      · obtain ⟨hS0, hS1, hS2, hS3⟩ := hSw
        go_simp
        (try with_reducible rfl)
      try simp only [Act.put, List.setIfInBounds_toArray, List.set_cons_zero, List.set_cons_succ]
      refine held_yes 2 (v := ?_) rfl (by kernel_rfl) (by kernel_rfl) (by kernel_rfl) (fun _ _ _ h => h) (by kernel_rfl) (fun w hSw => ?_) (by assumption) ?_
      rotate_left
      · obtain ⟨hS0, hS1, hS2, hS3⟩ := hSw
        go_simp
        (try with_reducible rfl)
      try simp only [Act.put, List.setIfInBounds_toArray, List.set_cons_zero, List.set_cons_succ]
      refine held_yes 3 (v := ?_) rfl (by kernel_rfl) (by kernel_rfl) (by kernel_rfl) (fun _ _ _ h => h) (by kernel_rfl) (fun w hSw => ?_) (by assumption) ?_
      rotate_left
      · obtain ⟨hS0, hS1, hS2, hS3⟩ := hSw
        go_simp
        (try with_reducible rfl)
      try simp only [Act.put, List.setIfInBounds_toArray, List.set_cons_zero, List.set_cons_succ]
      refine held_yes 4 (v := ?_) rfl (by kernel_rfl) (by kernel_rfl) (by kernel_rfl) (fun _ _ _ h => h) (by kernel_rfl) (fun w hSw => ?_) (by assumption) ?_
      rotate_left
      · obtain ⟨hS0, hS1, hS2, hS3⟩ := hSw
        go_simp
        (try with_reducible rfl)
      try simp only [Act.put, List.setIfInBounds_toArray, List.set_cons_zero, List.set_cons_succ]
      refine held_yes 5 (v := ?_) rfl (by kernel_rfl) (by kernel_rfl) (by kernel_rfl) (fun _ _ _ h => h) (by kernel_rfl) (fun w hSw => ?_) (by assumption) ?_
      rotate_left
      · obtain ⟨hS0, hS1, hS2, hS3⟩ := hSw
        go_simp
        (try with_reducible rfl)
      try simp only [Act.put, List.setIfInBounds_toArray, List.set_cons_zero, List.set_cons_succ]
      refine held_yes 6 (v := ?_) rfl (by kernel_rfl) (by kernel_rfl) (by kernel_rfl) (fun _ _ _ h => h) (by kernel_rfl) (fun w hSw => ?_) (by assumption) ?_
      rotate_left
      · obtain ⟨hS0, hS1, hS2, hS3⟩ := hSw
        go_simp
        (try with_reducible rfl)
      try simp only [Act.put, List.setIfInBounds_toArray, List.set_cons_zero, List.set_cons_succ]
      refine held_yes 7 (v := ?_) rfl (by kernel_rfl) (by kernel_rfl) (by kernel_rfl) (fun _ _ _ h => h) (by kernel_rfl) (fun w hSw => ?_) (by assumption) ?_
      rotate_left
      · obtain ⟨hS0, hS1, hS2, hS3⟩ := hSw
        go_simp
        (try with_reducible rfl)
      try simp only [Act.put, List.setIfInBounds_toArray, List.set_cons_zero, List.set_cons_succ]
      refine wpAnyH_ready (rs := [8]) (by kernel_rfl) (by simp) (AllReadyH.cons rfl (fun K hK => ?_) AllReadyH.nil)
      go_simp
      have hfin : w.grownBy ((wd.setCell ⟨gi, k * 2, none⟩ (.int .i64 ys)).setCell ⟨gi, k * 2 + 1, none⟩ (.slice yA yn yc)) none := frm_set_new (frm_set_new hfd (by omega) _ _) (by omega) _ _
      have hgi2 : wd.grownBy ((wd.setCell ⟨gi, k * 2, none⟩ (.int .i64 ys)).setCell ⟨gi, k * 2 + 1, none⟩ (.slice yA yn yc)) (some gi) := frm_set (frm_set (frm_refl _ _) _ _) _ _
      have hty3 := HONE.out wd y _ _ (frm_refl _ _) (hy.move (fun b hb => by omega) (frm_lt hfd))
      rw [Hts.out] at hty3
      have tO3 := tO2.frm_row hgi2 (by intro e; injection e with e; exact hgiO e)
      have yb3 := yb.frm_row hgi2 (by intro e; injection e with e; omega)
      replace xb := xb.frm hdw
      have xb3 := xb.frm_row hgi2 (by intro e; injection e with e; omega)
      have gcell : wd.cell? ⟨gb, i, none⟩ = some (.slice (some ⟨gi, 0, none⟩) ts.length ci) := hci
      have hgbi : gb ≠ gi := Ne.symm hgig
      refine hK.out _ _ ⟨?_, ?_, ?_, ?_⟩ (fun hHeld => ?_)
      · exact tO3.cells.2.1
      · exact (hgi2.cell hci (by simpa using hgbi))
      · exact yb3.cells.1
      · exact yb3.cells.2.1
      clear hK K
      try simp only [Act.put, List.setIfInBounds_toArray, List.set_cons_zero, List.set_cons_succ]
      refine wpAnyH_done (by kernel_rfl) ?_ _
      obtain ⟨we, hwe⟩ : ∃ we, we = ((wd.setCell ⟨gi, k * 2, none⟩ (.int .i64 ys)).setCell ⟨gi, k * 2 + 1, none⟩ (.slice yA yn yc)) := ⟨_, rfl⟩
      rw [← hwe] at hfin hgi2 hty3 tO3 yb3 xb3 ⊢
      clear hwe
      clear xc0 xc1 yc0 yc1 hci hg0 hg1 hz0 hz1 yd0 yd1 od0 od1
      obtain ⟨xc0, xc1, _, _⟩ := xb3.cells
      obtain ⟨oc0, oc1, _, _⟩ := tO3.cells
      go_wp2_with fail
      refine (rlarge_calls _ _ _ _ hty3).mono ?_
      rintro e wf ⟨rfl, gf⟩
      have hff := frm_trans hfin gf
      clear oc0 oc1 xc0 xc1
      replace tO3 := tO3.frm gf
      replace xb3 := xb3.frm gf
      obtain ⟨xc0, xc1, _, _⟩ := xb3.cells
      obtain ⟨oc0, oc1, _, _⟩ := tO3.cells
      cases hlo2 : (Ty.mk st (args.set i (ts.set k y))).large
      · have HLO := Lib.hid (hoo.out hltk y HSY.out hlo2)
        clear hlo2
        go_wp2_with fail
        refine (stronger_calls (.mk st (args.set i (ts.set k y))) (.mk st args) _ _ _ _ _ (stays_ty _ _ _ _ gf hty3) (stays_ty _ _ _ _ hff HX.out)).mono ?_
        rintro e wg ⟨rfl, gg⟩
        rw [HLO.out]
        have hfg := frm_trans hff gg
        go_wp2_with fail
        refine (alive_calls _ (HT.out.step (frm_below hfg (Nat.le_refl _))).here).mono ?_
        rintro e w9 ⟨rfl, g9⟩
        have hf9 := frm_trans hfg g9
        go_wp2_with fail
        exact bodyPost_ret (results_tmp rfl _ _ _) rfl ⟨rfl, hf9⟩
      · clear hlo2
        go_wp2_with fail
        refine (alive_calls _ (HT.out.step (frm_below hff (Nat.le_refl _))).here).mono ?_
        rintro e w9 ⟨rfl, g9⟩
        have hf9 := frm_trans hff g9
        go_wp2_with fail
        exact bodyPost_ret (results_tmp rfl _ _ _) rfl ⟨rfl, hf9⟩
end Go.Proofs.YtmdgoalekkkpnaaDoor
