/- The reference's Set, Thin and Least; the law's same. -/
import Derived.Test.YtmdgoalekkkpnaaDoorRefSet
import Derived.Test.YtmdgoalekkkpnaaDoorOver
set_option linter.unusedVariables false
set_option linter.unusedSimpArgs false
namespace Go.Proofs.YtmdgoalekkkpnaaDoor
open Go.RowKit

theorem setL_snoc {α : Type} (f : α → α → Int) (l : List α) (k : Nat) (h : k < l.length) : setL f (l.take (k + 1)) = insL f l[k] (setL f (l.take k)) := by
  unfold setL
  rw [List.take_succ_eq_append_getElem h, List.foldl_append]
  rfl

set_option maxRecDepth 100000 in
set_option maxHeartbeats 1000000 in
theorem rset_calls (l : List Ty) (w : World) (v : Value) (hv : SetO w l [v]) (hfit : ∀ t ∈ l, t.Fit) :
    Calls Tryd.prog 37 #[v] w fun e w' => ∃ u, e = .returned (.tuple #[u, .int .i64 (setE l)]) ∧ w.grownBy w' none ∧ NewSet w (setT l) u w' := by
  have hs := SetO.sl hv
  obtain ⟨A, c, rfl, hc, hm⟩ := hs.val
  have HS := Lib.hid hs
  have HV := Lib.hid hv
  have HF := Lib.hid hfit
  have hle : Hid (setE l = 0 → l.length ≤ 4096) := fun h => by
    unfold setE at h
    by_cases h4 : 4096 < l.length
    · rw [if_pos h4] at h; simp at h
    · omega
  clear hs hv hfit
  go_enter Tryd.func37, Tryd.ntmps37
  go_wp2_with fail
  refine (listed_calls l _ _ HV.out).mono ?_
  rintro e w1 ⟨rfl, hf1⟩
  by_cases hE : setE l = 0
  · have hne : (setE l != 0) = false := by simp [hE]
    have hT : Hid (setT l = setL Ty.cmp l) := by unfold Hid setT; rw [if_pos hE]
    have hl4 : l.length ≤ 4096 := hle.out hE
    have HE := Lib.hid hE
    clear hE
    go_wp2_with fail
    go_loopw [5, 15] (fun u i wr => ∃ k : Nat, k ≤ l.length ∧ i = .int .i64 k ∧ w.grownBy wr none ∧ Hid (SetO wr (setL Ty.cmp (l.take k)) [u] ∧ OwnVal (setL Ty.cmp (l.take k)) u)) (fun _ i _ => l.length - (intOf i).toNat)
    case atStart => exact ⟨0, Nat.zero_le _, rfl, hf1, ⟨_, rfl, none, 0, rfl, by simp [setL], by simp [setL], by simp [setL]⟩, .inl ⟨rfl, rfl⟩⟩
    case round =>
      obtain ⟨k, hk, rfl, hfr, HU⟩ := hrel
      have hul : (setL Ty.cmp (l.take k)).length ≤ k := Nat.le_trans (setL_len _ _) (List.length_take_le _ _)
      have huv : ∃ Au nu cu, (∃ u, u = Value.slice Au nu cu ∧ SetO wr (setL Ty.cmp (l.take k)) [u] ∧ OwnVal (setL Ty.cmp (l.take k)) u) := by
        obtain ⟨a, b, h, _⟩ := (SetO.sl HU.out.1).val
        exact ⟨_, _, _, _, h, HU.out⟩
      by_cases hlt : k < l.length
      · obtain ⟨b, o, p0, p1, rfl, hb, hp0, hp1, hpt⟩ := (HS.out.frm hfr stays_ty).at2 k hlt
        obtain ⟨s1, A1, n1, c1, rfl, rfl⟩ := hpt.vals
        have HP := Lib.hid hpt
        have hsn := Lib.hid (setL_snoc Ty.cmp l k hlt)
        clear hpt huv
        generalize l[k] = t at *
        have hf4 := frm_alloc wr (.cells #[.int .i64 s1, .slice A1 n1 c1] 24)
        go_wp2_with fail
        refine (insert_calls _ t _ _ _ _ (stays_set _ _ _ _ hf4 HU.out.1) HU.out.2 (stays_ty _ _ _ _ hf4 HP.out) (by omega)).mono ?_
        rintro e w2 ⟨u2, rfl, hf2, hr2⟩
        have HR : Hid (SetO w2 (setL Ty.cmp (l.take (k + 1))) [u2] ∧ OwnVal (setL Ty.cmp (l.take (k + 1))) u2) := by unfold Hid; rw [hsn.out]; exact hr2
        clear hr2
        go_wp2_with fail
        exact ⟨⟨k + 1, by omega, by go_num, frm_trans hfr (frm_trans hf4 hf2), HR⟩, by simp [intOf]; omega⟩
      · obtain rfl : k = l.length := by omega
        rw [List.take_length] at HU hul
        clear huv
        have HFT : Hid (∀ t ∈ setL Ty.cmp l, t.Fit) := fun t ht => HF.out t ((setL_mem ord_ty l t).1 ht)
        go_wp2_with fail
        refine (rcopySet_calls (setL Ty.cmp l) (fun t _ => rcopy_calls t) _ _ HU.out.1 HFT.out (by omega)).mono ?_
        rintro e w2 ⟨u2, rfl, hf2, ho2⟩
        obtain ⟨A2, c2, rfl, _⟩ := ho2.val
        have hn : Hid (NewSet w (setL Ty.cmp l) (.slice A2 (setL Ty.cmp l).length c2) w2) := ho2.sl moves_ty (by omega) (fun b h1 h2 => ⟨Nat.le_trans hfr.size h1, h2⟩) (fun b h1 h2 => ⟨Nat.le_trans hfr.size h1, h2⟩)
        clear ho2
        go_wp2_with fail
        refine bodyPost_ret (v := .tuple #[.slice A2 (setL Ty.cmp l).length c2, .int .i64 0]) (by simp [results, Tryd.results37, go_sem]) rfl ⟨_, by rw [HE.out], frm_trans hfr hf2, ?_⟩
        rw [hT.out]
        exact hn.out
  · have hne : (setE l != 0) = true := by simp [hE]
    have hT : Hid (setT l = []) := by unfold Hid setT; rw [if_neg hE]
    clear hE
    go_wp2_with fail
    refine bodyPost_ret (v := .tuple #[.slice none 0 0, .int .i64 (setE l)]) (by simp [results, Tryd.results37, go_sem]) rfl ⟨_, rfl, hf1, ?_⟩
    rw [hT.out]
    exact NewSet.nil _ _

set_option maxRecDepth 100000 in
set_option maxHeartbeats 2000000 in
theorem thin_calls (s : List Ty) (w : World) (v : Value) (hv : SetO w s [v]) (h4 : s.length ≤ 4096) :
    Calls Tryd.prog 71 #[v] w fun e w' => ∃ u, e = .returned u ∧ w.grownBy w' none ∧ SetO w' (thinTo s s.length) [u] := by
  have hs := SetO.sl hv
  obtain ⟨A2, c2, rfl, hc2, hm2⟩ := hs.val
  have HN := Lib.hid hs
  have HT := Lib.hid h4
  clear hs hv
  go_enter Tryd.func71, Tryd.ntmps71
  go_wp2_with fail
  go_loopw [3, 11] (fun o i wr => ∃ k : Nat, k ≤ s.length ∧ i = .int .i64 k ∧ w.grownBy wr none ∧ Own TyR wr w.heap.size 24 2 (fun b => b < w.heap.size) o (thinTo s k)) (fun _ i _ => s.length - (intOf i).toNat)
  case atStart => exact ⟨0, Nat.zero_le _, rfl, frm_refl _ _, Own.nil _ _ _ _ _ _⟩
  case round =>
    obtain ⟨k, hk, rfl, hfr, hO⟩ := hrel
    obtain ⟨Ao, co, rfl, hco⟩ := hO.val
    have hmv : Hid (∀ wq : World, w.grownBy wq none → SlO wq 2 TyO s (.slice A2 s.length c2)) := fun wq hq => HN.out.frm hq stays_ty
    by_cases hlt : k < s.length
    · obtain ⟨b, o, p0, p1, rfl, hb, hp0, hp1, hps⟩ := (HN.out.move (S' := fun b => b < w.heap.size) (w' := wr) (r' := TyR (fun b => b < w.heap.size) wr) (fun b hb => hb) (fun b hb => frm_lt hfr b hb) (fun t _ cs h => h.move (fun b hb => hb) (fun b hb => frm_lt hfr b hb))).at2 k hlt
      have hpt : TyO wr s[k] [p0, p1] := hps.move (fun b hb => Nat.lt_of_lt_of_le hb hfr.size) (fun b hb => rfl)
      have HPS := Lib.hid hps
      clear hps
      obtain ⟨s1, A1, n1, c1, rfl, rfl⟩ := hpt.vals
      have HP := Lib.hid hpt
      have hsk : s[k]? = some s[k] := List.getElem?_eq_getElem hlt
      have HSK := Lib.hid hsk
      clear hpt hsk
      generalize s[k] = x at *
      go_wp2_with fail
      have hox := TwoAt.new wr (.int .i64 s1) (.slice A1 n1 c1) 24
      have hfr2 := frm_then_alloc hfr (.cells #[.int .i64 s1, .slice A1 n1 c1] 24)
      have hwx : wr.grownBy (wr.alloc (.cells #[.int .i64 s1, .slice A1 n1 c1] 24)) none := frm_alloc _ _
      generalize hwo : wr.alloc (.cells #[.int .i64 s1, .slice A1 n1 c1] 24) = wo at *
      clear hwo
      go_loopw [6, 18] (fun wv j wq => ∃ m : Nat, m ≤ s.length ∧ j = .int .i64 m ∧ wv = .bool (!weakTo s k m) ∧ wo.grownBy wq none) (fun _ j _ => s.length - (intOf j).toNat)
      case atStart => exact ⟨0, Nat.zero_le _, rfl, rfl, frm_refl _ _⟩
      case round =>
        obtain ⟨m, hm, rfl, rfl, hfq⟩ := hrel
        obtain ⟨k1, k2, _, _⟩ := (hox.frm hfq).cells
        have kl := (hox.frm hfq).lt
        by_cases hlt2 : m < s.length
        · obtain ⟨b2, o2, q0, q1, he, hb2, hq0, hq1, hqt⟩ := (hmv.out _ (frm_trans hfr2 hfq)).at2 m hlt2
          injection he with he
          injection he with he1 he2 _
          subst he1 he2
          obtain ⟨s2, A3, n3, c3, rfl, rfl⟩ := hqt.vals
          have HQ := Lib.hid hqt
          have hsm : s[m]? = some s[m] := List.getElem?_eq_getElem hlt2
          have HSM := Lib.hid hsm
          clear hqt hsm
          generalize s[m] = y at *
          have hst1 : Hid (strongAt s m k = Ty.strong y x) := by unfold Hid strongAt; rw [HSM.out, HSK.out]
          have hst2 : Hid (strongAt s k m = Ty.strong x y) := by unfold Hid strongAt; rw [HSM.out, HSK.out]
          have hwk : Hid (weakTo s k (m + 1) = (weakTo s k m || (m != k && Ty.strong y x && (decide (m < k) || !Ty.strong x y)))) := by
            unfold Hid
            rw [weakTo, hst1.out, hst2.out]
          have hfa := frm_trans hfq (frm_alloc wr (.cells #[.int .i64 s2, .slice A3 n3 c3] 24))
          by_cases hmk : m = k
          · have h1 : (m != k) = false := by simp [hmk]
            have h2 : ((m : Int) != (k : Int)) = false := by simp [hmk]
            have HR : Hid (weakTo s k (m + 1) = weakTo s k m) := by unfold Hid; rw [hwk.out, h1]; simp
            have H1 := Lib.hid hmk
            clear hmk
            go_wp2_with fail
            exact ⟨⟨m + 1, by omega, by go_num, by rw [HR.out]; (try rfl), hfa⟩, by simp [intOf]; omega⟩
          · have h1 : (m != k) = true := by simp [hmk]
            have h2 : ((m : Int) != (k : Int)) = true := by simp; omega
            have hwk2 : Hid (weakTo s k (m + 1) = (weakTo s k m || (Ty.strong y x && (decide (m < k) || !Ty.strong x y)))) := by unfold Hid; rw [hwk.out, h1]; simp
            have HMK := Lib.hid hmk
            clear hmk
            go_wp2_with fail
            refine (over_calls y x _ _ _ _ _ (stays_ty _ _ _ _ (frm_alloc _ _) HQ.out) (stays_ty _ _ _ _ (frm_trans hwx (frm_then_alloc hfq _)) HP.out)).mono ?_
            rintro e w5 ⟨rfl, g5⟩
            have hf5 := frm_trans hfa g5
            cases hs1 : Ty.strong y x
            · have HR : Hid (weakTo s k (m + 1) = weakTo s k m) := by unfold Hid; rw [hwk2.out, hs1]; simp
              clear hs1
              go_wp2_with fail
              exact ⟨⟨m + 1, by omega, by go_num, by rw [HR.out]; (try rfl), hf5⟩, by simp [intOf]; omega⟩
            · by_cases hlt3 : m < k
              · have HR : Hid (weakTo s k (m + 1) = true) := by unfold Hid; rw [hwk2.out, hs1]; simp [hlt3]
                have hlt4 : (m : Int) < k := by omega
                clear hs1
                go_wp2_with fail
                exact ⟨⟨m + 1, by omega, by go_num, by rw [HR.out]; (try rfl), hf5⟩, by simp [intOf]; omega⟩
              · have hlt4 : ¬ (m : Int) < k := by omega
                have hbx := ((TwoAt.new wr (.int .i64 s2) (.slice A3 n3 c3) 24).frm g5)
                obtain ⟨z0, z1, _, _⟩ := hbx.cells
                obtain ⟨y0, y1, _, _⟩ := (hox.frm hf5).cells
                have HS1 := Lib.hid hs1
                clear hs1 k1 k2 hq0 hq1
                go_wp2_with fail
                refine (over_calls x y _ _ _ _ _ (stays_ty _ _ _ _ (frm_trans hwx hf5) HP.out) (stays_ty _ _ _ _ (frm_trans (frm_alloc _ _) g5) HQ.out)).mono ?_
                rintro e w6 ⟨rfl, g6⟩
                cases hs2 : Ty.strong x y
                · have HR : Hid (weakTo s k (m + 1) = true) := by unfold Hid; rw [hwk2.out, HS1.out, hs2]; simp
                  clear hs2
                  go_wp2_with fail
                  exact ⟨⟨m + 1, by omega, by go_num, by rw [HR.out]; (try rfl), frm_trans hf5 g6⟩, by simp [intOf]; omega⟩
                · have HR : Hid (weakTo s k (m + 1) = weakTo s k m) := by unfold Hid; rw [hwk2.out, HS1.out, hs2]; simp [hlt3]
                  clear hs2
                  go_wp2_with fail
                  exact ⟨⟨m + 1, by omega, by go_num, by rw [HR.out]; (try rfl), frm_trans hf5 g6⟩, by simp [intOf]; omega⟩
        · obtain rfl : m = s.length := by omega
          have hfq2 := frm_trans hwx hfq
          have hO2 := hO.kept moves_ty hfq2 (ownNone _) (by simp)
          have hfr3 := frm_trans hfr hfq2
          cases hw : weakTo s k s.length
          · have HN2 : Hid (thinTo s (k + 1) = thinTo s k ++ [x]) := by
              unfold Hid
              rw [thinTo, hw, HSK.out]
              rfl
            clear hw
            have hlt5 := hO.lt
            have hlen := thinTo_length s k
            have HTT := HT.out
            have sz := hfr3.size
            have sz1 := hfr.size
            repeat ((fail_if_success at_builtin); first | go_values | go_skip | go_guarded | go_step | go_upon)
            have hf6 := frm_alloc wr (.cells #[.int .i64 s1, .slice A1 n1 c1] 24)
            have hO5 := hO2.kept moves_ty hf6 (ownNone _) (by simp)
            have htw := TwoAt.new wr (.int .i64 s1) (.slice A1 n1 c1) 24
            refine Own.append1 moves_ty elem_ty hO5 rfl _ _ rfl rfl rfl x [.int .i64 s1, .slice A1 n1 c1] rfl ?_ ?_ ?_ (by omega) (by omega) (by simp; omega) ?_
            · intro j u hj
              match j with
              | 0 => simp at hj; subst hj; exact htw.cells.1
              | 1 => simp at hj; subst hj; exact htw.cells.2.1
              | j + 2 => simp at hj
            · intro u hu
              simp at hu
              rcases hu with rfl | rfl <;> rfl
            · exact (HPS.out.move (S' := fun b => b < w.heap.size) (fun b hb => hb) (fun b hb => frm_lt (frm_trans hfq2 hf6) b (Nat.lt_of_lt_of_le hb sz1))).move (fun b hb => ⟨hb, by simp; omega, fun e => by have := (hlt5 b e.symm).1; omega⟩) (fun b hb => rfl)
            intro v7 w7 hO8 hg7 hp7
            have hfr7 := frm_own (frm_trans hfr3 hf6) (fun b hb => (hlt5 b hb).1) hg7
            obtain ⟨A7, c7, rfl, _⟩ := hO8.val
            rw [← HN2.out] at hO8
            clear hlt5 hlen HTT hO hO2 hO5
            go_wp2_with fail
            exact ⟨⟨k + 1, by omega, by go_num, hfr7, by simpa [HN2.out] using hO8⟩, by simp [intOf]; omega⟩
          · have HN2 : Hid (thinTo s (k + 1) = thinTo s k) := by
              unfold Hid
              rw [thinTo, hw, if_pos rfl, List.append_nil]
            clear hw
            rw [← HN2.out] at hO2
            go_wp2_with fail
            exact ⟨⟨k + 1, by omega, by go_num, hfr3, by simpa [HN2.out] using hO2⟩, by simp [intOf]; omega⟩
    · obtain rfl : k = s.length := by omega
      have hlen := thinTo_length s s.length
      have HTT := HT.out
      have hnew : SetO wr (thinTo s s.length) [.slice Ao (thinTo s s.length).length co] := ⟨_, rfl, hO.sl moves_ty (by omega) (fun b h1 h2 => h2) (fun b h1 h2 => h2)⟩
      have HNW := Lib.hid hnew
      clear hnew hO hlen HTT
      go_wp2_with fail
      exact bodyPost_ret (results_tmp rfl _ _ _) rfl ⟨.slice Ao (thinTo s s.length).length co, rfl, hfr, HNW.out⟩
end Go.Proofs.YtmdgoalekkkpnaaDoor
