/- CheckSet, the program's and the reference's. -/
import Derived.Test.YtmdgoalekkkpnaaDoorCheck
set_option linter.unusedVariables false
set_option linter.unusedSimpArgs false
namespace Go.Proofs.YtmdgoalekkkpnaaDoor
open Go.RowKit

set_option maxRecDepth 20000 in
/-- The place of the first large type, or -1. -/
theorem indexLarge_calls (ys : List Ty) (w : World) (u : Value) (hy : SlO w 2 TyO ys u) :
    Calls Tryd.prog 90 #[u, .func (.func 46) #[] #[]] w
      fun e w' => ∃ q : Int, -1 ≤ q ∧ e = .returned (.int .i64 q) ∧ (0 ≤ q ↔ ∃ y ∈ ys, y.large = true) ∧ w.grownBy w' none := by
  obtain ⟨A, c, rfl, hc, hm⟩ := hy.val
  go_enter Tryd.func90, Tryd.ntmps90
  go_wp2_with fail
  go_loopw [8] (fun i wr => ∃ k : Nat, k ≤ ys.length ∧ i = .int .i64 k ∧ w.grownBy wr none ∧ Hid (∀ y ∈ ys.take k, y.large = false)) (fun i _ => ys.length - (intOf i).toNat)
  case atStart => exact ⟨0, Nat.zero_le _, rfl, frm_refl _ _, by simp [Hid]⟩
  case round =>
    obtain ⟨k, hk, rfl, hfr, HC⟩ := hrel
    by_cases hlt : k < ys.length
    · obtain ⟨b, o, p0, p1, rfl, hb, hp0, hp1, hpt⟩ := (hy.frm hfr stays_ty).at2 k hlt
      obtain ⟨s1, A1, n1, c1, rfl, rfl⟩ := hpt.vals
      have htk := Lib.hid (List.take_succ_eq_append_getElem hlt)
      have hmem := List.getElem_mem hlt
      generalize ys[k] = y at *
      go_wp2_with fail
      refine (large_calls y _ _ _ hpt).mono ?_
      rintro e w1 ⟨rfl, hf1⟩
      have hf := frm_trans hfr hf1
      cases hs : y.large
      · have HS := Lib.hid hs
        clear hs
        go_wp2_with fail
        refine ⟨⟨k + 1, by omega, by go_num, hf, ?_⟩, by simp [intOf]; omega⟩
        unfold Hid
        rw [htk.out]
        intro z hz
        rcases List.mem_append.1 hz with hz | hz
        · exact HC.out z hz
        · rw [List.mem_singleton.1 hz]
          exact HS.out
      · have HS := Lib.hid hs
        clear hs
        go_wp2_with fail
        exact bodyPost_ret (results_tmp rfl _ _ _) rfl ⟨k, by omega, rfl, ⟨fun _ => ⟨y, hmem, HS.out⟩, fun _ => by omega⟩, hf⟩
    · obtain rfl : k = ys.length := by omega
      go_wp2_with fail
      refine bodyPost_ret (results_tmp rfl _ _ _) rfl ⟨-1, by omega, rfl, ⟨fun h => by omega, fun ⟨y, hy, hs⟩ => ?_⟩, hfr⟩
      rw [HC.out y (by rwa [List.take_length])] at hs
      cases hs

theorem containsLarge_calls (ys : List Ty) (w : World) (u : Value) (hy : SlO w 2 TyO ys u) :
    Calls Tryd.prog 63 #[u, .func (.func 46) #[] #[]] w
      (Ret w (.bool (ys.any Ty.large))) := by
  have H := Lib.hid (indexLarge_calls ys w u hy)
  obtain ⟨A, c, rfl, hc, hm⟩ := hy.val
  clear hy
  go_enter Tryd.func63, Tryd.ntmps63
  go_wp2_with fail
  refine H.out.mono ?_
  rintro e w1 ⟨q, hq, rfl, hi, hf⟩
  have hq2 : Hid ((ys.any Ty.large) = decide (0 ≤ q)) := by
    unfold Hid
    rw [Bool.eq_iff_iff, List.any_eq_true, decide_eq_true_eq]
    exact hi.symm
  clear hi
  go_wp2_with fail
  refine bodyPost_ret (results_tmp rfl _ _ _) rfl ⟨?_, hf⟩
  rw [hq2.out]
  rfl

set_option maxRecDepth 20000 in
theorem checkSet_calls (s : Srt) (n : Int) (l : List Ty) (w : World) (a0 v : Value) (ha : SrtO w s [a0]) (hv : SetO w l [v]) :
    Calls Tryd.prog 34 #[.agg #[a0], .int .i64 n, v] w (Ret w (.int .i64 (checkSetE s n l))) := by
  obtain ⟨A, c, rfl, hc, hm⟩ := (SetO.sl hv).val
  obtain ⟨B, d, e, hcs⟩ := SrtR_len ha
  obtain rfl : a0 = .slice B d e := by simpa using hcs
  clear hcs
  have hfr0 := frm_alloc w (.cells #[.slice B d e] 43)
  have hsb := OneAt.new w (.slice B d e) 43
  have HA := Lib.hid ha
  have HT := Lib.hid hv
  clear ha hv
  go_enter Tryd.func34, Tryd.ntmps34
  go_wp2_with fail
  refine (place_calls s _ _ n (stays_srt _ _ _ _ hfr0 HA.out)).mono ?_
  rintro e1 w1 ⟨rfl, hf1⟩
  have hfr1 := frm_trans hfr0 hf1
  have hs1 := (hsb.move (frm_lt hf1 _ hsb.lt)).cell
  by_cases hp : placeE s n = 0
  · have HE : Hid (checkSetE s n l = if decide (4096 < l.length) || l.any Ty.large || !Ty.fitSet n s l none then 12 else 0) := by unfold Hid checkSetE; rw [if_neg (by simpa using hp)]
    rw [hp]
    clear hp
    by_cases hlen : 4096 < l.length
    · have HE2 : Hid (checkSetE s n l = 12) := by unfold Hid; rw [HE.out]; simp [hlen]
      go_wp2_with fail
      refine bodyPost_ret (results_tmp rfl _ _ _) rfl ⟨?_, hfr1⟩
      rw [HE2.out]
      rfl
    · have HE1 : Hid (checkSetE s n l = if l.any Ty.large || !Ty.fitSet n s l none then 12 else 0) := by unfold Hid; rw [HE.out]; simp [hlen]
      go_wp2_with fail
      refine (containsLarge_calls l _ _ (SetO.sl (stays_set _ _ _ _ hfr1 HT.out))).mono ?_
      rintro e2 w2 ⟨rfl, hf2⟩
      have hfr2 := frm_trans hfr1 hf2
      have hs2 := frm_cell hf2 hs1
      cases hl : l.any Ty.large
      · have HL := Lib.hid hl
        clear hl
        go_wp2_with fail
        refine (fitsSet_calls n l (fun t _ => fits_calls n t) _ s _ _ (stays_srt _ _ _ _ hfr2 HA.out) (stays_set _ _ _ _ hfr2 HT.out)).mono ?_
        rintro e3 w3 ⟨rfl, hf3⟩
        cases hf : Ty.fitSet n s l none
        · have HF := Lib.hid hf
          clear hf
          go_wp2_with fail
          refine bodyPost_ret (results_tmp rfl _ _ _) rfl ⟨?_, frm_trans hfr2 hf3⟩
          rw [HE1.out, HL.out, HF.out]
          rfl
        · have HF := Lib.hid hf
          clear hf
          go_wp2_with fail
          refine bodyPost_ret (results_tmp rfl _ _ _) rfl ⟨?_, frm_trans hfr2 hf3⟩
          rw [HE1.out, HL.out, HF.out]
          rfl
      · have HL := Lib.hid hl
        clear hl
        go_wp2_with fail
        refine bodyPost_ret (results_tmp rfl _ _ _) rfl ⟨?_, hfr2⟩
        rw [HE1.out, HL.out]
        rfl
  · have HE : Hid (checkSetE s n l = placeE s n) := by unfold Hid checkSetE; rw [if_pos hp]
    have hb : (placeE s n != 0) = true := by simpa using hp
    generalize placeE s n = z at *
    clear hp
    go_wp2_with fail
    refine bodyPost_ret (results_tmp rfl _ _ _) rfl ⟨?_, hfr1⟩
    rw [HE.out]
    rfl

set_option maxRecDepth 20000 in
theorem isSet_calls (s : Srt) (n : Int) (l : List Ty) (w : World) (a0 v : Value) (ha : SrtO w s [a0]) (hv : SetO w l [v]) :
    Calls Tryd.prog 65 #[.agg #[a0], .int .i64 n, v] w (Ret w (.bool (!(decide (4096 < l.length) || l.any Ty.large || !Ty.fitSet n s l none)))) := by
  have hsl := SetO.sl hv
  obtain ⟨A, c, rfl, hc, hm⟩ := hsl.val
  obtain ⟨B, d, e, hcs⟩ := SrtR_len ha
  obtain rfl : a0 = .slice B d e := by simpa using hcs
  clear hcs
  have hfr0 := frm_alloc w (.cells #[.slice B d e] 43)
  have hsb := OneAt.new w (.slice B d e) 43
  have HA := Lib.hid ha
  have HT := Lib.hid hv
  clear ha hv
  go_enter Tryd.func65, Tryd.ntmps65
  by_cases hlen : 4096 < l.length
  · have HE : Hid ((!(decide (4096 < l.length) || l.any Ty.large || !Ty.fitSet n s l none)) = false) := by unfold Hid; simp [hlen]
    generalize (!(decide (4096 < l.length) || l.any Ty.large || !Ty.fitSet n s l none)) = z at *
    go_wp2_with fail
    refine bodyPost_ret (results_tmp rfl _ _ _) rfl ⟨?_, hfr0⟩
    rw [HE.out]
    rfl
  · have HE : Hid ((!(decide (4096 < l.length) || l.any Ty.large || !Ty.fitSet n s l none)) = (!l.any Ty.large && Ty.fitSet n s l none)) := by unfold Hid; simp [hlen]
    generalize (!(decide (4096 < l.length) || l.any Ty.large || !Ty.fitSet n s l none)) = z at *
    go_wp2_with fail
    go_loopw [14] (fun i wr => ∃ k : Nat, k ≤ l.length ∧ i = .int .i64 k ∧ w.grownBy wr none ∧ OneAt wr w.heap.size (.slice B d e) 43 ∧ Hid (l.any Ty.large = (l.drop k).any Ty.large)) (fun i _ => l.length - (intOf i).toNat)
    case atStart => exact ⟨0, Nat.zero_le _, rfl, hfr0, hsb, rfl⟩
    case round =>
      obtain ⟨k, hk, rfl, hfr, hone, HS⟩ := hrel
      have hcell := hone.cell
      by_cases hlt : k < l.length
      · obtain ⟨b, o, p0, p1, rfl, hb, hp0, hp1, hpt⟩ := (hsl.frm hfr stays_ty).at2 k hlt
        obtain ⟨s1, A1, n1, c1, rfl, rfl⟩ := hpt.vals
        have HD : Hid ((l.drop k).any Ty.large = (l[k].large || (l.drop (k + 1)).any Ty.large)) := by
          unfold Hid
          rw [List.drop_eq_getElem_cons hlt]
          rfl
        generalize l[k] = t at *
        go_wp2_with fail
        refine (rlarge_calls t _ _ _ (stays_ty _ _ _ _ (frm_alloc _ _) hpt)).mono ?_
        rintro e1 w1 ⟨rfl, hf1⟩
        have hf2 := frm_trans (frm_alloc wr (.cells #[.int .i64 s1, .slice A1 n1 c1] 24)) hf1
        cases hl : t.large
        · have HL := Lib.hid hl
          clear hl
          go_wp2_with fail
          refine ⟨⟨k + 1, by omega, by go_num, frm_trans hfr hf2, hone.move (frm_lt hf2 _ hone.lt), ?_⟩, by simp [intOf]; omega⟩
          unfold Hid
          rw [HS.out, HD.out, HL.out]
          rfl
        · have HL := Lib.hid hl
          clear hl
          go_wp2_with fail
          refine bodyPost_ret (results_tmp rfl _ _ _) rfl ⟨?_, frm_trans hfr hf2⟩
          rw [HE.out, HS.out, HD.out, HL.out]
          rfl
      · obtain rfl : k = l.length := by omega
        have HE2 : Hid (z = Ty.fitSet n s l none) := by
          unfold Hid
          rw [HE.out, HS.out, List.drop_length]
          rfl
        go_wp2_with fail
        refine (shapedSet_calls n l (fun t _ => shaped_calls n t) _ s _ _ (stays_srt _ _ _ _ hfr HA.out) (stays_set _ _ _ _ hfr HT.out)).mono ?_
        rintro e3 w3 ⟨rfl, hf3⟩
        go_wp2_with fail
        refine bodyPost_ret (results_tmp rfl _ _ _) rfl ⟨?_, frm_trans hfr hf3⟩
        rw [HE2.out]
        rfl

set_option maxRecDepth 20000 in
theorem rcheckSet_calls (s : Srt) (n : Int) (l : List Ty) (w : World) (a0 v : Value) (ha : SrtO w s [a0]) (hv : SetO w l [v]) :
    Calls Tryd.prog 35 #[.agg #[a0], .int .i64 n, v] w (Ret w (.int .i64 (checkSetE s n l))) := by
  obtain ⟨A, c, rfl, hc, hm⟩ := (SetO.sl hv).val
  obtain ⟨B, d, e, hcs⟩ := SrtR_len ha
  obtain rfl : a0 = .slice B d e := by simpa using hcs
  clear hcs
  have hfr0 := frm_alloc w (.cells #[.slice B d e] 43)
  have hsb := OneAt.new w (.slice B d e) 43
  have HA := Lib.hid ha
  have HT := Lib.hid hv
  clear ha hv
  go_enter Tryd.func35, Tryd.ntmps35
  go_wp2_with fail
  refine (sis_calls s _ _ (stays_srt _ _ _ _ hfr0 HA.out)).mono ?_
  rintro e1 w1 ⟨rfl, hf1⟩
  have hfr1 := frm_trans hfr0 hf1
  have hs1 := (hsb.move (frm_lt hf1 _ hsb.lt)).cell
  cases hg : s.good
  · have HE : Hid (checkSetE s n l = 6) := by unfold Hid checkSetE; rw [placeE_eq, hg]; rfl
    clear hg
    go_wp2_with fail
    refine bodyPost_ret (results_tmp rfl _ _ _) rfl ⟨?_, hfr1⟩
    rw [HE.out]
    rfl
  · have HG : Hid (placeE s n = stateE n) := by unfold Hid; rw [placeE_eq, hg]; rfl
    clear hg
    go_wp2_with fail
    refine (states_calls _ n).mono ?_
    rintro e2 w2 ⟨rfl, hf2⟩
    have hfr2 := frm_trans hfr1 hf2
    have hs2 := frm_cell hf2 hs1
    by_cases hp : stateE n = 0
    · have HE : Hid (checkSetE s n l = if decide (4096 < l.length) || l.any Ty.large || !Ty.fitSet n s l none then 12 else 0) := by unfold Hid checkSetE; rw [HG.out, if_neg (by simpa using hp)]
      rw [hp]
      clear hp
      go_wp2_with fail
      refine (isSet_calls s n l _ _ _ (stays_srt _ _ _ _ hfr2 HA.out) (stays_set _ _ _ _ hfr2 HT.out)).mono ?_
      rintro e3 w3 ⟨rfl, hf3⟩
      cases hq : (decide (4096 < l.length) || l.any Ty.large || !Ty.fitSet n s l none)
      · have HE2 : Hid (checkSetE s n l = 0) := by
          unfold Hid
          rw [HE.out, hq]
          rfl
        clear hq
        go_wp2_with fail
        refine bodyPost_ret (results_tmp rfl _ _ _) rfl ⟨?_, frm_trans hfr2 hf3⟩
        rw [HE2.out]
        rfl
      · have HE2 : Hid (checkSetE s n l = 12) := by
          unfold Hid
          rw [HE.out, hq]
          rfl
        clear hq
        go_wp2_with fail
        refine bodyPost_ret (results_tmp rfl _ _ _) rfl ⟨?_, frm_trans hfr2 hf3⟩
        rw [HE2.out]
        rfl
    · have HE : Hid (checkSetE s n l = stateE n) := by unfold Hid checkSetE; rw [HG.out, if_pos hp]
      have hb : (stateE n != 0) = true := by simpa using hp
      generalize stateE n = z at *
      clear hp
      go_wp2_with fail
      refine bodyPost_ret (results_tmp rfl _ _ _) rfl ⟨?_, hfr2⟩
      rw [HE.out]
      rfl
end Go.Proofs.YtmdgoalekkkpnaaDoor
