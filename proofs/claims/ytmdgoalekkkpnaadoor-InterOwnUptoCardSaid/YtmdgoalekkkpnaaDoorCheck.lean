/- Check and CheckSet, the program's and the reference's; InterCheck and InterSets. -/
import Derived.Test.YtmdgoalekkkpnaaDoorFits
import Derived.Test.YtmdgoalekkkpnaaDoorSortR
import Derived.Test.YtmdgoalekkkpnaaDoorStrong
import Derived.Test.YtmdgoalekkkpnaaDoorNodes
import Derived.Test.YtmdgoalekkkpnaaDoorAlive
set_option linter.unusedVariables false
set_option linter.unusedSimpArgs false
namespace Go.Proofs.YtmdgoalekkkpnaaDoor
open Go.RowKit

/-- Check's answer. -/
def checkE (s : Srt) (n : Int) (t : Ty) : Int := if placeE s n ≠ 0 then placeE s n else if t.large || !Ty.fits n t s then 12 else 0
/-- CheckSet's answer. -/
def checkSetE (s : Srt) (n : Int) (l : List Ty) : Int := if placeE s n ≠ 0 then placeE s n else if decide (4096 < l.length) || l.any Ty.large || !Ty.fitSet n s l none then 12 else 0
theorem placeE_eq (s : Srt) (n : Int) : placeE s n = if s.good then stateE n else 6 := rfl

set_option maxRecDepth 20000 in
theorem check_calls (s : Srt) (n : Int) (t : Ty) (w : World) (a0 v0 v1 : Value) (ha : SrtO w s [a0]) (ht : TyO w t [v0, v1]) :
    Calls Tryd.prog 30 #[.agg #[a0], .int .i64 n, .agg #[v0, v1]] w (Ret w (.int .i64 (checkE s n t))) := by
  obtain ⟨st, A, m, c, rfl, rfl⟩ := ht.vals
  obtain ⟨B, d, e, hcs⟩ := SrtR_len ha
  obtain rfl : a0 = .slice B d e := by simpa using hcs
  clear hcs
  have hfr0 := frm_then_alloc (frm_alloc w (.cells #[.slice B d e] 43)) (.cells #[.int .i64 st, .slice A m c] 24)
  have hsb := (OneAt.new w (.slice B d e) 43).alloc (.cells #[.int .i64 st, .slice A m c] 24)
  have htb := TwoAt.new2 w (.cells #[.slice B d e] 43) (.int .i64 st) (.slice A m c) 24
  have HA := Lib.hid ha
  have HT := Lib.hid ht
  clear ha ht
  go_enter Tryd.func30, Tryd.ntmps30
  go_wp2_with fail
  refine (place_calls s _ _ n (stays_srt _ _ _ _ hfr0 HA.out)).mono ?_
  rintro e1 w1 ⟨rfl, hf1⟩
  have hfr1 := frm_trans hfr0 hf1
  have hs1 := (hsb.move (frm_lt hf1 _ hsb.lt)).cell
  have htb1 := htb.frm hf1
  obtain ⟨x0, x1, _, _⟩ := htb1.cells
  by_cases hp : placeE s n = 0
  · have HE : Hid (checkE s n t = if t.large || !Ty.fits n t s then 12 else 0) := by unfold Hid checkE; rw [if_neg (by simpa using hp)]
    rw [hp]
    clear hp
    go_wp2_with fail
    refine (large_calls t _ _ _ (stays_ty _ _ _ _ hfr1 HT.out)).mono ?_
    rintro e2 w2 ⟨rfl, hf2⟩
    have hfr2 := frm_trans hfr1 hf2
    have hs2 := frm_cell hf2 hs1
    have y0 := frm_cell hf2 x0
    have y1 := frm_cell hf2 x1
    cases hl : t.large
    · have HL := Lib.hid hl
      clear hl
      go_wp2_with fail
      refine (fits_calls n t _ s _ _ _ (stays_srt _ _ _ _ hfr2 HA.out) (stays_ty _ _ _ _ hfr2 HT.out)).mono ?_
      rintro e3 w3 ⟨rfl, hf3⟩
      cases hf : Ty.fits n t s
      · have HF := Lib.hid hf
        clear hf
        go_wp2_with fail
        refine bodyPost_ret (results_tmp rfl _ _ _) rfl ⟨?_, frm_trans hfr2 hf3⟩
        rw [HE.out, HL.out, HF.out]
        rfl
      · have HF := Lib.hid hf
        clear hf
        go_wp2_with fail
        refine bodyPost_ret (results_tmp rfl _ _ _) rfl ⟨?_, frm_trans hfr2 hf3⟩
        rw [HE.out, HL.out, HF.out]
        rfl
    · have HL := Lib.hid hl
      clear hl
      go_wp2_with fail
      refine bodyPost_ret (results_tmp rfl _ _ _) rfl ⟨?_, hfr2⟩
      rw [HE.out, HL.out]
      rfl
  · have HE : Hid (checkE s n t = placeE s n) := by unfold Hid checkE; rw [if_pos hp]
    have hb : (placeE s n != 0) = true := by simpa using hp
    generalize placeE s n = z at *
    clear hp
    go_wp2_with fail
    refine bodyPost_ret (results_tmp rfl _ _ _) rfl ⟨?_, hfr1⟩
    rw [HE.out]
    rfl

set_option maxRecDepth 20000 in
theorem isT_calls (s : Srt) (n : Int) (t : Ty) (w : World) (a0 v0 v1 : Value) (ha : SrtO w s [a0]) (ht : TyO w t [v0, v1]) :
    Calls Tryd.prog 61 #[.agg #[a0], .int .i64 n, .agg #[v0, v1]] w (Ret w (.bool (!t.large && Ty.fits n t s))) := by
  obtain ⟨st, A, m, c, rfl, rfl⟩ := ht.vals
  obtain ⟨B, d, e, hcs⟩ := SrtR_len ha
  obtain rfl : a0 = .slice B d e := by simpa using hcs
  clear hcs
  have hfr0 := frm_then_alloc (frm_alloc w (.cells #[.slice B d e] 43)) (.cells #[.int .i64 st, .slice A m c] 24)
  have hsb := (OneAt.new w (.slice B d e) 43).alloc (.cells #[.int .i64 st, .slice A m c] 24)
  have htb := TwoAt.new2 w (.cells #[.slice B d e] 43) (.int .i64 st) (.slice A m c) 24
  have HA := Lib.hid ha
  have HT := Lib.hid ht
  clear ha ht
  go_enter Tryd.func61, Tryd.ntmps61
  go_wp2_with fail
  refine (rlarge_calls t _ _ _ (stays_ty _ _ _ _ hfr0 HT.out)).mono ?_
  rintro e1 w1 ⟨rfl, hf1⟩
  have hfr1 := frm_trans hfr0 hf1
  have hs1 := (hsb.move (frm_lt hf1 _ hsb.lt)).cell
  have htb1 := htb.frm hf1
  obtain ⟨x0, x1, _, _⟩ := htb1.cells
  cases hl : t.large
  · have HL := Lib.hid hl
    clear hl
    go_wp2_with fail
    refine (shaped_calls n t _ s _ _ _ (stays_srt _ _ _ _ hfr1 HA.out) (stays_ty _ _ _ _ hfr1 HT.out)).mono ?_
    rintro e3 w3 ⟨rfl, hf3⟩
    go_wp2_with fail
    refine bodyPost_ret (results_tmp rfl _ _ _) rfl ⟨?_, frm_trans hfr1 hf3⟩
    rw [HL.out]
    rfl
  · have HL := Lib.hid hl
    clear hl
    go_wp2_with fail
    refine bodyPost_ret (results_tmp rfl _ _ _) rfl ⟨?_, hfr1⟩
    rw [HL.out]
    rfl

set_option maxRecDepth 20000 in
theorem rcheck_calls (s : Srt) (n : Int) (t : Ty) (w : World) (a0 v0 v1 : Value) (ha : SrtO w s [a0]) (ht : TyO w t [v0, v1]) :
    Calls Tryd.prog 31 #[.agg #[a0], .int .i64 n, .agg #[v0, v1]] w (Ret w (.int .i64 (checkE s n t))) := by
  obtain ⟨st, A, m, c, rfl, rfl⟩ := ht.vals
  obtain ⟨B, d, e, hcs⟩ := SrtR_len ha
  obtain rfl : a0 = .slice B d e := by simpa using hcs
  clear hcs
  have hfr0 := frm_then_alloc (frm_alloc w (.cells #[.slice B d e] 43)) (.cells #[.int .i64 st, .slice A m c] 24)
  have hsb := (OneAt.new w (.slice B d e) 43).alloc (.cells #[.int .i64 st, .slice A m c] 24)
  have htb := TwoAt.new2 w (.cells #[.slice B d e] 43) (.int .i64 st) (.slice A m c) 24
  have HA := Lib.hid ha
  have HT := Lib.hid ht
  clear ha ht
  go_enter Tryd.func31, Tryd.ntmps31
  go_wp2_with fail
  refine (sis_calls s _ _ (stays_srt _ _ _ _ hfr0 HA.out)).mono ?_
  rintro e1 w1 ⟨rfl, hf1⟩
  have hfr1 := frm_trans hfr0 hf1
  have hs1 := (hsb.move (frm_lt hf1 _ hsb.lt)).cell
  have htb1 := htb.frm hf1
  obtain ⟨x0, x1, _, _⟩ := htb1.cells
  cases hg : s.good
  · have HE : Hid (checkE s n t = 6) := by unfold Hid checkE; rw [placeE_eq, hg]; rfl
    clear hg
    go_wp2_with fail
    refine bodyPost_ret (results_tmp rfl _ _ _) rfl ⟨?_, hfr1⟩
    rw [HE.out]
    rfl
  · have HG : Hid (placeE s n = stateE n) := by unfold Hid; rw [placeE_eq, hg]; rfl
    clear hg
    go_wp2_with fail
    refine (states_calls _ n).mono ?_
    rintro e2 w2 ⟨rfl, hf2⟩
    have hfr2 := frm_trans hfr1 hf2
    have hs2 := frm_cell hf2 hs1
    have y0 := frm_cell hf2 x0
    have y1 := frm_cell hf2 x1
    by_cases hp : stateE n = 0
    · have HE : Hid (checkE s n t = if t.large || !Ty.fits n t s then 12 else 0) := by unfold Hid checkE; rw [HG.out, if_neg (by simpa using hp)]
      rw [hp]
      clear hp
      go_wp2_with fail
      refine (isT_calls s n t _ _ _ _ (stays_srt _ _ _ _ hfr2 HA.out) (stays_ty _ _ _ _ hfr2 HT.out)).mono ?_
      rintro e3 w3 ⟨rfl, hf3⟩
      cases hq : (!t.large && Ty.fits n t s)
      · have HE2 : Hid (checkE s n t = 12) := by
          unfold Hid
          rw [HE.out]
          revert hq
          cases t.large <;> cases Ty.fits n t s <;> simp
        clear hq
        go_wp2_with fail
        refine bodyPost_ret (results_tmp rfl _ _ _) rfl ⟨?_, frm_trans hfr2 hf3⟩
        rw [HE2.out]
        rfl
      · have HE2 : Hid (checkE s n t = 0) := by
          unfold Hid
          rw [HE.out]
          revert hq
          cases t.large <;> cases Ty.fits n t s <;> simp
        clear hq
        go_wp2_with fail
        refine bodyPost_ret (results_tmp rfl _ _ _) rfl ⟨?_, frm_trans hfr2 hf3⟩
        rw [HE2.out]
        rfl
    · have HE : Hid (checkE s n t = stateE n) := by unfold Hid checkE; rw [HG.out, if_pos hp]
      have hb : (stateE n != 0) = true := by simpa using hp
      generalize stateE n = z at *
      clear hp
      go_wp2_with fail
      refine bodyPost_ret (results_tmp rfl _ _ _) rfl ⟨?_, hfr2⟩
      rw [HE.out]
      rfl

set_option maxRecDepth 20000 in
theorem rsize_calls (t : Ty) (w : World) (v0 v1 : Value) (ht : TyO w t [v0, v1]) :
    Calls Tryd.prog 33 #[.agg #[v0, v1]] w (Ret w (.int .i64 (2000 - max (2000 - (t.size : Int)) (-1)))) := by
  obtain ⟨st, A, m, c, rfl, rfl⟩ := ht.vals
  have HT := Lib.hid ht
  clear ht
  go_enter Tryd.func33, Tryd.ntmps33
  go_wp2_with fail
  refine (nodes_calls t _ _ _ _ (stays_ty _ _ _ _ (frm_alloc _ _) HT.out) (by omega) (by omega)).mono ?_
  rintro e1 w1 ⟨rfl, hf1⟩
  have HU : Hid (min (upTo t.size 2000) 2001 = 2000 - max (2000 - (t.size : Int)) (-1)) := by unfold Hid upTo; omega
  generalize upTo t.size 2000 = u at *
  go_wp2_with fail
  refine bodyPost_ret (results_tmp rfl _ _ _) rfl ⟨?_, frm_trans (frm_alloc _ _) hf1⟩
  rw [← HU.out]
  exact congrArg Ending.returned (int_eq (by first | omega | (simp; omega) | simp))
end Go.Proofs.YtmdgoalekkkpnaaDoor
