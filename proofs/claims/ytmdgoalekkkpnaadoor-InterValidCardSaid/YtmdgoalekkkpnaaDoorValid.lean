/- InterValid: the law's walk. -/
import Derived.Test.YtmdgoalekkkpnaaDoorValidF
import Derived.Test.YtmdgoalekkkpnaaDoorValidR
import Derived.Test.YtmdgoalekkkpnaaDoorCheck
import Derived.Test.YtmdgoalekkkpnaaDoorNodes
import Derived.Test.YtmdgoalekkkpnaaDoorAlive
set_option linter.unusedVariables false
set_option linter.unusedSimpArgs false
namespace Go.Proofs.YtmdgoalekkkpnaaDoor
open Go.RowKit

theorem checkE_cases (s : Srt) (n : Int) (t : Ty) : checkE s n t = 6 ∨ checkE s n t = 2 ∨ (checkE s n t = if t.large || !Ty.fits n t s then 12 else 0) := by
  unfold checkE
  by_cases h : placeE s n = 0
  · right; right
    rw [if_neg (by simp [h])]
  · rw [if_pos h]
    unfold placeE at h ⊢
    split at h
    · split at h
      · rename_i h1 h2
        rw [if_pos h1, if_pos h2]; simp
      · simp at h
    · rename_i h1
      rw [if_neg h1]; simp

set_option maxRecDepth 100000 in
set_option maxHeartbeats 2000000 in
theorem lvalid_calls (w : World) (s : Srt) (a0 : Value) (n : Int) (t : Ty) (v0 v1 : Value) (ha : SrtO w s [a0]) (ht : TyO w t [v0, v1]) (hfit : t.Fit)
    (htab : Lib.TabIs Tryd.prog w "internal/strconv.uint64pow10" .u64 Lib.pow10Tab) :
    Calls Tryd.prog 13 #[.agg #[a0], .int .i64 n, .agg #[v0, v1]] w (Ret w (.bool true)) := by
  have HT : Hid (Tab w.heap.size w) := Lib.tabBelow_of_tabIs htab
  clear htab
  have HX := Lib.hid ht
  have HA := Lib.hid ha
  obtain ⟨st, args⟩ := t
  have htt := ht
  rw [TyO_mk] at htt
  obtain ⟨v, hcs, h1, h2, hs⟩ := htt
  obtain ⟨rfl, rfl⟩ : v0 = .int .i64 st ∧ v1 = v := by simpa using hcs
  obtain ⟨A, c, rfl, hc, hm⟩ := hs.val
  obtain ⟨B, d, e, hcs2⟩ := SrtR_len ha
  obtain rfl : a0 = .slice B d e := by simpa using hcs2
  clear hcs hcs2 hs ht ha
  have hf0 : w.grownBy ((w.alloc (.cells #[.slice B d e] 43)).alloc (.cells #[.int .i64 st, .slice A args.length c] 24)) none := frm_then_alloc (frm_alloc _ _) _
  have sb : OneAt ((w.alloc (.cells #[.slice B d e] 43)).alloc (.cells #[.int .i64 st, .slice A args.length c] 24)) w.heap.size (.slice B d e) 43 := (OneAt.new _ _ _).alloc _
  have tb : TwoAt ((w.alloc (.cells #[.slice B d e] 43)).alloc (.cells #[.int .i64 st, .slice A args.length c] 24)) (w.heap.size + 1) (.int .i64 st) (.slice A args.length c) 24 := TwoAt.new2 _ _ _ _ _
  have hck := fun w' (hf : w.grownBy w' none) => check_calls s n (.mk st args) w' _ _ _ (stays_srt _ _ _ _ hf HA.out) (stays_ty _ _ _ _ hf HX.out)
  rcases checkE_cases s n (.mk st args) with hE | hE | hE
  · rw [hE] at hck
    have HC := Lib.hid hck
    clear hck hE
    go_enter Tryd.func13, Tryd.ntmps13
    go_wp2_with fail
    refine (HC.out _ hf0).mono ?_
    rintro e w1 ⟨rfl, g1⟩
    have hf1 := frm_trans hf0 g1
    go_wp2_with fail
    refine (alive_calls _ (HT.out.step (frm_below hf1 (Nat.le_refl _))).here).mono ?_
    rintro e w9 ⟨rfl, g9⟩
    go_wp2_with fail
    exact bodyPost_ret (results_tmp rfl _ _ _) rfl ⟨rfl, frm_trans hf1 g9⟩
  · rw [hE] at hck
    have HC := Lib.hid hck
    clear hck hE
    go_enter Tryd.func13, Tryd.ntmps13
    go_wp2_with fail
    refine (HC.out _ hf0).mono ?_
    rintro e w1 ⟨rfl, g1⟩
    have hf1 := frm_trans hf0 g1
    go_wp2_with fail
    refine (alive_calls _ (HT.out.step (frm_below hf1 (Nat.le_refl _))).here).mono ?_
    rintro e w9 ⟨rfl, g9⟩
    go_wp2_with fail
    exact bodyPost_ret (results_tmp rfl _ _ _) rfl ⟨rfl, frm_trans hf1 g9⟩
  · have q6 : (checkE s n (.mk st args) == 6) = false := by rw [hE]; split <;> rfl
    have q2 : (checkE s n (.mk st args) == 2) = false := by rw [hE]; split <;> rfl
    have HC := Lib.hid hck
    have HEE := Lib.hid hE
    clear hck hE
    generalize hx : checkE s n (.mk st args) = x at *
    clear hx
    go_enter Tryd.func13, Tryd.ntmps13
    go_wp2_with fail
    refine (HC.out _ hf0).mono ?_
    rintro e1 w1 ⟨rfl, g1⟩
    have hf1 := frm_trans hf0 g1
    have sb1 := sb.move (frm_lt g1 _ sb.lt)
    have tb1 := tb.frm g1
    obtain ⟨y0, y1, _, _⟩ := tb1.cells
    go_wp2_with fail
    refine (nodes_calls (.mk st args) _ _ _ 200 (stays_ty _ _ _ _ hf1 HX.out) (by omega) (by omega)).mono ?_
    rintro e2 w2 ⟨rfl, g2⟩
    have hf2 := frm_trans hf1 g2
    have sb2 := sb1.move (frm_lt g2 _ sb1.lt)
    have tb2 := tb1.frm g2
    clear y0 y1
    obtain ⟨y0, y1, _, _⟩ := tb2.cells
    have hup : (upTo (Ty.mk st args).size 200 ≤ 200 → (Ty.mk st args).size ≤ 200) := by unfold upTo; intro h; omega
    by_cases hbig : 200 < upTo (Ty.mk st args).size 200
    · go_wp2_with fail
      refine (alive_calls _ (HT.out.step (frm_below hf2 (Nat.le_refl _))).here).mono ?_
      rintro e w9 ⟨rfl, g9⟩
      go_wp2_with fail
      exact bodyPost_ret (results_tmp rfl _ _ _) rfl ⟨rfl, frm_trans hf2 g9⟩
    · have hsz := hup (by omega)
      have HZ : Hid (x = if Ty.fitsL n (.mk st args) s && (Ty.mk st args).rises then 0 else 12) := by
        unfold Hid
        have hl : (Ty.mk st args).large = false := by unfold Ty.large; rw [decide_eq_false_iff_not]; omega
        rw [HEE.out, hl, fits_eq n _ (by omega) s]
        cases Ty.fitsL n (.mk st args) s <;> cases (Ty.mk st args).rises <;> rfl
      clear hup hsz
      generalize upTo (Ty.mk st args).size 200 = up at *
      by_cases hargs : 100 < args.length
      · have hargs2 : (100 : Int) < args.length := by omega
        go_wp2_with fail
        refine (alive_calls _ (HT.out.step (frm_below hf2 (Nat.le_refl _))).here).mono ?_
        rintro e w9 ⟨rfl, g9⟩
        go_wp2_with fail
        exact bodyPost_ret (results_tmp rfl _ _ _) rfl ⟨rfl, frm_trans hf2 g9⟩
      · have hargs2 : ¬ (100 : Int) < args.length := by omega
        have z0 := sb2.cell
        go_wp2_with fail
        refine (lfits_calls n (.mk st args) _ s _ _ _ (stays_srt _ _ _ _ hf2 HA.out) (stays_ty _ _ _ _ hf2 HX.out)).mono ?_
        rintro e3 w3 ⟨rfl, g3⟩
        have hf3 := frm_trans hf2 g3
        clear y0 y1 z0
        obtain ⟨y0, y1, _, _⟩ := (tb2.frm g3).cells
        cases hF : Ty.fitsL n (.mk st args) s
        · have e12 : x = 12 := by have := HZ.out; rw [hF] at this; exact this
          clear hF
          subst e12
          go_wp2_with fail
          refine (alive_calls _ (HT.out.step (frm_below hf3 (Nat.le_refl _))).here).mono ?_
          rintro e w9 ⟨rfl, g9⟩
          go_wp2_with fail
          exact bodyPost_ret (results_tmp rfl _ _ _) rfl ⟨rfl, frm_trans hf3 g9⟩
        · have HF := Lib.hid hF
          clear hF
          go_wp2_with fail
          refine (rising_calls (.mk st args) _ _ _ (stays_ty _ _ _ _ hf3 HX.out) hfit).mono ?_
          rintro e4 w4 ⟨rfl, g4⟩
          have hf4 := frm_trans hf3 g4
          cases hR : (Ty.mk st args).rises
          · have e12 : x = 12 := by have := HZ.out; rw [HF.out, hR] at this; exact this
            clear hR
            subst e12
            go_wp2_with fail
            refine (alive_calls _ (HT.out.step (frm_below hf4 (Nat.le_refl _))).here).mono ?_
            rintro e w9 ⟨rfl, g9⟩
            go_wp2_with fail
            exact bodyPost_ret (results_tmp rfl _ _ _) rfl ⟨rfl, frm_trans hf4 g9⟩
          · have e0 : x = 0 := by have := HZ.out; rw [HF.out, hR] at this; exact this
            clear hR
            subst e0
            go_wp2_with fail
            refine (alive_calls _ (HT.out.step (frm_below hf4 (Nat.le_refl _))).here).mono ?_
            rintro e w9 ⟨rfl, g9⟩
            go_wp2_with fail
            exact bodyPost_ret (results_tmp rfl _ _ _) rfl ⟨rfl, frm_trans hf4 g9⟩
end Go.Proofs.YtmdgoalekkkpnaaDoor
