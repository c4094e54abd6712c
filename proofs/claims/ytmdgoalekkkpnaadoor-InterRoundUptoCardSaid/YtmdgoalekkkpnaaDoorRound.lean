/- Digits; InterRound. -/
import Derived.Test.YtmdgoalekkkpnaaDoorRoundP
import Derived.Test.YtmdgoalekkkpnaaDoorRefGet
import Derived.Test.YtmdgoalekkkpnaaDoorAlive
set_option linter.unusedVariables false
set_option linter.unusedSimpArgs false
namespace Go.Proofs.YtmdgoalekkkpnaaDoor
open Go.RowKit

theorem Ty.digitsRows_drop (a : List (List Ty)) (k : Nat) (h : k < a.length) : Ty.digitsRows (a.drop k) = (Ty.digitsSet a[k] && Ty.digitsRows (a.drop (k + 1))) := by
  rw [List.drop_eq_getElem_cons h, Ty.digitsRows]
theorem Ty.digitsSet_drop (a : List Ty) (k : Nat) (h : k < a.length) : Ty.digitsSet (a.drop k) = (Ty.digits a[k] && Ty.digitsSet (a.drop (k + 1))) := by
  rw [List.drop_eq_getElem_cons h, Ty.digitsSet]
theorem Ty.digitsRows_end (a : List (List Ty)) : Ty.digitsRows (a.drop a.length) = true := by
  rw [List.drop_length, Ty.digitsRows]
theorem Ty.digitsSet_end (a : List Ty) : Ty.digitsSet (a.drop a.length) = true := by
  rw [List.drop_length, Ty.digitsSet]

set_option maxRecDepth 100000 in
set_option maxHeartbeats 1000000 in
theorem digits_calls : ∀ (t : Ty) (w : World) (v0 v1 : Value), TyO w t [v0, v1] →
    Calls Tryd.prog 24 #[.agg #[v0, v1]] w (Ret w (.bool t.digits)) := by
  intro t
  induction t using Ty.ind with
  | h st args ih =>
    intro w v0 v1 ht
    rw [TyO_mk] at ht
    obtain ⟨v, hcs, h1, h2, hs⟩ := ht
    obtain ⟨rfl, rfl⟩ : v0 = .int .i64 st ∧ v1 = v := by simpa using hcs
    obtain ⟨A, c, rfl, hc, hm⟩ := hs.val
    clear hcs
    have IH := Lib.hid ih
    clear ih
    have HD : Hid ((Ty.mk st args).digits = (Ty.digitsRows args && (decide (0 ≤ st) && decide (st ≤ 9)))) := by unfold Hid; rw [Ty.digits]
    go_enter Tryd.func24, Tryd.ntmps24
    go_wp2_with fail
    go_loopw [10] (fun i wr => ∃ k : Nat, k ≤ args.length ∧ i = .int .i64 k ∧ w.grownBy wr none ∧ TwoAt wr w.heap.size (.int .i64 st) (.slice A args.length c) 24 ∧ Hid (Ty.digitsRows args = Ty.digitsRows (args.drop k))) (fun i _ => args.length - (intOf i).toNat)
    case atStart => exact ⟨0, Nat.zero_le _, rfl, frm_alloc _ _, TwoAt.new _ _ _ _, rfl⟩
    case round =>
      obtain ⟨k, hk, rfl, hfr, hbox, HS⟩ := hrel
      by_cases hlt : k < args.length
      · obtain ⟨o, p, q, rfl, ho, hq, hqt⟩ := (hs.frm hfr stays_set).at1 k hlt
        have hqs := SetO.sl hqt
        obtain ⟨A2, c2, rfl, hc2, hm2⟩ := hqs.val
        have HR := Lib.hid (Ty.digitsRows_drop args k hlt)
        have hma := List.getElem_mem hlt
        generalize args[k] = ts at *
        go_wp2_with fail
        obtain ⟨wo, rfl⟩ : ∃ wo : World, wo = wr := ⟨_, rfl⟩
        go_loopw [16] (fun i wr => ∃ j : Nat, j ≤ ts.length ∧ i = .int .i64 j ∧ wo.grownBy wr none ∧ Hid (Ty.digitsSet ts = Ty.digitsSet (ts.drop j))) (fun i _ => ts.length - (intOf i).toNat)
        case atStart => exact ⟨0, Nat.zero_le _, rfl, frm_refl _ _, rfl⟩
        case round =>
          obtain ⟨j, hj, rfl, hfr2, HS2⟩ := hrel
          by_cases hlt2 : j < ts.length
          · obtain ⟨o2, p2, q0, q1, rfl, ho2, hq0, hq1, hxt⟩ := (hqs.frm hfr2 stays_ty).at2 j hlt2
            obtain ⟨s1, A1, n1, c1, rfl, rfl⟩ := hxt.vals
            have HT := Lib.hid (Ty.digitsSet_drop ts j hlt2)
            have hmt := List.getElem_mem hlt2
            generalize ts[j] = t at *
            have hf4 := frm_alloc wr (.cells #[.int .i64 s1, .slice A1 n1 c1] 24)
            go_wp2_with fail
            refine (IH.out _ hma _ hmt _ _ _ (stays_ty _ _ _ _ hf4 hxt)).mono ?_
            rintro e w5 ⟨rfl, hf5⟩
            cases hd : t.digits
            · have HW := Lib.hid hd
              clear hd
              go_wp2_with fail
              refine bodyPost_ret (results_tmp rfl _ _ _) rfl ⟨?_, frm_trans hfr (frm_trans hfr2 (frm_trans hf4 hf5))⟩
              rw [HD.out, HS.out, HR.out, HS2.out, HT.out, HW.out]
              rfl
            · have HW := Lib.hid hd
              clear hd
              go_wp2_with fail
              refine ⟨⟨j + 1, by omega, by go_num, frm_trans hfr2 (frm_trans hf4 hf5), ?_⟩, by simp [intOf]; omega⟩
              unfold Hid
              rw [HS2.out, HT.out, HW.out]
              rfl
          · obtain rfl : j = ts.length := by omega
            go_wp2_with fail
            refine ⟨⟨k + 1, by omega, by go_num, frm_trans hfr hfr2, hbox.frm hfr2, ?_⟩, by simp [intOf]; omega⟩
            unfold Hid
            rw [HS.out, HR.out, HS2.out, Ty.digitsSet_end]
            rfl
      · obtain rfl : k = args.length := by omega
        obtain ⟨x0, x1, _, _⟩ := hbox.cells
        have HE : Hid ((Ty.mk st args).digits = (decide (0 ≤ st) && decide (st ≤ 9))) := by
          unfold Hid
          rw [HD.out, HS.out, Ty.digitsRows_end, Bool.true_and]
        by_cases hp : 0 ≤ st
        · by_cases hp9 : st ≤ 9
          · go_wp2_with fail
            refine bodyPost_ret (results_tmp rfl _ _ _) rfl ⟨?_, hfr⟩
            rw [HE.out]
            simp [hp, hp9]
          · go_wp2_with fail
            refine bodyPost_ret (results_tmp rfl _ _ _) rfl ⟨?_, hfr⟩
            rw [HE.out]
            simp [hp, hp9]
        · go_wp2_with fail
          refine bodyPost_ret (results_tmp rfl _ _ _) rfl ⟨?_, hfr⟩
          rw [HE.out]
          simp
          omega

/-- A type that is not large, whose states are digits: its string is read back. -/
theorem round1 (t : Ty) (hl : t.large = false) (hd : t.digits = true) (hs : t.text.length ≤ 65536) : Ty.put t = (t.text, 0) ∧ getT t.text = (t, 0) := by
  constructor
  · unfold Ty.put
    rw [hl, if_neg (by simp), if_neg (by omega)]
  · unfold getT
    have h := reads_all t hd (t.text.length + 1) [] (by omega)
    rw [List.append_nil] at h
    rw [if_neg (by omega), h]
    simp [hl]
theorem round2 (t : Ty) (hl : t.large = false) (hs : 65536 < t.text.length) : Ty.put t = ([], 3) := by
  unfold Ty.put
  rw [hl, if_neg (by simp), if_pos hs]
theorem round3 (l : List UInt8) (h : (getT l).2 = 0) : Ty.put (getT l).1 = (l, 0) ∧ (getT l).1.text = l := by
  unfold getT at h ⊢
  by_cases hlong : 65536 < l.length
  · rw [if_pos hlong] at h
    cases h
  · rw [if_neg hlong] at h ⊢
    cases hr : rdT (l.length + 1) l [] with
    | none =>
      rw [hr] at h
      cases h
    | some p =>
      obtain ⟨t, r⟩ := p
      rw [hr] at h
      simp only at h ⊢
      by_cases hn : r = []
      · subst hn
        cases hl : t.large
        · have ht := read_text hr
          rw [List.append_nil] at ht
          simp only [hl, ne_eq, not_true_eq_false, if_false, Bool.false_eq_true]
          refine ⟨?_, ht.symm⟩
          unfold Ty.put
          rw [hl, if_neg (by simp), if_neg (by rw [← ht]; exact hlong), ← ht]
        · simp [hl] at h
      · rw [if_pos hn] at h
        cases h

set_option maxRecDepth 100000 in
set_option maxHeartbeats 4000000 in
theorem lround_calls (w : World) (t : Ty) (v0 v1 : Value) (S : ByteArray) (ht : TyO w t [v0, v1]) (hlen : t.text.length ≤ 140737488351232) (hS : S.size ≤ 140737488351232)
    (htab : Lib.TabIs Tryd.prog w "internal/strconv.uint64pow10" .u64 Lib.pow10Tab) :
    Calls Tryd.prog 7 #[.agg #[v0, v1], .string S] w (Ret w (.bool true)) := by
  obtain ⟨st, A, n, c, rfl, rfl⟩ := ht.vals
  have HT : Hid (Tab w.heap.size w) := Lib.tabBelow_of_tabIs htab
  obtain ⟨l2, rfl⟩ : ∃ l, S = bs l := ⟨_, bs_of S⟩
  have hl2 : l2.length ≤ 140737488351232 := by rw [← bs_size l2]; exact hS
  have HTY := Lib.hid ht
  clear ht htab hS
  have hf0 := frm_alloc w (.cells #[.int .i64 st, .slice A n c] 24)
  have hbox := TwoAt.new w (.int .i64 st) (.slice A n c) 24
  go_enter Tryd.func7, Tryd.ntmps7
  go_wp2_with fail
  refine (rlarge_calls t _ _ _ (stays_ty _ _ _ _ hf0 HTY.out)).mono ?_
  rintro e w1 ⟨rfl, hf1⟩
  have hfr1 := frm_trans hf0 hf1
  have hbox1 := hbox.frm hf1
  obtain ⟨x0, x1, _, _⟩ := hbox1.cells
  cases hlg : t.large
  · have HL := Lib.hid hlg
    clear hlg
    go_wp2_with fail
    refine (digits_calls t _ _ _ (stays_ty _ _ _ _ hfr1 HTY.out)).mono ?_
    rintro e w2 ⟨rfl, hf2⟩
    have hfr2 := frm_trans hfr1 hf2
    have hbox2 := hbox1.frm hf2
    clear x0 x1
    obtain ⟨x0, x1, _, _⟩ := hbox2.cells
    cases hdg : t.digits
    · clear hdg
      go_wp2_with fail
      refine (get_calls l2 _ hl2).mono ?_
      rintro e wa ⟨v, rfl, hfa, v2, v3, rfl, hty⟩
      obtain ⟨s9, A9, n9, c9, rfl, e9⟩ := hty.vals
      have ht9 : TyO wa (getT l2).1 [.int .i64 s9, v3] := hty.move (fun b hb => hb.2) (fun b hb => rfl)
      clear hty
      subst e9
      have HF9 : Hid (w.grownBy (wa.alloc (.cells #[.int .i64 s9, .slice A9 n9 c9] 24)) none ∧ wa.grownBy (wa.alloc (.cells #[.int .i64 s9, .slice A9 n9 c9] 24)) none) := ⟨frm_then_alloc (frm_trans hfr2 hfa) _, frm_alloc _ _⟩
      by_cases hz : (getT l2).2 = 0
      · have HZ := Lib.hid (round3 l2 hz)
        rw [hz]
        clear hz
        go_wp2_with fail
        refine (put_calls (getT l2).1 _ _ _ (stays_ty _ _ _ _ HF9.out.2 ht9) (HT.out.step (frm_below HF9.out.1 (Nat.le_refl _))).here (by rw [HZ.out.2]; omega)).mono ?_
        rintro e wb ⟨rfl, hfb⟩
        have hfB := frm_trans HF9.out.1 hfb
        rw [HZ.out.1]
        generalize bs l2 = Z at *
        go_wp2_with fail
        refine (alive_calls _ (HT.out.step (frm_below hfB (Nat.le_refl _))).here).mono ?_
        rintro e wc ⟨rfl, hfc⟩
        go_wp2_with fail
        exact bodyPost_ret (results_tmp rfl _ _ _) rfl ⟨rfl, frm_trans hfB hfc⟩
      · have hzb : ((getT l2).2 != 0) = true := by simpa using hz
        generalize (getT l2).2 = zz at *
        clear hz
        go_wp2_with fail
        refine (alive_calls _ (HT.out.step (frm_below HF9.out.1 (Nat.le_refl _))).here).mono ?_
        rintro e wc ⟨rfl, hfc⟩
        go_wp2_with fail
        exact bodyPost_ret (results_tmp rfl _ _ _) rfl ⟨rfl, frm_trans HF9.out.1 hfc⟩
    · have HD := Lib.hid hdg
      clear hdg
      go_wp2_with fail
      refine (put_calls t _ _ _ (stays_ty _ _ _ _ hfr2 HTY.out) (HT.out.step (frm_below hfr2 (Nat.le_refl _))).here (by omega)).mono ?_
      rintro e w3 ⟨rfl, hf3⟩
      have hfr3 := frm_trans hfr2 hf3
      have hbox3 := hbox2.frm hf3
      clear x0 x1
      obtain ⟨x0, x1, _, _⟩ := hbox3.cells
      by_cases hlong : 65536 < t.text.length
      · have HP := Lib.hid (round2 t HL.out hlong)
        rw [HP.out]
        go_wp2_with fail
        refine (get_calls [] _ (by simp)).mono ?_
        rintro e w4 ⟨v, rfl, hf4, v2, v3, rfl, hty⟩
        obtain ⟨s8, A8, n8, c8, rfl, e8⟩ := hty.vals
        subst e8
        clear hty
        have hfr4 := frm_then_alloc (frm_trans hfr3 hf4) (.cells #[.int .i64 s8, .slice A8 n8 c8] 24)
        generalize (getT []).2 = z8 at *
        go_wp2_with fail
        refine (get_calls l2 _ hl2).mono ?_
        rintro e wa ⟨v, rfl, hfa, v2, v3, rfl, hty⟩
        obtain ⟨s9, A9, n9, c9, rfl, e9⟩ := hty.vals
        have ht9 : TyO wa (getT l2).1 [.int .i64 s9, v3] := hty.move (fun b hb => hb.2) (fun b hb => rfl)
        clear hty
        subst e9
        have HF9 : Hid (w.grownBy (wa.alloc (.cells #[.int .i64 s9, .slice A9 n9 c9] 24)) none ∧ wa.grownBy (wa.alloc (.cells #[.int .i64 s9, .slice A9 n9 c9] 24)) none) := ⟨frm_then_alloc (frm_trans hfr4 hfa) _, frm_alloc _ _⟩
        by_cases hz : (getT l2).2 = 0
        · have HZ := Lib.hid (round3 l2 hz)
          rw [hz]
          clear hz
          go_wp2_with fail
          refine (put_calls (getT l2).1 _ _ _ (stays_ty _ _ _ _ HF9.out.2 ht9) (HT.out.step (frm_below HF9.out.1 (Nat.le_refl _))).here (by rw [HZ.out.2]; omega)).mono ?_
          rintro e wb ⟨rfl, hfb⟩
          have hfB := frm_trans HF9.out.1 hfb
          rw [HZ.out.1]
          generalize bs l2 = Z at *
          go_wp2_with fail
          refine (alive_calls _ (HT.out.step (frm_below hfB (Nat.le_refl _))).here).mono ?_
          rintro e wc ⟨rfl, hfc⟩
          go_wp2_with fail
          exact bodyPost_ret (results_tmp rfl _ _ _) rfl ⟨rfl, frm_trans hfB hfc⟩
        · have hzb : ((getT l2).2 != 0) = true := by simpa using hz
          generalize (getT l2).2 = zz at *
          clear hz
          go_wp2_with fail
          refine (alive_calls _ (HT.out.step (frm_below HF9.out.1 (Nat.le_refl _))).here).mono ?_
          rintro e wc ⟨rfl, hfc⟩
          go_wp2_with fail
          exact bodyPost_ret (results_tmp rfl _ _ _) rfl ⟨rfl, frm_trans HF9.out.1 hfc⟩
      · have HP := Lib.hid (round1 t HL.out HD.out (by omega))
        rw [HP.out.1]
        go_wp2_with fail
        refine (get_calls t.text _ (by omega)).mono ?_
        rintro e w4 ⟨v, rfl, hf4, v2, v3, rfl, hty⟩
        obtain ⟨s8, A8, n8, c8, rfl, e8⟩ := hty.vals
        have ht8 : TyO w4 (getT t.text).1 [.int .i64 s8, v3] := hty.move (fun b hb => hb.2) (fun b hb => rfl)
        subst e8
        clear hty
        rw [HP.out.2] at ht8 ⊢
        have hfr4 := frm_then_alloc (frm_trans hfr3 hf4) (.cells #[.int .i64 s8, .slice A8 n8 c8] 24)
        have hf48 := frm_alloc w4 (.cells #[.int .i64 s8, .slice A8 n8 c8] 24)
        have hbox4 := (hbox3.frm hf4).alloc (.cells #[.int .i64 s8, .slice A8 n8 c8] 24)
        clear x0 x1
        obtain ⟨x0, x1, _, _⟩ := hbox4.cells
        have HT8 := Lib.hid ht8
        clear ht8
        go_wp2_with fail
        refine (rsame_calls t t _ _ _ _ _ (stays_ty _ _ _ _ hf48 HT8.out) (stays_ty _ _ _ _ hfr4 HTY.out)).mono ?_
        rintro e w5 ⟨rfl, hf5⟩
        rw [same_self t HL.out]
        have hfr5 := frm_trans hfr4 hf5
        go_wp2_with fail
        refine (get_calls l2 _ hl2).mono ?_
        rintro e wa ⟨v, rfl, hfa, v2, v3, rfl, hty⟩
        obtain ⟨s9, A9, n9, c9, rfl, e9⟩ := hty.vals
        have ht9 : TyO wa (getT l2).1 [.int .i64 s9, v3] := hty.move (fun b hb => hb.2) (fun b hb => rfl)
        clear hty
        subst e9
        have HF9 : Hid (w.grownBy (wa.alloc (.cells #[.int .i64 s9, .slice A9 n9 c9] 24)) none ∧ wa.grownBy (wa.alloc (.cells #[.int .i64 s9, .slice A9 n9 c9] 24)) none) := ⟨frm_then_alloc (frm_trans hfr5 hfa) _, frm_alloc _ _⟩
        by_cases hz : (getT l2).2 = 0
        · have HZ := Lib.hid (round3 l2 hz)
          rw [hz]
          clear hz
          go_wp2_with fail
          refine (put_calls (getT l2).1 _ _ _ (stays_ty _ _ _ _ HF9.out.2 ht9) (HT.out.step (frm_below HF9.out.1 (Nat.le_refl _))).here (by rw [HZ.out.2]; omega)).mono ?_
          rintro e wb ⟨rfl, hfb⟩
          have hfB := frm_trans HF9.out.1 hfb
          rw [HZ.out.1]
          generalize bs l2 = Z at *
          go_wp2_with fail
          refine (alive_calls _ (HT.out.step (frm_below hfB (Nat.le_refl _))).here).mono ?_
          rintro e wc ⟨rfl, hfc⟩
          go_wp2_with fail
          exact bodyPost_ret (results_tmp rfl _ _ _) rfl ⟨rfl, frm_trans hfB hfc⟩
        · have hzb : ((getT l2).2 != 0) = true := by simpa using hz
          generalize (getT l2).2 = zz at *
          clear hz
          go_wp2_with fail
          refine (alive_calls _ (HT.out.step (frm_below HF9.out.1 (Nat.le_refl _))).here).mono ?_
          rintro e wc ⟨rfl, hfc⟩
          go_wp2_with fail
          exact bodyPost_ret (results_tmp rfl _ _ _) rfl ⟨rfl, frm_trans HF9.out.1 hfc⟩
  · clear hlg
    go_wp2_with fail
    refine (get_calls l2 _ hl2).mono ?_
    rintro e wa ⟨v, rfl, hfa, v2, v3, rfl, hty⟩
    obtain ⟨s9, A9, n9, c9, rfl, e9⟩ := hty.vals
    have ht9 : TyO wa (getT l2).1 [.int .i64 s9, v3] := hty.move (fun b hb => hb.2) (fun b hb => rfl)
    clear hty
    subst e9
    have HF9 : Hid (w.grownBy (wa.alloc (.cells #[.int .i64 s9, .slice A9 n9 c9] 24)) none ∧ wa.grownBy (wa.alloc (.cells #[.int .i64 s9, .slice A9 n9 c9] 24)) none) := ⟨frm_then_alloc (frm_trans hfr1 hfa) _, frm_alloc _ _⟩
    by_cases hz : (getT l2).2 = 0
    · have HZ := Lib.hid (round3 l2 hz)
      rw [hz]
      clear hz
      go_wp2_with fail
      refine (put_calls (getT l2).1 _ _ _ (stays_ty _ _ _ _ HF9.out.2 ht9) (HT.out.step (frm_below HF9.out.1 (Nat.le_refl _))).here (by rw [HZ.out.2]; omega)).mono ?_
      rintro e wb ⟨rfl, hfb⟩
      have hfB := frm_trans HF9.out.1 hfb
      rw [HZ.out.1]
      generalize bs l2 = Z at *
      go_wp2_with fail
      refine (alive_calls _ (HT.out.step (frm_below hfB (Nat.le_refl _))).here).mono ?_
      rintro e wc ⟨rfl, hfc⟩
      go_wp2_with fail
      exact bodyPost_ret (results_tmp rfl _ _ _) rfl ⟨rfl, frm_trans hfB hfc⟩
    · have hzb : ((getT l2).2 != 0) = true := by simpa using hz
      generalize (getT l2).2 = zz at *
      clear hz
      go_wp2_with fail
      refine (alive_calls _ (HT.out.step (frm_below HF9.out.1 (Nat.le_refl _))).here).mono ?_
      rintro e wc ⟨rfl, hfc⟩
      go_wp2_with fail
      exact bodyPost_ret (results_tmp rfl _ _ _) rfl ⟨rfl, frm_trans HF9.out.1 hfc⟩
end Go.Proofs.YtmdgoalekkkpnaaDoor
