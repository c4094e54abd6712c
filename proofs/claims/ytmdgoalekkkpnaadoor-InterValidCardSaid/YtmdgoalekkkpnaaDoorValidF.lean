/- The law's fits. -/
import Derived.Test.YtmdgoalekkkpnaaDoorValidP
import Derived.StillTailTactics
set_option linter.unusedVariables false
set_option linter.unusedSimpArgs false
namespace Go.Proofs.YtmdgoalekkkpnaaDoor
open Go.RowKit

def LFitAt (n : Int) (t : Ty) : Prop := ∀ (w : World) (s : Srt) (a0 v0 v1 : Value), SrtO w s [a0] → TyO w t [v0, v1] →
  Calls Tryd.prog 42 #[.agg #[a0], .int .i64 n, .agg #[v0, v1]] w (Ret w (.bool (Ty.fitsL n t s)))

set_option maxRecDepth 100000 in
set_option maxHeartbeats 2000000 in
theorem lfits_calls (n : Int) : ∀ t : Ty, LFitAt n t := by
  intro t
  induction t using Ty.ind with
  | h st args ih =>
    intro w s a0 v0 v1 ha ht
    rw [TyO_mk] at ht
    obtain ⟨v, hcs, h1, h2, hs⟩ := ht
    obtain ⟨rfl, rfl⟩ : v0 = .int .i64 st ∧ v1 = v := by simpa using hcs
    have hsa := SrtO_mk ha
    obtain ⟨A, c, rfl, hc, hm⟩ := hs.val
    obtain ⟨B, d, rfl, hd, hmd⟩ := hsa.val
    have HI := Lib.hid ih
    have HS := Lib.hid hs
    have HA := Lib.hid hsa
    have HE := Lib.hid (Ty.fitsL_mk n st args s)
    have hf0 : w.grownBy ((w.alloc (.cells #[.slice B s.args.length d] 43)).alloc (.cells #[.int .i64 st, .slice A args.length c] 24)) none := frm_then_alloc (frm_alloc _ _) _
    have sb : OneAt ((w.alloc (.cells #[.slice B s.args.length d] 43)).alloc (.cells #[.int .i64 st, .slice A args.length c] 24)) w.heap.size (.slice B s.args.length d) 43 := (OneAt.new _ _ _).alloc _
    have tb : TwoAt ((w.alloc (.cells #[.slice B s.args.length d] 43)).alloc (.cells #[.int .i64 st, .slice A args.length c] 24)) (w.heap.size + 1) (.int .i64 st) (.slice A args.length c) 24 := TwoAt.new2 _ _ _ _ _
    clear ih hcs ha hs hsa
    generalize hl2 : s.args = sl at *
    have HSL := Lib.hid hl2
    clear hl2
    by_cases hlen : args.length = sl.length
    · have hne : (args.length != sl.length) = false := by simp [hlen]
      have hne2 : ((args.length : Int) != (sl.length : Int)) = false := by simp [hlen]
      by_cases hst0 : st < 0
      · have HR : Hid (Ty.fitsL n (.mk st args) s = false) := by
          unfold Hid; rw [HE.out]; simp; intro _ h; omega
        have HL := Lib.hid hlen
        clear hlen
        go_enter Tryd.func42, Tryd.ntmps42
        go_wp2_with fail
        exact bodyPost_ret (results_tmp rfl _ _ _) rfl ⟨by rw [HR.out]; rfl, hf0⟩
      · by_cases hstn : n ≤ st
        · have HR : Hid (Ty.fitsL n (.mk st args) s = false) := by
            unfold Hid; rw [HE.out]; simp; intro _ _ h; omega
          have HL := Lib.hid hlen
          clear hlen
          go_enter Tryd.func42, Tryd.ntmps42
          go_wp2_with fail
          exact bodyPost_ret (results_tmp rfl _ _ _) rfl ⟨by rw [HR.out]; rfl, hf0⟩
        · have HR : Hid (Ty.fitsL n (.mk st args) s = Ty.fitRowsL n args sl) := by
            unfold Hid
            rw [HE.out]
            have e1 : (0 : Int) ≤ st := by omega
            have e2 : st < n := by omega
            simp [hlen, e1, e2]
          have HL := Lib.hid hlen
          clear hlen
          go_enter Tryd.func42, Tryd.ntmps42
          go_wp2_with fail
          generalize hw0 : (w.alloc (.cells #[.slice B sl.length d] 43)).alloc (.cells #[.int .i64 st, .slice A args.length c] 24) = w0 at *
          clear hw0
          go_loopw [32] (fun i wr => ∃ k : Nat, k ≤ args.length ∧ i = .int .i64 k ∧ w0.grownBy wr none ∧ Hid (Ty.fitRowsL n args sl = Ty.fitRowsL n (args.drop k) (sl.drop k))) (fun i _ => args.length - (intOf i).toNat)
          case atStart => exact ⟨0, Nat.zero_le _, rfl, frm_refl _ _, rfl⟩
          case round =>
            obtain ⟨k, hk, rfl, hfr, HD⟩ := hrel
            have hfw := frm_trans hf0 hfr
            by_cases hlt : k < args.length
            · have hltS : k < sl.length := by rw [← HL.out]; exact hlt
              obtain ⟨b, o, q, rfl, hb, hq, hqt⟩ := (HS.out.frm hfw stays_set).at1 k hlt
              obtain ⟨A2, c2, rfl, hc2, hm2⟩ := (SetO.sl hqt).val
              have HQ := Lib.hid hqt
              have hdr := Lib.hid (Ty.fitRowsL_drop n args sl k hlt hltS)
              have hma : args[k] ∈ args := List.getElem_mem hlt
              obtain ⟨b9, o9, q9, rfl, hb9, hq9, hqs9⟩ := (HA.out.frm hfw stays_srt).at1 k hltS
              obtain ⟨B9, n9, c9, hcs9⟩ := SrtR_len hqs9
              obtain rfl : q9 = .slice B9 n9 c9 := by simpa using hcs9
              have HQ9 := Lib.hid hqs9
              have HQC := Lib.hid hq9
              clear hqt hqs9 hcs9 hq9
              generalize args[k] = ts at *
              generalize sl[k] = s2 at *
              go_wp2_with fail
              obtain ⟨wo, hwo⟩ : ∃ wo : World, wo = wr := ⟨_, rfl⟩
              subst hwo
              go_loopw [39] (fun j wq => ∃ m : Nat, m ≤ ts.length ∧ j = .int .i64 m ∧ wo.grownBy wq none ∧ Hid (Ty.fitElemsL n s2 ts = Ty.fitElemsL n s2 (ts.drop m))) (fun j _ => ts.length - (intOf j).toNat)
              case atStart => exact ⟨0, Nat.zero_le _, rfl, frm_refl _ _, rfl⟩
              case round =>
                obtain ⟨m, hm3, rfl, hfq, HD2⟩ := hrel
                have hfwq := frm_trans hfw hfq
                by_cases hlt2 : m < ts.length
                · obtain ⟨b4, o4, p0, p1, rfl, hb4, hp0, hp1, hpt⟩ := ((SetO.sl HQ.out).frm hfq stays_ty).at2 m hlt2
                  obtain ⟨s1, A1, n1, c1, rfl, rfl⟩ := hpt.vals
                  have HP := Lib.hid hpt
                  have hdr2 := Lib.hid (Ty.fitElemsL_drop n s2 ts m hlt2)
                  have hmt : ts[m] ∈ ts := List.getElem_mem hlt2
                  clear hpt
                  generalize ts[m] = t2 at *
                  have hqr := frm_cell hfq HQC.out
                  have hb9r : b9 < wr.heap.size := Nat.lt_of_lt_of_le hb9 hfq.size
                  have sbr := sb.move (frm_lt (frm_trans hfr hfq) _ sb.lt)
                  have sbc := sbr.cell
                  have sbl := sbr.lt
                  have hki : (k : Int) < sl.length := by omega
                  have hk0 : (0 : Int) ≤ k := by omega
                  have hf4 := frm_alloc wr (.cells #[.int .i64 s1, .slice A1 n1 c1] 24)
                  have hbx := TwoAt.new wr (.int .i64 s1) (.slice A1 n1 c1) 24
                  go_wp2_with fail
                  clear sbc
                  have sb8 := sbr.alloc (.cells #[.int .i64 s1, .slice A1 n1 c1] 24)
                  have hq8 := frm_cell hf4 hqr
                  clear hqr
                  generalize wr.alloc (.cells #[.int .i64 s1, .slice A1 n1 c1] 24) = w8 at *
                  obtain ⟨bx0, bx1, _, _⟩ := hbx.cells
                  have sbc := sb8.cell
                  go_still_tail 7, (by kernel_rfl)
                  go_wp2_with fail
                  refine (HI.out _ hma _ hmt _ s2 _ _ _ (stays_srt _ _ _ _ (frm_trans hfq (frm_trans hf4 (frm_drew _))) HQ9.out) (stays_ty _ _ _ _ (frm_trans hf4 (frm_drew _)) HP.out)).mono ?_
                  rintro e w5 ⟨rfl, g5⟩
                  have hg5 := frm_trans hf4 (frm_trans (frm_drew _) g5)
                  cases hb5 : Ty.fitsL n t2 s2
                  · have HRR : Hid (Ty.fitsL n (.mk st args) s = false) := by
                      unfold Hid
                      rw [HR.out, HD.out, hdr.out, HD2.out, hdr2.out, hb5]; rfl
                    clear hb5
                    go_wp2_with fail
                    exact bodyPost_ret (results_tmp rfl _ _ _) rfl ⟨by rw [HRR.out]; rfl, frm_trans hfwq hg5⟩
                  · have HRR : Hid (Ty.fitElemsL n s2 ts = Ty.fitElemsL n s2 (ts.drop (m + 1))) := by
                      unfold Hid
                      rw [HD2.out, hdr2.out, hb5]; rfl
                    clear hb5
                    go_wp2_with fail
                    exact ⟨⟨m + 1, by omega, by go_num, frm_trans hfq hg5, HRR⟩, by simp [intOf]; omega⟩
                · obtain rfl : m = ts.length := by omega
                  have HRR : Hid (Ty.fitRowsL n args sl = Ty.fitRowsL n (args.drop (k + 1)) (sl.drop (k + 1))) := by
                    unfold Hid
                    rw [HD.out, hdr.out, HD2.out, List.drop_length, Ty.fitElemsL]; rfl
                  go_wp2_with fail
                  exact ⟨⟨k + 1, by omega, by go_num, frm_trans hfr hfq, HRR⟩, by simp [intOf]; omega⟩
            · obtain rfl : k = args.length := by omega
              have HRR : Hid (Ty.fitsL n (.mk st args) s = true) := by
                unfold Hid
                rw [HR.out, HD.out, List.drop_length, Ty.fitRowsL]
              go_wp2_with fail
              exact bodyPost_ret (results_tmp rfl _ _ _) rfl ⟨by rw [HRR.out]; rfl, hfw⟩
    · have hne : (args.length != sl.length) = true := by simp [hlen]
      have hne2 : ((args.length : Int) != (sl.length : Int)) = true := by simp; omega
      have HR : Hid (Ty.fitsL n (.mk st args) s = false) := by
        unfold Hid; rw [HE.out]; simp [hlen]
      clear hlen
      go_enter Tryd.func42, Tryd.ntmps42
      go_wp2_with fail
      exact bodyPost_ret (results_tmp rfl _ _ _) rfl ⟨by rw [HR.out]; rfl, hf0⟩
end Go.Proofs.YtmdgoalekkkpnaaDoor
