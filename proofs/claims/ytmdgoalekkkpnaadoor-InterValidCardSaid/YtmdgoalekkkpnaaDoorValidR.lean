/- The law's rising. -/
import Derived.Test.YtmdgoalekkkpnaaDoorValidP
set_option linter.unusedVariables false
set_option linter.unusedSimpArgs false
namespace Go.Proofs.YtmdgoalekkkpnaaDoor
open Go.RowKit

def RisingAt (t : Ty) : Prop := ∀ (w : World) (v0 v1 : Value), TyO w t [v0, v1] → t.Fit →
  Calls Tryd.prog 43 #[.agg #[v0, v1]] w (Ret w (.bool t.rises))

set_option maxRecDepth 100000 in
set_option maxHeartbeats 2000000 in
theorem rising_calls : ∀ t : Ty, RisingAt t := by
  intro t
  induction t using Ty.ind with
  | h st args ih =>
    intro w v0 v1 ht hfit
    rw [TyO_mk] at ht
    obtain ⟨v, hcs, h1, h2, hs⟩ := ht
    obtain ⟨rfl, rfl⟩ : v0 = .int .i64 st ∧ v1 = v := by simpa using hcs
    obtain ⟨A, c, rfl, hc, hm⟩ := hs.val
    obtain ⟨g1, g2, g3⟩ := fit_args hfit
    have HI := Lib.hid ih
    have HS := Lib.hid hs
    have HG2 := Lib.hid g2
    have HG3 := Lib.hid g3
    have hf0 : w.grownBy (w.alloc (.cells #[.int .i64 st, .slice A args.length c] 24)) none := frm_alloc _ _
    have HR : Hid (Ty.rises (.mk st args) = Ty.risesRows args) := by unfold Hid; rw [Ty.rises]
    clear ih hcs hs g1 g2 g3 hfit
    go_enter Tryd.func43, Tryd.ntmps43
    go_wp2_with fail
    generalize hw0 : w.alloc (.cells #[.int .i64 st, .slice A args.length c] 24) = w0 at *
    clear hw0
    go_loopw [12] (fun i wr => ∃ k : Nat, k ≤ args.length ∧ i = .int .i64 k ∧ w0.grownBy wr none ∧ Hid (Ty.risesRows args = Ty.risesRows (args.drop k))) (fun i _ => args.length - (intOf i).toNat)
    case atStart => exact ⟨0, Nat.zero_le _, rfl, frm_refl _ _, rfl⟩
    case round =>
      obtain ⟨k, hk, rfl, hfr, HD⟩ := hrel
      have hfw := frm_trans hf0 hfr
      by_cases hlt : k < args.length
      · obtain ⟨b, o, q, rfl, hb, hq, hqt⟩ := (HS.out.frm hfw stays_set).at1 k hlt
        obtain ⟨A2, c2, rfl, hc2, hm2⟩ := (SetO.sl hqt).val
        have HQ := Lib.hid hqt
        have hdr := Lib.hid (Ty.risesRows_drop args k hlt)
        have hma : args[k] ∈ args := List.getElem_mem hlt
        have h32 := HG2.out _ hma
        have HF := Lib.hid (HG3.out _ hma)
        clear hqt
        generalize args[k] = ts at *
        go_wp2_with fail
        refine (set_calls ts _ _ HQ.out HF.out h32).mono ?_
        rintro e w1 ⟨u, rfl, g1, hn⟩
        have hg1 := frm_trans hfr g1
        obtain ⟨Au, cu, rfl, _, _⟩ := hn.val
        have HU := Lib.hid hn.set
        clear hn
        by_cases hE : setE ts = 0
        · have hne : (setE ts != 0) = false := by simp [hE]
          have HE := Lib.hid hE
          clear hE
          go_wp2_with fail
          refine (lsame_calls (setT ts) ts _ _ _ HU.out (stays_set _ _ _ _ g1 HQ.out)).mono ?_
          rintro e w2 ⟨rfl, g2⟩
          have hg2 := frm_trans hg1 g2
          cases hsm : sameL (setT ts) ts
          · have HRR : Hid (Ty.rises (.mk st args) = false) := by
              unfold Hid
              rw [HR.out, HD.out, hdr.out, okSet, hsm]; simp
            clear hsm
            go_wp2_with fail
            exact bodyPost_ret (results_tmp rfl _ _ _) rfl ⟨by rw [HRR.out]; rfl, frm_trans hf0 hg2⟩
          · have HOK : Hid (okSet ts = true) := by unfold Hid; rw [okSet, hsm, HE.out]; rfl
            clear hsm
            go_wp2_with fail
            have hgs : w0.grownBy w2 none := hg2
            have HQ2 := Lib.hid (stays_set _ _ _ _ (frm_trans g1 g2) HQ.out)
            clear g1 g2 hg1 hg2
            go_loopw [31] (fun j wq => ∃ m : Nat, m ≤ ts.length ∧ j = .int .i64 m ∧ w2.grownBy wq none ∧ Hid (Ty.risesElems ts = Ty.risesElems (ts.drop m))) (fun j _ => ts.length - (intOf j).toNat)
            case atStart => exact ⟨0, Nat.zero_le _, rfl, frm_refl _ _, rfl⟩
            case round =>
              obtain ⟨m, hm3, rfl, hfq, HD2⟩ := hrel
              have hgq := frm_trans hgs hfq
              by_cases hlt2 : m < ts.length
              · obtain ⟨b4, o4, p0, p1, rfl, hb4, hp0, hp1, hpt⟩ := ((SetO.sl HQ2.out).frm hfq stays_ty).at2 m hlt2
                obtain ⟨s1, A1, n1, c1, rfl, rfl⟩ := hpt.vals
                have HP := Lib.hid hpt
                have hdr2 := Lib.hid (Ty.risesElems_drop ts m hlt2)
                have hmt : ts[m] ∈ ts := List.getElem_mem hlt2
                have hft := HF.out _ hmt
                clear hpt
                generalize ts[m] = t2 at *
                have hf4 := frm_alloc wr (.cells #[.int .i64 s1, .slice A1 n1 c1] 24)
                go_wp2_with fail
                refine (HI.out _ hma _ hmt _ _ _ (stays_ty _ _ _ _ hf4 HP.out) hft).mono ?_
                rintro e w5 ⟨rfl, g5⟩
                have hg5 := frm_trans hf4 g5
                cases hb5 : t2.rises
                · have HRR : Hid (Ty.rises (.mk st args) = false) := by
                    unfold Hid
                    rw [HR.out, HD.out, hdr.out, HOK.out, HD2.out, hdr2.out, hb5]; rfl
                  clear hb5
                  go_wp2_with fail
                  exact bodyPost_ret (results_tmp rfl _ _ _) rfl ⟨by rw [HRR.out]; rfl, frm_trans hf0 (frm_trans hgq hg5)⟩
                · have HRR : Hid (Ty.risesElems ts = Ty.risesElems (ts.drop (m + 1))) := by
                    unfold Hid
                    rw [HD2.out, hdr2.out, hb5]; rfl
                  clear hb5
                  go_wp2_with fail
                  exact ⟨⟨m + 1, by omega, by go_num, frm_trans hfq hg5, HRR⟩, by simp [intOf]; omega⟩
              · obtain rfl : m = ts.length := by omega
                have HRR : Hid (Ty.risesRows args = Ty.risesRows (args.drop (k + 1))) := by
                  unfold Hid
                  rw [HD.out, hdr.out, HOK.out, HD2.out, List.drop_length, Ty.risesElems]; rfl
                go_wp2_with fail
                exact ⟨⟨k + 1, by omega, by go_num, hgq, HRR⟩, by simp [intOf]; omega⟩
        · have hne : (setE ts != 0) = true := by simp [hE]
          have HRR : Hid (Ty.rises (.mk st args) = false) := by
            unfold Hid
            rw [HR.out, HD.out, hdr.out, okSet]; simp [hE]
          clear hE
          go_wp2_with fail
          exact bodyPost_ret (results_tmp rfl _ _ _) rfl ⟨by rw [HRR.out]; rfl, frm_trans hf0 hg1⟩
      · obtain rfl : k = args.length := by omega
        have HRR : Hid (Ty.rises (.mk st args) = true) := by
          unfold Hid
          rw [HR.out, HD.out, List.drop_length, Ty.risesRows]
        go_wp2_with fail
        exact bodyPost_ret (results_tmp rfl _ _ _) rfl ⟨by rw [HRR.out]; rfl, hfw⟩
end Go.Proofs.YtmdgoalekkkpnaaDoor
