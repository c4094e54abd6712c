/- The reference's Nodes and Large. -/
import Derived.Test.YtmdgoalekkkpnaaDoorProg
import Derived.Test.YtmdgoalekkkpnaaDoorBase
import Derived.Test.YtmdgoalekkkpnaaDoorPure
set_option linter.unusedVariables false
set_option linter.unusedSimpArgs false
namespace Go.Proofs.YtmdgoalekkkpnaaDoor
open Go.RowKit

/-- A count that stops behind m. -/
def upTo (n : Nat) (m : Int) : Int := min (n : Int) (m + 1)

set_option maxRecDepth 100000 in
set_option maxHeartbeats 1000000 in
theorem nodes_calls : ∀ (t : Ty) (w : World) (v0 v1 : Value) (m : Int), TyO w t [v0, v1] → 0 ≤ m → m ≤ 100000 →
    Calls Tryd.prog 41 #[.agg #[v0, v1], .int .i64 m] w (Ret w (.int .i64 (upTo t.size m))) := by
  intro t
  induction t using Ty.ind with
  | h st args ih =>
    intro w v0 v1 m ht hm0 hm1
    rw [TyO_mk] at ht
    obtain ⟨v, hcs, h1, h2, hs⟩ := ht
    obtain ⟨rfl, rfl⟩ : v0 = .int .i64 st ∧ v1 = v := by simpa using hcs
    obtain ⟨A, c, rfl, hc, hm⟩ := hs.val
    clear hcs
    have IH := Lib.hid ih
    clear ih
    have HZ : Hid ((Ty.mk st args).size = 1 + Ty.sizeRows args) := rfl
    go_enter Tryd.func41, Tryd.ntmps41
    go_wp2_with fail
    go_loopw [5, 6] (fun n i wr => ∃ (k : Nat) (q : Int), k ≤ args.length ∧ i = .int .i64 k ∧ n = .int .i64 q ∧ Hid (q = upTo (1 + Ty.sizeRows (args.take k)) m) ∧ 0 ≤ q ∧ q ≤ m + 1 ∧ w.grownBy wr none ∧ wr.cell? ⟨w.heap.size, 1, none⟩ = some (.slice A args.length c)) (fun _ i _ => args.length - (intOf i).toNat)
    case atStart => exact ⟨0, 1, Nat.zero_le _, rfl, rfl, by simp [Hid, upTo, Ty.sizeRows]; omega, by omega, by omega, frm_alloc _ _, by simp⟩
    case round =>
      obtain ⟨k, q, hk, rfl, rfl, HQ, hq0, hq1, hfr, hbox⟩ := hrel
      by_cases hlt : k < args.length
      · by_cases hqm : q ≤ m
        · obtain ⟨o, p, r0, rfl, ho, hr0, hts⟩ := (hs.frm hfr stays_set).at1 k hlt
          replace hts := SetO.sl hts
          obtain ⟨A2, c2, rfl, hc2, hm2⟩ := hts.val
          have HT := Lib.hid (Ty.sizeRows_take args k hlt)
          have hma := List.getElem_mem hlt
          generalize args[k] = ts at *
          go_wp2_with fail
          obtain ⟨wo, rfl⟩ : ∃ wo : World, wo = wr := ⟨_, rfl⟩
          go_loopw [5, 7] (fun n i w2 => ∃ (j : Nat) (z : Int), j ≤ ts.length ∧ i = .int .i64 j ∧ n = .int .i64 z ∧ Hid (z = upTo (1 + Ty.sizeRows (args.take k) + Ty.sizeSet (ts.take j)) m) ∧ 0 ≤ z ∧ z ≤ m + 1 ∧ wo.grownBy w2 none ∧ w2.cell? ⟨w.heap.size, 1, none⟩ = some (.slice (some ⟨o, p, none⟩) args.length c)) (fun _ i _ => ts.length - (intOf i).toNat)
          case atStart => exact ⟨0, q, Nat.zero_le _, rfl, rfl, by simpa [Ty.sizeSet] using HQ, hq0, hq1, frm_refl _ _, hbox⟩
          case round =>
            obtain ⟨j, z, hj, rfl, rfl, HZ2, hz0, hz1, hfr2, hbox2⟩ := hrel
            have hr2 := frm_cell hfr2 hr0
            by_cases hlt2 : j < ts.length
            · by_cases hzm : z ≤ m
              · obtain ⟨o2, p2, x0, x1, rfl, ho2, hx0, hx1, hxt⟩ := (hts.frm hfr2 stays_ty).at2 j hlt2
                obtain ⟨s1, A1, n1, c1, rfl, rfl⟩ := hxt.vals
                have HT2 := Lib.hid (Ty.sizeSet_take ts j hlt2)
                have hmt := List.getElem_mem hlt2
                generalize ts[j] = t at *
                go_wp2_with fail
                refine (IH.out _ hma _ hmt _ _ _ _ hxt (by omega) (by omega)).mono ?_
                rintro e w3 ⟨rfl, hf3⟩
                have hb1 : 0 ≤ upTo t.size (m - z) ∧ upTo t.size (m - z) ≤ m - z + 1 := by unfold upTo; omega
                have HU : Hid (upTo t.size (m - z) = min (t.size : Int) (m - z + 1)) := rfl
                generalize upTo t.size (m - z) = u at *
                obtain ⟨hu1, hu2⟩ := hb1
                go_wp2_with fail
                refine ⟨⟨j + 1, z + u, by omega, by go_num, rfl, ?_, by omega, by omega, frm_trans hfr2 hf3, frm_cell hf3 hbox2⟩, by simp [intOf]; omega⟩
                have a1 := HZ2.out
                have a2 := HT2.out
                have a3 := HU.out
                unfold upTo at a1
                unfold Hid upTo
                rw [a2]
                omega
              · go_wp2_with fail
                refine ⟨⟨k + 1, z, by omega, by go_num, rfl, ?_, hz0, hz1, frm_trans hfr hfr2, hbox2⟩, by simp [intOf]; omega⟩
                have a1 := HZ2.out
                have a2 := HT.out
                have a3 := Ty.sizeSet_take_le ts j
                unfold upTo at a1
                unfold Hid upTo
                rw [a2]
                omega
            · obtain rfl : j = ts.length := by omega
              go_wp2_with fail
              refine ⟨⟨k + 1, z, by omega, by go_num, rfl, ?_, hz0, hz1, frm_trans hfr hfr2, hbox2⟩, by simp [intOf]; omega⟩
              have a1 := HZ2.out
              have a2 := HT.out
              rw [List.take_length] at a1
              unfold upTo at a1
              unfold Hid upTo
              rw [a2]
              omega
        · go_wp2_with fail
          refine bodyPost_ret (results_tmp rfl _ _ _) rfl ⟨?_, hfr⟩
          have a1 := HQ.out
          have a2 := HZ.out
          have a3 := Ty.sizeRows_take_le args k
          unfold upTo at a1
          rw [a2]
          exact congrArg Ending.returned (int_eq (by unfold upTo; omega))
      · obtain rfl : k = args.length := by omega
        go_wp2_with fail
        refine bodyPost_ret (results_tmp rfl _ _ _) rfl ⟨?_, hfr⟩
        have a1 := HQ.out
        rw [List.take_length] at a1
        rw [HZ.out]
        exact congrArg Ending.returned (int_eq a1)

theorem rlarge_calls (t : Ty) (w : World) (v0 v1 : Value) (ht : TyO w t [v0, v1]) :
    Calls Tryd.prog 21 #[.agg #[v0, v1]] w (Ret w (.bool t.large)) := by
  obtain ⟨st, A, n, c, rfl, rfl⟩ := ht.vals
  go_enter Tryd.func21, Tryd.ntmps21
  go_wp2_with fail
  refine (nodes_calls t _ _ _ _ (stays_ty _ _ _ _ (frm_alloc _ _) ht) (by omega) (by omega)).mono ?_
  rintro e w1 ⟨rfl, hf1⟩
  have hq : Hid (t.large = decide (2000 < upTo t.size 2000)) := by
    unfold Hid Ty.large upTo
    congr 1
    apply propext
    omega
  generalize upTo t.size 2000 = q at *
  go_wp2_with fail
  refine bodyPost_ret (results_tmp rfl _ _ _) rfl ⟨?_, frm_trans (frm_alloc _ _) hf1⟩
  rw [hq.out]
  rfl
end Go.Proofs.YtmdgoalekkkpnaaDoor
