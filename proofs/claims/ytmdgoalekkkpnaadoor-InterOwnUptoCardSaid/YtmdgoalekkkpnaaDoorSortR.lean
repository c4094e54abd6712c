/- The reference's checks of sorts. -/
import Derived.Test.YtmdgoalekkkpnaaDoorSortW
set_option linter.unusedVariables false
set_option linter.unusedSimpArgs false
namespace Go.Proofs.YtmdgoalekkkpnaaDoor
open Go.RowKit

set_option maxRecDepth 20000 in
set_option maxHeartbeats 400000 in
theorem snodes_calls : ∀ (t : Srt) (w : World) (v0 : Value) (m : Int), SrtO w t [v0] → 0 ≤ m → m ≤ 100000 →
    Calls Tryd.prog 86 #[.agg #[v0], .int .i64 m] w (Ret w (.int .i64 (upTo t.size m))) := by
  intro t
  induction t using Srt.ind with
  | h args ih =>
    intro w v0 m ht hm0 hm1
    have hs := SrtO_mk ht
    change SlO w 1 SrtO args v0 at hs
    obtain ⟨A, c, rfl, hc, hm⟩ := hs.val
    have IH := Lib.hid ih
    clear ih ht
    have hbox := OneAt.new w (.slice A args.length c) 43
    have HZ : Hid ((Srt.mk args).size = 1 + Srt.sizes args) := rfl
    go_enter Tryd.func86, Tryd.ntmps86
    go_wp2_with fail
    go_loopw [5, 6] (fun n i wr => ∃ (k : Nat) (q : Int), k ≤ args.length ∧ i = .int .i64 k ∧ n = .int .i64 q ∧ Hid (q = upTo (1 + Srt.sizes (args.take k)) m) ∧ 0 ≤ q ∧ q ≤ m + 1 ∧ w.grownBy wr none ∧ OneAt wr w.heap.size (.slice A args.length c) 43) (fun n i _ => args.length - (intOf i).toNat)
    case atStart => exact ⟨0, 1, Nat.zero_le _, rfl, rfl, by simp [Hid, upTo, Srt.sizes]; omega, by omega, by omega, frm_alloc _ _, hbox⟩
    case round =>
      obtain ⟨k, q, hk, rfl, rfl, HQ, hq0, hq1, hfr, hone⟩ := hrel
      have hcell := hone.cell
      by_cases hlt : k < args.length
      · by_cases hqm : q ≤ m
        · obtain ⟨b, o, v, rfl, hb, hcb, hr⟩ := (hs.frm hfr stays_srt).at1 k hlt
          obtain ⟨A2, n2, c2, hcs2⟩ := SrtR_len hr
          obtain rfl : v = .slice A2 n2 c2 := by simpa using hcs2
          have HT := Lib.hid (Srt.sizes_take args k hlt)
          have hmem : args[k] ∈ args := List.getElem_mem hlt
          clear hcs2
          generalize args[k] = s2 at *
          go_wp2_with fail
          refine (IH.out _ hmem _ _ _ hr (by omega) (by omega)).mono ?_
          rintro e w3 ⟨rfl, hf3⟩
          have hb1 : 0 ≤ upTo s2.size (m - q) ∧ upTo s2.size (m - q) ≤ m - q + 1 := by unfold upTo; omega
          have HU : Hid (upTo s2.size (m - q) = min (s2.size : Int) (m - q + 1)) := rfl
          generalize upTo s2.size (m - q) = u at *
          obtain ⟨hu1, hu2⟩ := hb1
          go_wp2_with fail
          refine ⟨⟨k + 1, q + u, by omega, by go_num, rfl, ?_, by omega, by omega, frm_trans hfr hf3, hone.move (frm_lt hf3 _ hone.lt)⟩, by simp [intOf]; omega⟩
          have a1 := HQ.out
          have a2 := HT.out
          have a3 := HU.out
          unfold upTo at a1
          unfold Hid upTo
          rw [a2]
          omega
        · go_wp2_with fail
          refine bodyPost_ret (results_tmp rfl _ _ _) rfl ⟨?_, hfr⟩
          have a1 := HQ.out
          have a2 := HZ.out
          have a3 := Srt.sizes_take_le args k
          unfold upTo at a1
          rw [a2]
          exact congrArg Ending.returned (int_eq (by unfold upTo; omega))
      · obtain rfl : k = args.length := by omega
        go_wp2_with fail
        refine bodyPost_ret (results_tmp rfl _ _ _) rfl ⟨?_, hfr⟩
        have a1 := HQ.out
        rw [List.take_length] at a1
        rw [HZ.out]
        exact congrArg Ending.returned (int_eq a1)

set_option maxRecDepth 20000 in
set_option maxHeartbeats 400000 in
theorem depth_calls : ∀ (t : Srt) (w : World) (v0 : Value), SrtO w t [v0] → t.size ≤ 100 →
    Calls Tryd.prog 87 #[.agg #[v0]] w (Ret w (.int .i64 t.depth)) := by
  intro t
  induction t using Srt.ind with
  | h args ih =>
    intro w v0 ht hsz
    have hs := SrtO_mk ht
    change SlO w 1 SrtO args v0 at hs
    obtain ⟨A, c, rfl, hc, hm⟩ := hs.val
    have IH := Lib.hid ih
    clear ih ht
    have HZ : Hid ((Srt.mk args).size = 1 + Srt.sizes args ∧ (Srt.mk args).depth = Srt.depths args + 1) := ⟨rfl, rfl⟩
    have HLT := Lib.hid hsz
    clear hsz
    go_enter Tryd.func87, Tryd.ntmps87
    go_wp2_with fail
    go_loopw [3, 9] (fun n i wr => ∃ (k : Nat) (q : Nat), k ≤ args.length ∧ i = .int .i64 k ∧ n = .int .i64 q ∧ Hid (q = Srt.depths (args.take k)) ∧ q ≤ 100 ∧ w.grownBy wr none) (fun n i _ => args.length - (intOf i).toNat)
    case atStart => exact ⟨0, 0, Nat.zero_le _, rfl, rfl, by simp [Hid, Srt.depths], by omega, frm_alloc _ _⟩
    case round =>
      obtain ⟨k, q, hk, rfl, rfl, HQ, hq0, hfr⟩ := hrel
      by_cases hlt : k < args.length
      · obtain ⟨b, o, v, rfl, hb, hcb, hr⟩ := (hs.frm hfr stays_srt).at1 k hlt
        obtain ⟨A2, n2, c2, hcs2⟩ := SrtR_len hr
        obtain rfl : v = .slice A2 n2 c2 := by simpa using hcs2
        have HT := Lib.hid (Srt.sizes_take args k hlt)
        have HDT := Lib.hid (Srt.depths_take args k hlt)
        have HLE := Lib.hid (Srt.sizes_take_le args (k + 1))
        have hmem : args[k] ∈ args := List.getElem_mem hlt
        clear hcs2
        generalize args[k] = s2 at *
        have hd2 := s2.depth_le
        have hs2 : s2.size ≤ 100 := by
          have a1 := HT.out
          have a2 := HLE.out
          have a3 := HLT.out
          have a4 := HZ.out.1
          omega
        go_wp2_with fail
        refine (IH.out _ hmem _ _ (stays_srt _ _ _ _ (frm_alloc _ _) hr) hs2).mono ?_
        rintro e w3 ⟨rfl, hf3⟩
        have hdd : s2.depth ≤ 100 := by omega
        go_wp2_with fail
        refine ⟨⟨k + 1, max q s2.depth, by omega, by go_num, int_eq (by split <;> omega), ?_, by omega, frm_trans (frm_then_alloc hfr _) hf3⟩, by simp [intOf]; omega⟩
        unfold Hid
        rw [HDT.out, HQ.out]
      · obtain rfl : k = args.length := by omega
        go_wp2_with fail
        refine bodyPost_ret (results_tmp rfl _ _ _) rfl ⟨?_, hfr⟩
        have a1 := HQ.out
        have a2 := HZ.out.2
        rw [List.take_length] at a1
        rw [a2, ← a1]
        exact congrArg Ending.returned (int_eq (by omega))

set_option maxRecDepth 20000 in
set_option maxHeartbeats 400000 in
theorem rfew_calls : ∀ (t : Srt) (w : World) (v0 : Value), SrtO w t [v0] →
    Calls Tryd.prog 88 #[.agg #[v0]] w (Ret w (.bool t.few)) := by
  intro t
  induction t using Srt.ind with
  | h args ih =>
    intro w v0 ht
    have hs := SrtO_mk ht
    change SlO w 1 SrtO args v0 at hs
    obtain ⟨A, c, rfl, hc, hm⟩ := hs.val
    have IH := Lib.hid ih
    clear ih ht
    have hbox := OneAt.new w (.slice A args.length c) 43
    have HF : Hid ((Srt.mk args).few = (Srt.fews args && decide (args.length ≤ 8))) := rfl
    have HE : Hid (decide ((args.length : Int) ≤ 8) = decide (args.length ≤ 8)) := by
      unfold Hid
      congr 1
      apply propext
      omega
    go_enter Tryd.func88, Tryd.ntmps88
    go_wp2_with fail
    go_loopw [8] (fun i wr => ∃ k : Nat, k ≤ args.length ∧ i = .int .i64 k ∧ w.grownBy wr none ∧ OneAt wr w.heap.size (.slice A args.length c) 43 ∧ Hid (Srt.fews args = Srt.fews (args.drop k))) (fun i _ => args.length - (intOf i).toNat)
    case atStart => exact ⟨0, Nat.zero_le _, rfl, frm_alloc _ _, hbox, rfl⟩
    case round =>
      obtain ⟨k, hk, rfl, hfr, hone, HS⟩ := hrel
      by_cases hlt : k < args.length
      · obtain ⟨b, o, v, rfl, hb, hcb, hr⟩ := (hs.frm hfr stays_srt).at1 k hlt
        obtain ⟨A2, n2, c2, hcs2⟩ := SrtR_len hr
        obtain rfl : v = .slice A2 n2 c2 := by simpa using hcs2
        have HST := Lib.hid (Srt.fews_drop args k hlt)
        have hmem : args[k] ∈ args := List.getElem_mem hlt
        clear hcs2
        generalize args[k] = s2 at *
        go_wp2_with fail
        refine (IH.out _ hmem _ _ (stays_srt _ _ _ _ (frm_alloc _ _) hr)).mono ?_
        rintro e w1 ⟨rfl, hf1⟩
        have hf2 := frm_trans (frm_alloc wr (.cells #[.slice A2 n2 c2] 43)) hf1
        cases hfew : s2.few
        · have HW := Lib.hid hfew
          clear hfew
          go_wp2_with fail
          refine bodyPost_ret (results_tmp rfl _ _ _) rfl ⟨?_, frm_trans hfr hf2⟩
          rw [HF.out, HS.out, HST.out, HW.out]
          rfl
        · have HW := Lib.hid hfew
          clear hfew
          go_wp2_with fail
          refine ⟨⟨k + 1, by omega, by go_num, frm_trans hfr hf2, hone.move (frm_lt hf2 _ hone.lt), ?_⟩, by simp [intOf]; omega⟩
          unfold Hid
          rw [HS.out, HST.out, HW.out]
          rfl
      · obtain rfl : k = args.length := by omega
        have hcell := hone.cell
        have HS2 : Hid (Srt.fews args = true) := by
          unfold Hid
          rw [HS.out, List.drop_length]
          rfl
        go_wp2_with fail
        refine bodyPost_ret (results_tmp rfl _ _ _) rfl ⟨?_, hfr⟩
        rw [HF.out, HS2.out, ← HE.out]
        rfl

set_option maxRecDepth 20000 in
theorem sis_calls (t : Srt) (w : World) (v0 : Value) (ht : SrtO w t [v0]) :
    Calls Tryd.prog 59 #[.agg #[v0]] w (Ret w (.bool t.good)) := by
  obtain ⟨A, n, c, hcs⟩ := SrtR_len ht
  obtain rfl : v0 = .slice A n c := by simpa using hcs
  clear hcs
  have hbox := OneAt.new w (.slice A n c) 43
  have HT := Lib.hid ht
  clear ht
  go_enter Tryd.func59, Tryd.ntmps59
  go_wp2_with fail
  refine (snodes_calls t _ _ _ (stays_srt _ _ _ _ (frm_alloc _ _) HT.out) (by omega) (by omega)).mono ?_
  rintro e w1 ⟨rfl, hf1⟩
  have hfr := frm_trans (frm_alloc w (.cells #[.slice A n c] 43)) hf1
  have hone := hbox.move (frm_lt hf1 _ hbox.lt)
  have hcell := hone.cell
  have ht1 := Lib.hid (stays_srt _ _ _ _ hfr HT.out)
  clear hbox
  by_cases hz : t.size ≤ 60
  · have hu : upTo t.size 60 ≤ 60 := by unfold upTo; omega
    generalize upTo t.size 60 = u at *
    go_wp2_with fail
    refine (depth_calls t _ _ ht1.out (by omega)).mono ?_
    rintro e w2 ⟨rfl, hf2⟩
    have hfr2 := frm_trans hfr hf2
    have hone2 := hone.move (frm_lt hf2 _ hone.lt)
    clear hcell
    have hcell := hone2.cell
    have ht2 := Lib.hid (stays_srt _ _ _ _ hf2 ht1.out)
    by_cases hd : t.depth ≤ 30
    · have hg : Hid (t.good = t.few) := by unfold Hid Srt.good; simp [hz, hd]
      go_wp2_with fail
      refine (rfew_calls t _ _ ht2.out).mono ?_
      rintro e w3 ⟨rfl, hf3⟩
      go_wp2_with fail
      refine bodyPost_ret (results_tmp rfl _ _ _) rfl ⟨?_, frm_trans hfr2 hf3⟩
      rw [hg.out]
      rfl
    · have hg : Hid (t.good = false) := by unfold Hid Srt.good; simp [hd]
      have hd2 : 30 < t.depth := by omega
      go_wp2_with fail
      refine bodyPost_ret (results_tmp rfl _ _ _) rfl ⟨?_, hfr2⟩
      rw [hg.out]
      rfl
  · have hu : 60 < upTo t.size 60 := by unfold upTo; omega
    have hg : Hid (t.good = false) := by unfold Hid Srt.good; simp [hz]
    generalize upTo t.size 60 = u at *
    go_wp2_with fail
    refine bodyPost_ret (results_tmp rfl _ _ _) rfl ⟨?_, hfr⟩
    rw [hg.out]
    rfl

/-- The error of a number of states. -/
def stateE (n : Int) : Int := if n < 1 ∨ 6 < n then 2 else 0
theorem states_calls (w : World) (n : Int) : Calls Tryd.prog 60 #[.int .i64 n] w (Ret w (.int .i64 (stateE n))) := by
  have hfr := frm_refl w none
  by_cases h1 : n < 1
  · have HP : Hid (stateE n = 2) := by unfold Hid stateE; rw [if_pos (.inl h1)]
    go_enter Tryd.func60, Tryd.ntmps60
    go_wp2_with fail
    refine bodyPost_ret (results_tmp rfl _ _ _) rfl ⟨?_, hfr⟩
    rw [HP.out]
    rfl
  · by_cases h2 : 6 < n
    · have HP : Hid (stateE n = 2) := by unfold Hid stateE; rw [if_pos (.inr h2)]
      go_enter Tryd.func60, Tryd.ntmps60
      go_wp2_with fail
      refine bodyPost_ret (results_tmp rfl _ _ _) rfl ⟨?_, hfr⟩
      rw [HP.out]
      rfl
    · have HP : Hid (stateE n = 0) := by unfold Hid stateE; rw [if_neg (by omega)]
      go_enter Tryd.func60, Tryd.ntmps60
      go_wp2_with fail
      refine bodyPost_ret (results_tmp rfl _ _ _) rfl ⟨?_, hfr⟩
      rw [HP.out]
      rfl
end Go.Proofs.YtmdgoalekkkpnaaDoor
