/- GrpB: parts of the walks, one section each: the texts Choose, Way, TreeP, TreeW, MapR, SomeW. -/
import Derived.Test.YtjpdmncafacmaaaGreatDoorGrpA
import Derived.Test.YtjpdmncafacmaaaGreatDoorRows1
/- The finder's choice of alternatives. -/
section
set_option linter.unusedVariables false
set_option linter.unusedSimpArgs false
namespace Go.Proofs.YtjpdmncafacmaaaGreatDoor
open Go.RowKit

set_option maxRecDepth 100000 in
set_option maxHeartbeats 2000000 in
theorem choose_calls (a : Au) (hok : a.ok = true) (dn : Nat → Option Made) (s : Nat) (hs : s < a.ranks.length) (fb mb nb : Nat) (r m : Value) : ∀ (qs : List Nat) (hqs : ∀ q ∈ qs, q < a.moves.length) (hql : qs.length ≤ 6) (k : K4) (hk : k.ok) (w : World) (qv : Value)
    (hF : FinAt w fb r a.start m mb) (hM : MapM w mb nb dn) (hA : rdO AuR w a [r, .int .i64 a.start, m]) (hq : SlO w 1 (rdO IntR) (qs.map fun q : Nat => (q : Int)) qv),
    Calls Tryz.prog 76 #[.pointer (some ⟨fb, 0, none⟩), qv, .int .i64 s, k4V k] w fun e w' => e = .returned (.tuple #[k4V ((chooseP (a.altsAt s) dn (a.rankAt s) qs k).getD k), .bool (chooseP (a.altsAt s) dn (a.rankAt s) qs k).isSome]) ∧ Grew w w' := by
  obtain ⟨hrk, hre, hsy⟩ := au_sym hok hs
  have HSY := Lib.hid hsy
  clear hsy
  intro qs
  induction qs with
  | nil =>
  intro hqs hql k hk w qv hF hM hA hq
  obtain ⟨hR, hMv, hs1, hs2⟩ := AuR.parts hA
  obtain ⟨A, c, rfl, hc, hlm⟩ := hR.val
  obtain ⟨B, d, rfl, hd, hlm2⟩ := hMv.val
  obtain ⟨Q, e, rfl, hqc, hqm⟩ := hq.val
  obtain ⟨bR, oR, pR, rfl, hbR, hpR, hpt⟩ := hR.at1 s hs
  obtain ⟨hpv, _, _⟩ := hpt
  simp only [List.cons.injEq, and_true] at hpv
  subst hpv
  rw [hre] at hpR
  have HF := Lib.hid hF
  have HM := Lib.hid hM
  have HA := Lib.hid hA
  have HQ := Lib.hid hq
  have HR := Lib.hid hR
  have HMV := Lib.hid hMv
  have HK := Lib.hid hk
  have HQS := Lib.hid hqs
  clear hF hM hA hq hR hMv hk hqs hre
  have hG2 : Grew w ((w.alloc (.cells #[.int .i64 k.1, .int .i64 k.2.1, .int .i64 k.2.2.1, .int .i64 k.2.2.2] 57)).alloc (.cells #[.int .i64 0, .int .i64 0, .int .i64 0, .int .i64 0] 57)) := grew_then_alloc (grew_alloc _ _) _
  have hk2 := (FourAt.new w k).grew (grew_alloc _ (.cells #[.int .i64 0, .int .i64 0, .int .i64 0, .int .i64 0] 57))
  have hz2 := FourAt.new (w.alloc (.cells #[.int .i64 k.1, .int .i64 k.2.1, .int .i64 k.2.2.1, .int .i64 k.2.2.2] 57)) (0, 0, 0, 0)
  rw [World.size_alloc] at hz2
  obtain ⟨cf0, cf1, cf2, cf3⟩ := (HF.out.grew hG2).cells
  have cR2 := frm_cell hG2.1 hpR
  have hsl : (s : Int) < a.ranks.length := by omega
  have hs0 : (0 : Int) ≤ s := by omega
  have HK2 := Lib.hid hk2
  have HZ2 := Lib.hid hz2
  have HG2 := Lib.hid hG2
  clear hk2 hz2 hG2
  rw [show k4V k = Value.agg #[.int .i64 k.1, .int .i64 k.2.1, .int .i64 k.2.2.1, .int .i64 k.2.2.2] from rfl]
  go_enter Tryz.func76, Tryz.ntmps76
  go_wp2_with fail
  go_loopw [28] (fun i wr => ∃ j : Nat, j ≤ a.rankAt s ∧ i = .int .i64 j ∧ Grew w wr ∧ Hid (FourAt wr w.heap.size k) ∧ Hid (FourAt wr (w.heap.size + 1) (0, 0, 0, 0)) ∧ Hid (there dn j k = true)) (fun i _ => a.rankAt s - (intOf i).toNat)
  case atStart => exact ⟨0, Nat.zero_le _, rfl, HG2.out, HK2.out, HZ2.out, rfl⟩
  case round =>
    obtain ⟨j, hj, rfl, hfr, hK4, hZ4, HTH⟩ := hrel
    obtain ⟨cr0, cr1, cr2, cr3⟩ := (HF.out.grew hfr).cells
    by_cases hlt : j < a.rankAt s
    · have hjk := hK4.out.at j (by omega)
      have hM1 : ∀ n, MapM (wr.drewN n) mb nb dn := fun n => HM.out.grew (grew_trans hfr ⟨frm_drewN _ _, Nat.le_add_right _ _⟩)
      have hlk := fun n => (MapM.look rfl (hM1 n) Tryz.underlying54 (zero_made _) (show k.get j < 2 ^ 62 by have := K4.get_lt HK.out j; omega)).1
      have hj4 : (j : Int) < 4 := by omega
      have hj0 : (0 : Int) ≤ j := by omega
      have hl0 : (Instr.lookup 54 (.map (some mb)) (.int .i64 (k.get j)) true).run Tryz.prog wr.drew = .ok (.tuple #[madeV ((dn (k.get j)).getD noMade), .bool (dn (k.get j)).isSome]) wr.drew := by
        exact (MapM.look rfl (HM.out.grew (grew_trans hfr (grew_drew _))) Tryz.underlying54 (zero_made _) (show k.get j < 2 ^ 62 by have := K4.get_lt HK.out j; omega)).1
      have hl1 : (Instr.lookup 54 (.map (some mb)) (.int .i64 (k.get j)) true).run Tryz.prog (wr.alloc (.cells #[.int .i64 0, .int .i64 0, .int .i64 0, .int .i64 0, .int .i64 0] 59)).drew = .ok (.tuple #[madeV ((dn (k.get j)).getD noMade), .bool (dn (k.get j)).isSome]) (wr.alloc (.cells #[.int .i64 0, .int .i64 0, .int .i64 0, .int .i64 0, .int .i64 0] 59)).drew := by
        exact (MapM.look rfl (HM.out.grew (grew_trans hfr (grew_trans (grew_alloc _ _) (grew_drew _)))) Tryz.underlying54 (zero_made _) (show k.get j < 2 ^ 62 by have := K4.get_lt HK.out j; omega)).1
      unfold madeV at hl0 hl1
      have HKA : Hid (∀ (wx : World) (o : Obj), (Grew wr wx ∧ wx.cell? ⟨fb, 3, none⟩ = some (.map (some mb)) ∧ wx.cell? ⟨w.heap.size, j, none⟩ = some (.int .i64 (k.get j))) → (Grew wr (wx.alloc o) ∧ (wx.alloc o).cell? ⟨fb, 3, none⟩ = some (.map (some mb)) ∧ (wx.alloc o).cell? ⟨w.heap.size, j, none⟩ = some (.int .i64 (k.get j)))) := fun wx o h => ⟨grew_then_alloc h.1 _, frm_cell (frm_alloc _ _) h.2.1, frm_cell (frm_alloc _ _) h.2.2⟩
      have HK0 : Hid (Grew wr wr.drew ∧ wr.drew.cell? ⟨fb, 3, none⟩ = some (.map (some mb)) ∧ wr.drew.cell? ⟨w.heap.size, j, none⟩ = some (.int .i64 (k.get j))) := ⟨grew_drew _, cr3, hjk⟩
      have HKN : Hid (∀ o : Obj, (Grew wr (wr.alloc o).drew ∧ (wr.alloc o).drew.cell? ⟨fb, 3, none⟩ = some (.map (some mb)) ∧ (wr.alloc o).drew.cell? ⟨w.heap.size, j, none⟩ = some (.int .i64 (k.get j)))) := fun o => ⟨grew_trans (grew_alloc _ _) (grew_drew _), frm_cell (frm_alloc _ _) cr3, frm_cell (frm_alloc _ _) hjk⟩
      clear hM1 hlk
      generalize (dn (k.get j)).getD noMade = mv at *
      generalize hds : (dn (k.get j)).isSome = ds at *
      have HDS := Lib.hid hds
      clear hds
      have hGX : Grew wr (wr.alloc (.cells #[.int .i64 mv.1, .int .i64 mv.2.1, .int .i64 mv.2.2.1, .int .i64 mv.2.2.2.1, .int .i64 mv.2.2.2.2] 59)).drew := grew_trans (grew_alloc _ _) (grew_drew _)
      have hKX := Lib.hid (hK4.out.grew hGX)
      have hZX := Lib.hid (hZ4.out.grew hGX)
      have hKY := hK4.out.grew (grew_alloc wr (.cells #[.int .i64 mv.1, .int .i64 mv.2.1, .int .i64 mv.2.2.1, .int .i64 mv.2.2.2.1, .int .i64 mv.2.2.2.2] 59))
      have hZY := hZ4.out.grew (grew_alloc wr (.cells #[.int .i64 mv.1, .int .i64 mv.2.1, .int .i64 mv.2.2.1, .int .i64 mv.2.2.2.1, .int .i64 mv.2.2.2.2] 59))
      obtain ⟨kx0, kx1, kx2, kx3⟩ := hKY.cells
      obtain ⟨zx0, zx1, zx2, zx3⟩ := hZY.cells
      have zf0 := hZY.free 0
      have zf1 := hZY.free 1
      have zf2 := hZY.free 2
      have zf3 := hZY.free 3
      clear hKY hZY
      go_wp2_with fail
      go_region_held3 (fun wx => Grew wr wx ∧ wx.cell? ⟨fb, 3, none⟩ = some (.map (some mb)) ∧ wx.cell? ⟨w.heap.size, j, none⟩ = some (.int .i64 (k.get j))) (first | exact HK0.out | exact HKN.out _ | exact HKA.out _ _ (by assumption)) ((fail))
      all_goals
        cases hdb : ds with
        | false =>
          subst hdb
          have HTF : Hid (there dn (a.rankAt s) k = false) := by
            unfold Hid
            rw [Bool.eq_false_iff]
            intro ht
            unfold there at ht
            rw [List.all_eq_true] at ht
            have := ht j (List.mem_range.2 hlt)
            rw [HDS.out] at this
            cases this
          go_wp2_with fail
          refine bodyPost_ret (v := .tuple #[k4V k, .bool false]) (by simp [results, Tryz.results76, go_sem, k4V, zx0, zx1, zx2, zx3, zf0, zf1, zf2, zf3]) rfl ⟨?_, ?_⟩
          · rw [choose_not HTF.out]
            rfl
          · exact grew_trans (grew_set_new (grew_set_new (grew_set_new (grew_set_new (grew_then_alloc hfr _) (by omega) _ _) (by omega) _ _) (by omega) _ _) (by omega) _ _) (grew_drew _)
        | true =>
          subst hdb
          have HTT : Hid (there dn (j + 1) k = true) := by
            unfold Hid
            rw [there_succ, HTH.out, HDS.out]
            rfl
          go_wp2_with fail
          exact ⟨⟨j + 1, by omega, by go_num, grew_trans hfr hGX, hKX.out, hZX.out, HTT⟩, by simp [intOf]; omega⟩
    · obtain rfl : j = a.rankAt s := by omega
      have HV := Lib.hid (choose_nil (alts := a.altsAt s) HTH.out)
      obtain ⟨kx0, kx1, kx2, kx3⟩ := hK4.out.cells
      obtain ⟨zx0, zx1, zx2, zx3⟩ := hZ4.out.cells
      have zf0 := hZ4.out.free 0
      have zf1 := hZ4.out.free 1
      have zf2 := hZ4.out.free 2
      have zf3 := hZ4.out.free 3
      go_wp2_with fail
      refine bodyPost_ret (v := .tuple #[k4V k, .bool true]) (by simp [results, Tryz.results76, go_sem, k4V, zx0, zx1, zx2, zx3, zf0, zf1, zf2, zf3]) rfl ⟨?_, ?_⟩
      · rw [HV.out]
        rfl
      · exact grew_set_new (grew_set_new (grew_set_new (grew_set_new hfr (by omega) _ _) (by omega) _ _) (by omega) _ _) (by omega) _ _
  | cons q qs ih =>
  intro hqs hql k hk w qv hF hM hA hq
  obtain ⟨hR, hMv, hs1, hs2⟩ := AuR.parts hA
  obtain ⟨A, c, rfl, hc, hlm⟩ := hR.val
  obtain ⟨B, d, rfl, hd, hlm2⟩ := hMv.val
  obtain ⟨Q, e, rfl, hqc, hqm⟩ := hq.val
  obtain ⟨bR, oR, pR, rfl, hbR, hpR, hpt⟩ := hR.at1 s hs
  obtain ⟨hpv, _, _⟩ := hpt
  simp only [List.cons.injEq, and_true] at hpv
  subst hpv
  rw [hre] at hpR
  have HF := Lib.hid hF
  have HM := Lib.hid hM
  have HA := Lib.hid hA
  have HQ := Lib.hid hq
  have HR := Lib.hid hR
  have HMV := Lib.hid hMv
  have HIH := Lib.hid ih
  have HK := Lib.hid hk
  have HQS := Lib.hid hqs
  clear hF hM hA hq hR hMv ih hk hqs hre
  have hG2 : Grew w ((w.alloc (.cells #[.int .i64 k.1, .int .i64 k.2.1, .int .i64 k.2.2.1, .int .i64 k.2.2.2] 57)).alloc (.cells #[.int .i64 0, .int .i64 0, .int .i64 0, .int .i64 0] 57)) := grew_then_alloc (grew_alloc _ _) _
  have hk2 := (FourAt.new w k).grew (grew_alloc _ (.cells #[.int .i64 0, .int .i64 0, .int .i64 0, .int .i64 0] 57))
  have hz2 := FourAt.new (w.alloc (.cells #[.int .i64 k.1, .int .i64 k.2.1, .int .i64 k.2.2.1, .int .i64 k.2.2.2] 57)) (0, 0, 0, 0)
  rw [World.size_alloc] at hz2
  obtain ⟨cf0, cf1, cf2, cf3⟩ := (HF.out.grew hG2).cells
  have cR2 := frm_cell hG2.1 hpR
  have hsl : (s : Int) < a.ranks.length := by omega
  have hs0 : (0 : Int) ≤ s := by omega
  have HK2 := Lib.hid hk2
  have HZ2 := Lib.hid hz2
  have HG2 := Lib.hid hG2
  clear hk2 hz2 hG2
  rw [show k4V k = Value.agg #[.int .i64 k.1, .int .i64 k.2.1, .int .i64 k.2.2.1, .int .i64 k.2.2.2] from rfl]
  go_enter Tryz.func76, Tryz.ntmps76
  go_wp2_with fail
  go_loopw [28] (fun i wr => ∃ j : Nat, j ≤ a.rankAt s ∧ i = .int .i64 j ∧ Grew w wr ∧ Hid (FourAt wr w.heap.size k) ∧ Hid (FourAt wr (w.heap.size + 1) (0, 0, 0, 0)) ∧ Hid (there dn j k = true)) (fun i _ => a.rankAt s - (intOf i).toNat)
  case atStart => exact ⟨0, Nat.zero_le _, rfl, HG2.out, HK2.out, HZ2.out, rfl⟩
  case round =>
    obtain ⟨j, hj, rfl, hfr, hK4, hZ4, HTH⟩ := hrel
    obtain ⟨cr0, cr1, cr2, cr3⟩ := (HF.out.grew hfr).cells
    by_cases hlt : j < a.rankAt s
    · have hjk := hK4.out.at j (by omega)
      have hM1 : ∀ n, MapM (wr.drewN n) mb nb dn := fun n => HM.out.grew (grew_trans hfr ⟨frm_drewN _ _, Nat.le_add_right _ _⟩)
      have hlk := fun n => (MapM.look rfl (hM1 n) Tryz.underlying54 (zero_made _) (show k.get j < 2 ^ 62 by have := K4.get_lt HK.out j; omega)).1
      have hj4 : (j : Int) < 4 := by omega
      have hj0 : (0 : Int) ≤ j := by omega
      have hl0 : (Instr.lookup 54 (.map (some mb)) (.int .i64 (k.get j)) true).run Tryz.prog wr.drew = .ok (.tuple #[madeV ((dn (k.get j)).getD noMade), .bool (dn (k.get j)).isSome]) wr.drew := by
        exact (MapM.look rfl (HM.out.grew (grew_trans hfr (grew_drew _))) Tryz.underlying54 (zero_made _) (show k.get j < 2 ^ 62 by have := K4.get_lt HK.out j; omega)).1
      have hl1 : (Instr.lookup 54 (.map (some mb)) (.int .i64 (k.get j)) true).run Tryz.prog (wr.alloc (.cells #[.int .i64 0, .int .i64 0, .int .i64 0, .int .i64 0, .int .i64 0] 59)).drew = .ok (.tuple #[madeV ((dn (k.get j)).getD noMade), .bool (dn (k.get j)).isSome]) (wr.alloc (.cells #[.int .i64 0, .int .i64 0, .int .i64 0, .int .i64 0, .int .i64 0] 59)).drew := by
        exact (MapM.look rfl (HM.out.grew (grew_trans hfr (grew_trans (grew_alloc _ _) (grew_drew _)))) Tryz.underlying54 (zero_made _) (show k.get j < 2 ^ 62 by have := K4.get_lt HK.out j; omega)).1
      unfold madeV at hl0 hl1
      have HKA : Hid (∀ (wx : World) (o : Obj), (Grew wr wx ∧ wx.cell? ⟨fb, 3, none⟩ = some (.map (some mb)) ∧ wx.cell? ⟨w.heap.size, j, none⟩ = some (.int .i64 (k.get j))) → (Grew wr (wx.alloc o) ∧ (wx.alloc o).cell? ⟨fb, 3, none⟩ = some (.map (some mb)) ∧ (wx.alloc o).cell? ⟨w.heap.size, j, none⟩ = some (.int .i64 (k.get j)))) := fun wx o h => ⟨grew_then_alloc h.1 _, frm_cell (frm_alloc _ _) h.2.1, frm_cell (frm_alloc _ _) h.2.2⟩
      have HK0 : Hid (Grew wr wr.drew ∧ wr.drew.cell? ⟨fb, 3, none⟩ = some (.map (some mb)) ∧ wr.drew.cell? ⟨w.heap.size, j, none⟩ = some (.int .i64 (k.get j))) := ⟨grew_drew _, cr3, hjk⟩
      have HKN : Hid (∀ o : Obj, (Grew wr (wr.alloc o).drew ∧ (wr.alloc o).drew.cell? ⟨fb, 3, none⟩ = some (.map (some mb)) ∧ (wr.alloc o).drew.cell? ⟨w.heap.size, j, none⟩ = some (.int .i64 (k.get j)))) := fun o => ⟨grew_trans (grew_alloc _ _) (grew_drew _), frm_cell (frm_alloc _ _) cr3, frm_cell (frm_alloc _ _) hjk⟩
      clear hM1 hlk
      generalize (dn (k.get j)).getD noMade = mv at *
      generalize hds : (dn (k.get j)).isSome = ds at *
      have HDS := Lib.hid hds
      clear hds
      have hGX : Grew wr (wr.alloc (.cells #[.int .i64 mv.1, .int .i64 mv.2.1, .int .i64 mv.2.2.1, .int .i64 mv.2.2.2.1, .int .i64 mv.2.2.2.2] 59)).drew := grew_trans (grew_alloc _ _) (grew_drew _)
      have hKX := Lib.hid (hK4.out.grew hGX)
      have hZX := Lib.hid (hZ4.out.grew hGX)
      have hKY := hK4.out.grew (grew_alloc wr (.cells #[.int .i64 mv.1, .int .i64 mv.2.1, .int .i64 mv.2.2.1, .int .i64 mv.2.2.2.1, .int .i64 mv.2.2.2.2] 59))
      have hZY := hZ4.out.grew (grew_alloc wr (.cells #[.int .i64 mv.1, .int .i64 mv.2.1, .int .i64 mv.2.2.1, .int .i64 mv.2.2.2.1, .int .i64 mv.2.2.2.2] 59))
      obtain ⟨kx0, kx1, kx2, kx3⟩ := hKY.cells
      obtain ⟨zx0, zx1, zx2, zx3⟩ := hZY.cells
      have zf0 := hZY.free 0
      have zf1 := hZY.free 1
      have zf2 := hZY.free 2
      have zf3 := hZY.free 3
      clear hKY hZY
      go_wp2_with fail
      go_region_held3 (fun wx => Grew wr wx ∧ wx.cell? ⟨fb, 3, none⟩ = some (.map (some mb)) ∧ wx.cell? ⟨w.heap.size, j, none⟩ = some (.int .i64 (k.get j))) (first | exact HK0.out | exact HKN.out _ | exact HKA.out _ _ (by assumption)) ((fail))
      all_goals
        cases hdb : ds with
        | false =>
          subst hdb
          have HTF : Hid (there dn (a.rankAt s) k = false) := by
            unfold Hid
            rw [Bool.eq_false_iff]
            intro ht
            unfold there at ht
            rw [List.all_eq_true] at ht
            have := ht j (List.mem_range.2 hlt)
            rw [HDS.out] at this
            cases this
          go_wp2_with fail
          refine bodyPost_ret (v := .tuple #[k4V k, .bool false]) (by simp [results, Tryz.results76, go_sem, k4V, zx0, zx1, zx2, zx3, zf0, zf1, zf2, zf3]) rfl ⟨?_, ?_⟩
          · rw [choose_not HTF.out]
            rfl
          · exact grew_trans (grew_set_new (grew_set_new (grew_set_new (grew_set_new (grew_then_alloc hfr _) (by omega) _ _) (by omega) _ _) (by omega) _ _) (by omega) _ _) (grew_drew _)
        | true =>
          subst hdb
          have HTT : Hid (there dn (j + 1) k = true) := by
            unfold Hid
            rw [there_succ, HTH.out, HDS.out]
            rfl
          go_wp2_with fail
          exact ⟨⟨j + 1, by omega, by go_num, grew_trans hfr hGX, hKX.out, hZX.out, HTT⟩, by simp [intOf]; omega⟩
    · obtain rfl : j = a.rankAt s := by omega
      have HTA := HTH
      have hqn : ((qs.length : Int) + 1 == 0) = false := by rw [beq_eq_false_iff_ne]; omega
      have hq6 := HQS.out q (by simp)
      obtain ⟨bQ, oQ, pQ, hQe, hbQ, hpQ', hptQ⟩ := (HQ.out.frm hfr.1 (stays_rd moves_int)).at1 0 (by simp)
      subst hQe
      obtain ⟨hpv, _, _⟩ := hptQ
      simp only [List.cons.injEq, and_true, List.map_cons, List.getElem_cons_zero] at hpv
      subst hpv
      have hpQ : wr.cell? ⟨bQ, oQ, none⟩ = some (.int .i64 q) := by simpa using hpQ'
      obtain ⟨hmv, hae, hal, hax⟩ := HSY.out q hq6
      obtain ⟨bM, oM, pM, hMe, hbM, hpM, hptM⟩ := (HMV.out.frm hfr.1 (stays_rd moves_rule)).at1 q hq6
      subst hMe
      obtain ⟨AM, nM, hnM, rfl⟩ : ∃ AM nM, (a.moves[q]).length ≤ nM ∧ pM = .slice AM (a.moves[q]).length nM := by
        obtain ⟨A1, c1, h, h2, _⟩ := (row_val hptM).val
        exact ⟨_, _, h2, h⟩
      obtain ⟨bS, oS, pS, hSe, hbS, hpS, hptS⟩ := (RowS.sl hptM).at1 s hmv
      subst hSe
      rw [hae] at hptS
      have HAX := Lib.hid hax
      have HPS := Lib.hid (RowS.sl hptS)
      obtain ⟨AS, nS, hnS, rfl⟩ : ∃ AS nS, (a.altsAt s q).length ≤ nS ∧ pS = .slice AS (a.altsAt s q).length nS := by
        obtain ⟨A1, c1, h, h2, _⟩ := (row_val hptS).val
        exact ⟨_, _, h2, h⟩
      have HCC := Lib.hid (choose_cons (alts := a.altsAt s) HTA.out q qs)
      have hsm : (s : Int) < (a.moves[q]).length := by omega
      have hqm : (q : Int) < a.moves.length := by omega
      have hq0 : (0 : Int) ≤ q := by omega
      clear hptM hptS hax hpQ' hae
      generalize (a.moves[q]).length = lM at *
      generalize hAL : a.altsAt s q = alts at *
      have HALE := Lib.hid hAL
      have HTH' := HTH
      clear hAL
      go_wp2_with fail
      go_quiet (fail)
      go_wp2_with fail
      obtain ⟨wa, hwa⟩ : ∃ wa : World, wa = wr := ⟨_, rfl⟩
      subst hwa
      have HFN := Lib.hid (find_drop (fun l => chooseP (a.altsAt s) dn (a.rankAt s) qs (k4Add k l)) alts)
      go_loopw [64] (fun i wq => ∃ p : Nat, p ≤ alts.length ∧ i = .int .i64 p ∧ Grew w wq ∧ Hid (FourAt wq w.heap.size k) ∧ Hid (FourAt wq (w.heap.size + 1) (0, 0, 0, 0)) ∧ Hid (alts.findSome? (fun l => chooseP (a.altsAt s) dn (a.rankAt s) qs (k4Add k l)) = (alts.drop p).findSome? (fun l => chooseP (a.altsAt s) dn (a.rankAt s) qs (k4Add k l))) ∧ Grew wa wq) (fun i _ => alts.length - (intOf i).toNat)
      case atStart => exact ⟨0, Nat.zero_le _, rfl, grew_trans hfr ⟨frm_drewN _ _, Nat.le_add_right _ _⟩, hK4, hZ4, rfl, ⟨frm_drewN _ _, Nat.le_add_right _ _⟩⟩
      case round =>
        obtain ⟨p, hp, rfl, hfq, hKq, hZq, HFS, hgq⟩ := hrel
        by_cases hltp : p < alts.length
        · obtain ⟨bL, oL, pL, hLe, hbL, hpL', hptL⟩ := (HPS.out.frm hgq.1 (stays_rd moves_alt)).at1 p hltp
          subst hLe
          have hpL := hpL'
          have HFN1 := Lib.hid (HFN.out p hltp)
          obtain ⟨hll, hlx⟩ := HAX.out _ (List.getElem_mem hltp)
          have HL := Lib.hid (RowS.sl hptL)
          obtain ⟨AL, nL, hnL, rfl⟩ : ∃ AL nL, (alts[p]).length ≤ nL ∧ pL = .slice AL (alts[p]).length nL := by
            obtain ⟨A1, c1, h, h2, _⟩ := (row_val hptL).val
            exact ⟨_, _, h2, h⟩
          have HLX := Lib.hid hlx
          clear hptL hlx hpL'
          generalize alts[p] = l at *
          obtain ⟨kx0, kx1, kx2, kx3⟩ := hKq.out.cells
          have hN0 := Lib.hid (FourAt.new wr k)
          have hwz := hKq.out.lt
          have hwz2 := hZq.out.lt
          go_wp2_with fail
          obtain ⟨wb, hwb⟩ : ∃ wb : World, wb = wr := ⟨_, rfl⟩
          subst hwb
          go_loopw [71] (fun i wq => ∃ t : Nat, t ≤ l.length ∧ i = .int .i64 t ∧ Grew wb wq ∧ Hid (FourAt wq wb.heap.size (k4Add k (l.take t)))) (fun i _ => l.length - (intOf i).toNat)
          case atStart => exact ⟨0, Nat.zero_le _, rfl, grew_alloc _ _, hN0⟩
          case round =>
            obtain ⟨t, ht, rfl, hft, hNt⟩ := hrel
            by_cases hltt : t < l.length
            · obtain ⟨b3, o3, q0, q1, h3e, hb3, hq0, hq1, hqt⟩ := (HL.out.frm hft.1 (stays_rd moves_nd)).at2 t hltt
              subst h3e
              obtain ⟨hqv, _⟩ := hqt
              simp only [List.cons.injEq, and_true] at hqv
              obtain ⟨rfl, rfl⟩ := hqv
              have HT := Lib.hid (k4Add_take (k := k) hltt)
              obtain ⟨⟨hx1, hx2⟩, hx3, hx4⟩ := HLX.out _ (List.getElem_mem hltt)
              have hko := k4Add_ok HK.out (l.take t) (fun x hx => by have := (HLX.out x (List.mem_of_mem_take hx)).2; omega)
              generalize l[t] = x at *
              obtain ⟨kid, hkid⟩ : ∃ kid : Nat, x.1 = kid := ⟨x.1.toNat, by omega⟩
              obtain ⟨st, hst⟩ : ∃ st : Nat, x.2 = st := ⟨x.2.toNat, by omega⟩
              rw [hkid] at hx1 hx2 hq0 HT
              rw [hst] at hx3 hx4 hq1 HT
              clear hkid hst
              generalize k4Add k (l.take t) = kt at *
              have hgo := K4.get_lt hko kid
              obtain ⟨hsh, hs64⟩ := shl_i64 st (by omega)
              have HSET := Lib.hid ((hNt.out.grew (grew_alloc wr (.cells #[.int .i64 kid, .int .i64 st] 80))).set kid (by omega) (kt.get kid ||| 2 ^ st))
              have ho := or_i64 (kt.get kid) (2 ^ st) hgo hs64
              have nk := (hNt.out.grew (grew_alloc wr (.cells #[.int .i64 kid, .int .i64 st] 80))).at kid (by omega)
              have nf := (hNt.out.grew (grew_alloc wr (.cells #[.int .i64 kid, .int .i64 st] 80))).free kid
              obtain ⟨y0, y1, _, _⟩ := (TwoAt.new wr (.int .i64 kid) (.int .i64 st) 80).cells
              have HT2 : Hid (k4Add k (l.take (t + 1)) = kt.set (kt.get kid ||| 2 ^ st) kid) := HT.out
              have hkid4 : (kid : Int) < 4 := by omega
              have hst6 : (st : Int) ≤ 64 := by omega
              generalize kt.get kid = og at *
              generalize 2 ^ st = pw at *
              generalize og ||| pw = ow at *
              have hG8 := grew_then_alloc hft (.cells #[.int .i64 kid, .int .i64 st] 80)
              go_wp2_with fail
              generalize wr.alloc (.cells #[.int .i64 kid, .int .i64 st] 80) = w8 at *
              go_still_tail 8, (by kernel_rfl)
              go_wp2_with fail
              refine ⟨⟨t + 1, by omega, by go_num, grew_trans (grew_set_new hG8 (Nat.le_refl _) _ _) (grew_drew _), ?_⟩, by simp [intOf]; omega⟩
              unfold Hid
              rw [HT2.out]
              exact HSET.out
            · obtain rfl : t = l.length := by omega
              rw [List.take_length] at hNt
              have hfbt : Grew w wr := grew_trans hfq hft
              have hfat : Grew wa wr := grew_trans hgq hft
              obtain ⟨nx0, nx1, nx2, nx3⟩ := hNt.out.cells
              have hkn := k4Add_ok HK.out l (fun x hx => by have := (HLX.out x hx).2; omega)
              obtain ⟨kn, hknE⟩ : ∃ kn, kn = k4Add k l := ⟨_, rfl⟩
              rw [← hknE] at hNt nx0 nx1 nx2 nx3 hkn
              have HKNE := Lib.hid hknE
              clear hknE
              have hq1 : (1 : Int) ≤ (qs.length : Int) + 1 := by omega
              obtain ⟨AQ, hsl, HQ2⟩ := slice_tail (HQ.out.frm hfbt.1 (stays_rd moves_int))
              rw [List.length_map] at hsl HQ2
              have HQT := Lib.hid HQ2
              have HQS2 : Hid (∀ q ∈ qs, q < a.moves.length) := fun q hq => HQS.out q (by simp [hq])
              obtain ⟨kr, hkr⟩ : ∃ kr, kr = (chooseP (a.altsAt s) dn (a.rankAt s) qs kn).getD kn := ⟨_, rfl⟩
              obtain ⟨br, hbr⟩ : ∃ br, br = (chooseP (a.altsAt s) dn (a.rankAt s) qs kn).isSome := ⟨_, rfl⟩
              have HC : Hid (∀ wx, Grew wr wx → Calls Tryz.prog 76 #[.pointer (some ⟨fb, 0, none⟩), .slice AQ qs.length (e - 1), .int .i64 s, .agg #[.int .i64 kn.1, .int .i64 kn.2.1, .int .i64 kn.2.2.1, .int .i64 kn.2.2.2]] wx fun e w' => e = .returned (.tuple #[.agg #[.int .i64 kr.1, .int .i64 kr.2.1, .int .i64 kr.2.2.1, .int .i64 kr.2.2.2], .bool br]) ∧ Grew wx w') := by
                intro wx hg
                rw [hkr, hbr]
                exact HIH.out HQS2.out (by simp at hql; omega) kn hkn wx _ (HF.out.grew (grew_trans hfbt hg)) (HM.out.grew (grew_trans hfbt hg)) (rdO_frm moves_au (grew_trans hfbt hg).1 HA.out) (HQT.out.frm hg.1 (stays_rd moves_int))
              have HKR := Lib.hid hkr
              have HBR := Lib.hid hbr
              clear hkr hbr HQ2
              have hks : ∀ w1 w2 : World, Grew w1 w2 → (Grew wr w1 ∧ w1.cell? ⟨wb.heap.size, 0, none⟩ = some (.int .i64 kn.1) ∧ w1.cell? ⟨wb.heap.size, 1, none⟩ = some (.int .i64 kn.2.1) ∧ w1.cell? ⟨wb.heap.size, 2, none⟩ = some (.int .i64 kn.2.2.1) ∧ w1.cell? ⟨wb.heap.size, 3, none⟩ = some (.int .i64 kn.2.2.2)) → (Grew wr w2 ∧ w2.cell? ⟨wb.heap.size, 0, none⟩ = some (.int .i64 kn.1) ∧ w2.cell? ⟨wb.heap.size, 1, none⟩ = some (.int .i64 kn.2.1) ∧ w2.cell? ⟨wb.heap.size, 2, none⟩ = some (.int .i64 kn.2.2.1) ∧ w2.cell? ⟨wb.heap.size, 3, none⟩ = some (.int .i64 kn.2.2.2)) :=
                fun w1 w2 hf h => ⟨grew_trans h.1 hf, frm_cell hf.1 h.2.1, frm_cell hf.1 h.2.2.1, frm_cell hf.1 h.2.2.2.1, frm_cell hf.1 h.2.2.2.2⟩
              have hbw := hNt.out.lt
              have hkc : ∀ (v1 : World) (g : Nat) (o : Nat) (x : Value), wr.heap.size ≤ g → (Grew wr v1 ∧ v1.cell? ⟨wb.heap.size, 0, none⟩ = some (.int .i64 kn.1) ∧ v1.cell? ⟨wb.heap.size, 1, none⟩ = some (.int .i64 kn.2.1) ∧ v1.cell? ⟨wb.heap.size, 2, none⟩ = some (.int .i64 kn.2.2.1) ∧ v1.cell? ⟨wb.heap.size, 3, none⟩ = some (.int .i64 kn.2.2.2)) → (Grew wr (v1.setCell ⟨g, o, none⟩ x) ∧ (v1.setCell ⟨g, o, none⟩ x).cell? ⟨wb.heap.size, 0, none⟩ = some (.int .i64 kn.1) ∧ (v1.setCell ⟨g, o, none⟩ x).cell? ⟨wb.heap.size, 1, none⟩ = some (.int .i64 kn.2.1) ∧ (v1.setCell ⟨g, o, none⟩ x).cell? ⟨wb.heap.size, 2, none⟩ = some (.int .i64 kn.2.2.1) ∧ (v1.setCell ⟨g, o, none⟩ x).cell? ⟨wb.heap.size, 3, none⟩ = some (.int .i64 kn.2.2.2)) := by
                intro v1 g o x hg h
                refine ⟨grew_set_new h.1 hg _ _, ?_, ?_, ?_, ?_⟩
                · rw [World.cell?_setCell_other _ _ _ _ (by intro e; injection e with e; omega)]; exact h.2.1
                · rw [World.cell?_setCell_other _ _ _ _ (by intro e; injection e with e; omega)]; exact h.2.2.1
                · rw [World.cell?_setCell_other _ _ _ _ (by intro e; injection e with e; omega)]; exact h.2.2.2.1
                · rw [World.cell?_setCell_other _ _ _ _ (by intro e; injection e with e; omega)]; exact h.2.2.2.2
              have HKC := Lib.hid hkc
              clear hkc
              have HK1 := Lib.hid hks
              have HK0 := Lib.hid (hks wr wr.drew (grew_drew _) ⟨grew_refl _, nx0, nx1, nx2, nx3⟩)
              clear hks
              go_wp2_with fail
              go_region_held3 (fun wx => Grew wr wx ∧ wx.cell? ⟨wb.heap.size, 0, none⟩ = some (.int .i64 kn.1) ∧ wx.cell? ⟨wb.heap.size, 1, none⟩ = some (.int .i64 kn.2.1) ∧ wx.cell? ⟨wb.heap.size, 2, none⟩ = some (.int .i64 kn.2.2.1) ∧ wx.cell? ⟨wb.heap.size, 3, none⟩ = some (.int .i64 kn.2.2.2)) (first | exact HK0.out | assumption | exact HK1.out _ _ (grew_alloc _ _) (by assumption) | exact HKC.out _ _ _ _ (by omega) (HKC.out _ _ _ _ (by omega) (HKC.out _ _ _ _ (by omega) (HKC.out _ _ _ _ (by omega) (by assumption))))) ((go_at_call 76; refine (HC.out _ (And.left (by assumption))).mono ?_; rintro e5 v5 ⟨rfl, hg5⟩; obtain ⟨hcc5, hcf5⟩ := grew_old hg5; have hS5 := HK1.out _ _ hg5 (by assumption)))
              · rename_i hHeld
                have hG9 := hHeld.1
                have hF9 : FourAt (v5.alloc (.cells #[.int .i64 kr.1, .int .i64 kr.2.1, .int .i64 kr.2.2.1, .int .i64 kr.2.2.2] 57)) (v5.heap.size) kr := FourAt.new v5 kr
                have hle9 : wr.heap.size ≤ v5.heap.size := hS5.1.1.size
                clear hHeld
                generalize v5.heap.size = g9 at *
                generalize (v5.alloc (.cells #[.int .i64 kr.1, .int .i64 kr.2.1, .int .i64 kr.2.2.1, .int .i64 kr.2.2.2] 57)) = w9 at *
                obtain ⟨r0, r1, r2, r3⟩ := hF9.cells
                have hGw9 := grew_trans hfbt hG9
                have hKs9 := hKq.out.grew (grew_trans hft hG9)
                have hZs9 := hZq.out.grew (grew_trans hft hG9)
                obtain ⟨zx0, zx1, zx2, zx3⟩ := hZs9.cells
                have zf0 := hZs9.free 0
                have zf1 := hZs9.free 1
                have zf2 := hZs9.free 2
                have zf3 := hZs9.free 3
                have HKs9 := Lib.hid hKs9
                have HZs9 := Lib.hid hZs9
                clear hKs9 hZs9 hF9
                cases hb : br with
                | false =>
                  subst hb
                  have HFS2 : Hid (alts.findSome? (fun l => chooseP (a.altsAt s) dn (a.rankAt s) qs (k4Add k l)) = (alts.drop (p + 1)).findSome? (fun l => chooseP (a.altsAt s) dn (a.rankAt s) qs (k4Add k l))) := by
                    unfold Hid
                    have hn : chooseP (a.altsAt s) dn (a.rankAt s) qs (k4Add k l) = none := by
                      rw [← HKNE.out]
                      have := HBR.out
                      cases hc9 : chooseP (a.altsAt s) dn (a.rankAt s) qs kn with
                      | none => rfl
                      | some v => rw [hc9] at this; cases this
                    rw [HFS.out, HFN1.out, hn]
                    rfl
                  go_wp2_with fail
                  exact ⟨⟨p + 1, by omega, by go_num, hGw9, HKs9.out, HZs9.out, HFS2, grew_trans hgq (grew_trans hft hG9)⟩, by simp [intOf]; omega⟩
                | true =>
                  subst hb
                  have HV : Hid (chooseP (a.altsAt s) dn (a.rankAt s) (q :: qs) k = some kr) := by
                    unfold Hid
                    have hn : chooseP (a.altsAt s) dn (a.rankAt s) qs (k4Add k l) = some kr := by
                      rw [← HKNE.out]
                      have h1 := HBR.out
                      have h2 := HKR.out
                      cases hc9 : chooseP (a.altsAt s) dn (a.rankAt s) qs kn with
                      | none => rw [hc9] at h1; cases h1
                      | some v => rw [hc9] at h2; rw [h2]; rfl
                    rw [HCC.out, HFS.out, HFN1.out, hn]
                    rfl
                  go_wp2_with fail
                  refine bodyPost_ret (v := .tuple #[k4V kr, .bool true]) (by simp [results, Tryz.results76, go_sem, k4V, zx0, zx1, zx2, zx3, zf0, zf1, zf2, zf3]) rfl ⟨?_, ?_⟩
                  · rw [HV.out]
                    rfl
                  · exact grew_set_new (grew_set_new (grew_set_new (grew_set_new hGw9 (by omega) _ _) (by omega) _ _) (by omega) _ _) (by omega) _ _
              · rename_i hHeld
                have hG9 := hHeld.1
                have hF9 : FourAt ((((v5.setCell ⟨wr.heap.size, 0, none⟩ (.int .i64 kr.1)).setCell ⟨wr.heap.size, 1, none⟩ (.int .i64 kr.2.1)).setCell ⟨wr.heap.size, 2, none⟩ (.int .i64 kr.2.2.1)).setCell ⟨wr.heap.size, 3, none⟩ (.int .i64 kr.2.2.2)) (wr.heap.size) kr := ((((((FourAt.new wr (0, 0, 0, 0)).grew (grew_drew _)).grew hg5).set 0 (by omega) kr.1).set 1 (by omega) kr.2.1).set 2 (by omega) kr.2.2.1).set 3 (by omega) kr.2.2.2
                have hle9 : wr.heap.size ≤ wr.heap.size := Nat.le_refl _
                clear hHeld
                generalize wr.heap.size = g9 at *
                generalize ((((v5.setCell ⟨wr.heap.size, 0, none⟩ (.int .i64 kr.1)).setCell ⟨wr.heap.size, 1, none⟩ (.int .i64 kr.2.1)).setCell ⟨wr.heap.size, 2, none⟩ (.int .i64 kr.2.2.1)).setCell ⟨wr.heap.size, 3, none⟩ (.int .i64 kr.2.2.2)) = w9 at *
                obtain ⟨r0, r1, r2, r3⟩ := hF9.cells
                have hGw9 := grew_trans hfbt hG9
                have hKs9 := hKq.out.grew (grew_trans hft hG9)
                have hZs9 := hZq.out.grew (grew_trans hft hG9)
                obtain ⟨zx0, zx1, zx2, zx3⟩ := hZs9.cells
                have zf0 := hZs9.free 0
                have zf1 := hZs9.free 1
                have zf2 := hZs9.free 2
                have zf3 := hZs9.free 3
                have HKs9 := Lib.hid hKs9
                have HZs9 := Lib.hid hZs9
                clear hKs9 hZs9 hF9
                cases hb : br with
                | false =>
                  subst hb
                  have HFS2 : Hid (alts.findSome? (fun l => chooseP (a.altsAt s) dn (a.rankAt s) qs (k4Add k l)) = (alts.drop (p + 1)).findSome? (fun l => chooseP (a.altsAt s) dn (a.rankAt s) qs (k4Add k l))) := by
                    unfold Hid
                    have hn : chooseP (a.altsAt s) dn (a.rankAt s) qs (k4Add k l) = none := by
                      rw [← HKNE.out]
                      have := HBR.out
                      cases hc9 : chooseP (a.altsAt s) dn (a.rankAt s) qs kn with
                      | none => rfl
                      | some v => rw [hc9] at this; cases this
                    rw [HFS.out, HFN1.out, hn]
                    rfl
                  go_wp2_with fail
                  exact ⟨⟨p + 1, by omega, by go_num, hGw9, HKs9.out, HZs9.out, HFS2, grew_trans hgq (grew_trans hft hG9)⟩, by simp [intOf]; omega⟩
                | true =>
                  subst hb
                  have HV : Hid (chooseP (a.altsAt s) dn (a.rankAt s) (q :: qs) k = some kr) := by
                    unfold Hid
                    have hn : chooseP (a.altsAt s) dn (a.rankAt s) qs (k4Add k l) = some kr := by
                      rw [← HKNE.out]
                      have h1 := HBR.out
                      have h2 := HKR.out
                      cases hc9 : chooseP (a.altsAt s) dn (a.rankAt s) qs kn with
                      | none => rw [hc9] at h1; cases h1
                      | some v => rw [hc9] at h2; rw [h2]; rfl
                    rw [HCC.out, HFS.out, HFN1.out, hn]
                    rfl
                  go_wp2_with fail
                  refine bodyPost_ret (v := .tuple #[k4V kr, .bool true]) (by simp [results, Tryz.results76, go_sem, k4V, zx0, zx1, zx2, zx3, zf0, zf1, zf2, zf3]) rfl ⟨?_, ?_⟩
                  · rw [HV.out]
                    rfl
                  · exact grew_set_new (grew_set_new (grew_set_new (grew_set_new hGw9 (by omega) _ _) (by omega) _ _) (by omega) _ _) (by omega) _ _
        · obtain rfl : p = alts.length := by omega
          have HV : Hid (chooseP (a.altsAt s) dn (a.rankAt s) (q :: qs) k = none) := by
            unfold Hid
            rw [HCC.out, HFS.out, List.drop_eq_nil_of_le (Nat.le_refl _)]
            rfl
          obtain ⟨kx0, kx1, kx2, kx3⟩ := hKq.out.cells
          obtain ⟨zx0, zx1, zx2, zx3⟩ := hZq.out.cells
          have zf0 := hZq.out.free 0
          have zf1 := hZq.out.free 1
          have zf2 := hZq.out.free 2
          have zf3 := hZq.out.free 3
          go_wp2_with fail
          refine bodyPost_ret (v := .tuple #[k4V k, .bool false]) (by simp [results, Tryz.results76, go_sem, k4V, zx0, zx1, zx2, zx3, zf0, zf1, zf2, zf3]) rfl ⟨?_, ?_⟩
          · rw [HV.out]
            rfl
          · exact grew_set_new (grew_set_new (grew_set_new (grew_set_new hfq (by omega) _ _) (by omega) _ _) (by omega) _ _) (by omega) _ _
end Go.Proofs.YtjpdmncafacmaaaGreatDoor
end
/- The finder's way to make a tree for a set of states. -/
section
set_option linter.unusedVariables false
set_option linter.unusedSimpArgs false
namespace Go.Proofs.YtjpdmncafacmaaaGreatDoor
open Go.RowKit

theorem bits_below : ∀ n, n ≤ 6 → ∀ x, x < 2 ^ n → ∀ q ∈ listP x, q < n := by decide
/-- A block of a way. -/
def FiveAt (w : World) (g : Nat) (m : Made) : Prop := w.heap[g]? = some (.cells #[.int .i64 m.1, .int .i64 m.2.1, .int .i64 m.2.2.1, .int .i64 m.2.2.2.1, .int .i64 m.2.2.2.2] 59 (0, 0))
section
variable {w w' : World} {g : Nat} {m : Made}
theorem FiveAt.lt (h : FiveAt w g m) : g < w.heap.size := (Array.getElem?_eq_some_iff.1 h).1
theorem FiveAt.cells (h : FiveAt w g m) : w.cell? ⟨g, 0, none⟩ = some (.int .i64 m.1) ∧ w.cell? ⟨g, 1, none⟩ = some (.int .i64 m.2.1) ∧ w.cell? ⟨g, 2, none⟩ = some (.int .i64 m.2.2.1) ∧ w.cell? ⟨g, 3, none⟩ = some (.int .i64 m.2.2.2.1) ∧ w.cell? ⟨g, 4, none⟩ = some (.int .i64 m.2.2.2.2) := by
  unfold FiveAt at h
  simp [World.cell?, h]
theorem FiveAt.free (h : FiveAt w g m) : ∀ i, w.frozen? ⟨g, i, none⟩ = false := by
  intro o
  unfold FiveAt at h
  simp [World.frozen?, h]
theorem FiveAt.grew (h : FiveAt w g m) (hf : Grew w w') : FiveAt w' g m := (frm_lt hf.1 _ h.lt).trans h
theorem FiveAt.new (w : World) (m : Made) : FiveAt (w.alloc (.cells #[.int .i64 m.1, .int .i64 m.2.1, .int .i64 m.2.2.1, .int .i64 m.2.2.2.1, .int .i64 m.2.2.2.2] 59)) w.heap.size m := by
  show (w.heap.push _)[w.heap.size]? = _
  simp
end
theorem zero_four : k4V (0, 0, 0, 0) = .agg #[.int .i64 0, .int .i64 0, .int .i64 0, .int .i64 0] := rfl

set_option maxRecDepth 100000 in
set_option maxHeartbeats 2000000 in
theorem way_calls (a : Au) (hok : a.ok = true) (dn : Nat → Option Made) (fb mb nb : Nat) (r m : Value) (set : Nat) (hset : set < 2 ^ a.moves.length) (w : World) (hT : Tab w)
    (hF : FinAt w fb r a.start m mb) (hM : MapM w mb nb dn) (hA : rdO AuR w a [r, .int .i64 a.start, m]) :
    Calls Tryz.prog 32 #[.pointer (some ⟨fb, 0, none⟩), .int .i64 set] w fun e w' => e = .returned (.tuple #[madeV ((wayP a dn set).getD noMade), .bool (wayP a dn set).isSome]) ∧ Grew w w' := by
  obtain ⟨hR, hMv, hs1, hs2⟩ := AuR.parts hA
  obtain ⟨A, c, rfl, hc, hlm⟩ := hR.val
  obtain ⟨B, d, rfl, hd, hlm2⟩ := hMv.val
  have hn6 := (ok_rows hok).1
  have h64 : set < 64 := Nat.lt_of_lt_of_le hset (Nat.pow_le_pow_right (by omega) hn6)
  have HBB := Lib.hid (bits_below _ hn6 set hset)
  have HB6 := Lib.hid (bits_len set h64)
  have HF := Lib.hid hF
  have HM := Lib.hid hM
  have HA := Lib.hid hA
  have HT := Lib.hid hT
  have HOK := Lib.hid hok
  have HL : Hid (∀ wx, Grew w wx → Calls Tryz.prog 62 #[.int .i64 set] wx fun e w' => ∃ u, e = .returned u ∧ Grew wx w' ∧ Own IntR w' wx.heap.size 3 1 (fun _ => True) u (listI set)) := fun wx h => list_calls set h64 wx (hT.grew h)
  clear hF hM hA hR hMv hT hok hset
  obtain ⟨cf0, cf1, cf2, cf3⟩ := (HF.out.grew (grew_alloc w (.cells #[.int .i64 0, .int .i64 0, .int .i64 0, .int .i64 0, .int .i64 0] 59))).cells
  have hz1 := Lib.hid (FiveAt.new w noMade)
  go_enter Tryz.func32, Tryz.ntmps32
  go_wp2_with fail
  go_loopw [15] (fun i wr => ∃ j : Nat, j ≤ a.ranks.length ∧ i = .int .i64 j ∧ Grew w wr ∧ Hid (FiveAt wr w.heap.size noMade) ∧ Hid (wayP a dn set = ((List.range a.ranks.length).drop j).findSome? (way1 a dn set))) (fun i _ => a.ranks.length - (intOf i).toNat)
  case atStart => exact ⟨0, Nat.zero_le _, rfl, grew_alloc _ _, hz1.out, rfl⟩
  case round =>
    obtain ⟨j, hj, rfl, hfr, hZ, HW⟩ := hrel
    by_cases hlt : j < a.ranks.length
    · have HFN := Lib.hid (find_drop (way1 a dn set) (List.range a.ranks.length) j (by simpa using hlt))
      have HFN2 : Hid (wayP a dn set = (way1 a dn set j).or (((List.range a.ranks.length).drop (j + 1)).findSome? (way1 a dn set))) := by
        unfold Hid
        rw [HW.out, HFN.out, List.getElem_range]
      go_wp2_with fail
      refine (HL.out _ hfr).mono ?_
      rintro e w1 ⟨u1, rfl, hf1, hO1⟩
      obtain ⟨A1, c1, rfl, hc1⟩ := hO1.val
      have hll : (listI set).length ≤ 6 := by unfold listI; rw [List.length_map]; exact HB6.out
      have hS1 : SlO w1 1 (rdO IntR) (listI set) (.slice A1 (listI set).length c1) := hO1.sl moves_int (by omega) (fun b _ h => h) (fun b _ h => h)
      have hg1 := grew_trans hfr hf1
      have hC := choose_calls a HOK.out dn j hlt fb mb nb _ _ (listP set) HBB.out HB6.out (0, 0, 0, 0) ⟨by decide, by decide, by decide, by decide⟩ w1 _ (HF.out.grew hg1) (HM.out.grew hg1) (rdO_frm moves_au hg1.1 HA.out) hS1
      rw [zero_four] at hC
      obtain ⟨kr, hkr⟩ : ∃ kr, kr = (chooseP (a.altsAt j) dn (a.rankAt j) (listP set) (0, 0, 0, 0)).getD (0, 0, 0, 0) := ⟨_, rfl⟩
      obtain ⟨br, hbr⟩ : ∃ br, br = (chooseP (a.altsAt j) dn (a.rankAt j) (listP set) (0, 0, 0, 0)).isSome := ⟨_, rfl⟩
      rw [← hkr, ← hbr, show k4V kr = Value.agg #[.int .i64 kr.1, .int .i64 kr.2.1, .int .i64 kr.2.2.1, .int .i64 kr.2.2.2] from rfl] at hC
      have HC := Lib.hid hC
      have HKR := Lib.hid hkr
      have HBR := Lib.hid hbr
      clear hkr hbr hC hO1 hS1
      dsimp only
      go_wp2_with fail
      refine HC.out.mono ?_
      rintro e w2 ⟨rfl, hf2⟩
      have hg2 := grew_trans hg1 hf2
      obtain ⟨zx0, zx1, zx2, zx3, zx4⟩ := (hZ.out.grew (grew_trans hf1 (grew_then_alloc hf2 (.cells #[.int .i64 kr.1, .int .i64 kr.2.1, .int .i64 kr.2.2.1, .int .i64 kr.2.2.2] 57)))).cells
      have hzf := (hZ.out.grew (grew_trans hf1 (grew_then_alloc hf2 (.cells #[.int .i64 kr.1, .int .i64 kr.2.1, .int .i64 kr.2.2.1, .int .i64 kr.2.2.2] 57)))).free
      have zf0 := hzf 0
      have zf1 := hzf 1
      have zf2 := hzf 2
      have zf3 := hzf 3
      have zf4 := hzf 4
      obtain ⟨y0, y1, y2, y3⟩ := (FourAt.new w2 kr).cells
      have hZ2 := Lib.hid (hZ.out.grew (grew_trans hf1 (grew_then_alloc hf2 (.cells #[.int .i64 kr.1, .int .i64 kr.2.1, .int .i64 kr.2.2.1, .int .i64 kr.2.2.2] 57))))
      clear hzf
      dsimp only
      cases hb : br with
      | false =>
        subst hb
        have HW2 : Hid (wayP a dn set = ((List.range a.ranks.length).drop (j + 1)).findSome? (way1 a dn set)) := by
          unfold Hid
          have hn : way1 a dn set j = none := by
            unfold way1
            have := HBR.out
            cases hc9 : chooseP (a.altsAt j) dn (a.rankAt j) (listP set) (0, 0, 0, 0) with
            | none => rfl
            | some v => rw [hc9] at this; cases this
          rw [HFN2.out, hn]
          rfl
        go_wp2_with fail
        exact ⟨⟨j + 1, by omega, by go_num, grew_then_alloc hg2 _, hZ2.out, HW2⟩, by simp [intOf]; omega⟩
      | true =>
        subst hb
        have HV : Hid (wayP a dn set = some (j, kr)) := by
          unfold Hid
          have hn : way1 a dn set j = some (j, kr) := by
            unfold way1
            have h1 := HBR.out
            have h2 := HKR.out
            cases hc9 : chooseP (a.altsAt j) dn (a.rankAt j) (listP set) (0, 0, 0, 0) with
            | none => rw [hc9] at h1; cases h1
            | some v => rw [hc9] at h2; rw [h2]; rfl
          rw [HFN2.out, hn]
          rfl
        go_wp2_with fail
        refine bodyPost_ret (v := .tuple #[madeV (j, kr), .bool true]) (by simp [results, Tryz.results32, go_sem, madeV, zx0, zx1, zx2, zx3, zx4, zf0, zf1, zf2, zf3, zf4]) rfl ⟨?_, ?_⟩
        · rw [HV.out]
          rfl
        · exact grew_set_new (grew_set_new (grew_set_new (grew_set_new (grew_set_new (grew_then_alloc hg2 _) (by omega) _ _) (by omega) _ _) (by omega) _ _) (by omega) _ _) (by omega) _ _
    · obtain rfl : j = a.ranks.length := by omega
      have HV : Hid (wayP a dn set = none) := by
        unfold Hid
        rw [HW.out, List.drop_eq_nil_of_le (by simp)]
        rfl
      obtain ⟨zx0, zx1, zx2, zx3, zx4⟩ := hZ.out.cells
      have zf0 := hZ.out.free 0
      have zf1 := hZ.out.free 1
      have zf2 := hZ.out.free 2
      have zf3 := hZ.out.free 3
      have zf4 := hZ.out.free 4
      go_wp2_with fail
      refine bodyPost_ret (v := .tuple #[madeV noMade, .bool false]) (by simp [results, Tryz.results32, go_sem, madeV, noMade, zx0, zx1, zx2, zx3, zx4, zf0, zf1, zf2, zf3, zf4]) rfl ⟨?_, ?_⟩
      · rw [HV.out]
        rfl
      · exact grew_set_new (grew_set_new (grew_set_new (grew_set_new (grew_set_new hfr (by omega) _ _) (by omega) _ _) (by omega) _ _) (by omega) _ _) (by omega) _ _
end Go.Proofs.YtjpdmncafacmaaaGreatDoor
end
/- The finder's tree: its loop's invariant, and a kid's step. -/
section
set_option linter.unusedVariables false
set_option linter.unusedSimpArgs false
namespace Go.Proofs.YtjpdmncafacmaaaGreatDoor
open Go.RowKit

theorem info_tree : (Tryz.prog.info? 29).map (fun i => (i.zero, i.size, i.bytes)) = some (some (.agg #[.int .i64 0, .slice none 0 0]), 2, 32) := by kernel_rfl
theorem elem_tree : ElemInfo Tryz.prog 27 29 2 32 := .of Tryz.underlying27 info_tree rfl (by omega)
/-- A tree, or something that looks like one. -/
def OptR (D : Nat) : RdS (Option Tr) := fun S w o cs => ∃ (l : Int) (A : Option Addr) (n c : Nat), cs = [.int .i64 l, .slice A n c] ∧ ∀ t, o = some t → TrD D S w t cs
theorem moves_opt (D : Nat) : Moves (OptR D) := by
  rintro S S' w w' x cs hS hw ⟨l, A, n, c, h1, h2⟩
  exact ⟨l, A, n, c, h1, fun t ht => moves_tr D _ _ _ _ _ _ hS hw (h2 t ht)⟩
theorem opt_some {D : Nat} {S : Nat → Prop} {w : World} {ts : List Tr} {v : Value} (h : Sl S w 2 (OptR D S w) (ts.map some) v) : Sl S w 2 (TrD D S w) ts v := by
  obtain ⟨A, c, rfl, h1, h2, hp⟩ := h
  refine ⟨A, c, by rw [List.length_map], by simpa using h1, by simpa using h2, fun h0 => ?_⟩
  obtain ⟨b, o, ha, hb, hc⟩ := hp (by simpa using h0)
  refine ⟨b, o, ha, hb, fun i hi => ?_⟩
  obtain ⟨cs, q1, q2, l, A', n', c', q3, q4⟩ := hc i (by simpa using hi)
  exact ⟨cs, q1, q2, q4 _ (by simp)⟩
/-- The ways lead down from a set. -/
def Dpt (a : Au) (dn : Nat → Option Made) : Nat → Nat → Prop
  | 0, _ => False
  | D + 1, s => ∃ m, dn s = some m ∧ m.1 < a.ranks.length ∧ m.2.ok ∧ ∀ i, i < a.rankAt m.1 → Dpt a dn D (m.2.get i)
def kidsP (a : Au) (dn : Nat → Option Made) (D : Nat) (m : Made) : List Tr := (List.range (a.rankAt m.1)).map fun i => treeP a dn D (m.2.get i)
theorem tree_node {a : Au} {dn : Nat → Option Made} {D s : Nat} {m : Made} (h : dn s = some m) : treeP a dn (D + 1) s = .node m.1 (kidsP a dn D m) := by
  unfold treeP kidsP
  rw [h]
def sizes (D : Nat) (l : List Tr) : Nat := (l.map (sizeTo D)).sum
theorem sizes_take {D : Nat} {l : List Tr} {j : Nat} (h : j < l.length) : sizes D (l.take (j + 1)) = sizes D (l.take j) + sizeTo D l[j] := by
  unfold sizes
  rw [List.take_succ_eq_append_getElem h, List.map_append, List.sum_append]
  simp
theorem sizes_le {D : Nat} {l : List Tr} (j : Nat) : sizes D (l.take j) ≤ sizes D l := by
  unfold sizes
  have h9 : (l.map (sizeTo D)).sum = ((l.take j).map (sizeTo D)).sum + ((l.drop j).map (sizeTo D)).sum := by rw [← List.sum_append, ← List.map_append, List.take_append_drop]
  omega
/-- What a call for a tree brings. -/
def TreePost (a : Au) (dn : Nat → Option Made) (D set g n0 : Nat) (w : World) (e : Ending) (w' : World) : Prop :=
  ∃ (l : Int) (A : Option Addr) (n c : Nat), e = .returned (.agg #[.int .i64 l, .slice A n c]) ∧ GrewR w w' (some g) ∧
    ((sizeTo D (treeP a dn D set) ≤ n0 ∧ OneAt w' g (.int .i64 ((n0 : Int) - sizeTo D (treeP a dn D set))) 3 ∧ TrD D (fun b => w.heap.size ≤ b ∧ b < w'.heap.size) w' (treeP a dn D set) [.int .i64 l, .slice A n c]) ∨
     (n0 < sizeTo D (treeP a dn D set) ∧ OneAt w' g (.int .i64 (-1)) 3))
/-- A call's premises. -/
structure TreePre (a : Au) (dn : Nat → Option Made) (fb mb nb g : Nat) (r m : Value) (w : World) : Prop where
  fin : FinAt w fb r a.start m mb
  map : MapM w mb nb dn
  au : AuR (fun b => b < w.heap.size ∧ b ≠ g) w a [r, .int .i64 a.start, m]
  gf : g ≠ fb
  gm : g ≠ mb
theorem TreePre.step {a : Au} {dn : Nat → Option Made} {fb mb nb g : Nat} {r m : Value} {w w' : World} (h : TreePre a dn fb mb nb g r m w) (hg : GrewR w w' (some g)) : TreePre a dn fb mb nb g r m w' := by
  refine ⟨h.fin.move (hg.1.block _ h.fin.lt (by intro e; injection e with e; exact h.gf e.symm)), h.map.kept hg.1 (by intro e; injection e with e; exact h.gm e.symm), ?_, h.gf, h.gm⟩
  exact moves_au _ _ _ _ _ _ (fun b hb => ⟨Nat.lt_of_lt_of_le hb.1 hg.1.size, hb.2⟩) (fun b hb => hg.1.block b hb.1 (by intro e; injection e with e; exact hb.2 e)) h.au
/-- The loop over the kids. -/
def TI (a : Au) (dn : Nat → Option Made) (D : Nat) (mk : Made) (n0 g : Nat) (w : World) (j : Nat) (v : Value) (wr : World) : Prop :=
  ∃ os, GrewR w wr (some g) ∧ TwoAt wr (w.heap.size + 2) (.int .i64 mk.1) v 29 ∧ FiveAt wr (w.heap.size + 1) mk ∧ TwoAt wr w.heap.size (.int .i64 0) (.slice none 0 0) 29 ∧
    Own (OptR D) wr (w.heap.size + 3) 29 2 (fun b => w.heap.size + 3 ≤ b) v os ∧ os.length = j ∧ w.heap.size + 3 ≤ wr.heap.size ∧
    ((os = ((kidsP a dn D mk).take j).map some ∧ 1 + sizes D ((kidsP a dn D mk).take j) ≤ n0 ∧ OneAt wr g (.int .i64 ((n0 : Int) - (1 + sizes D ((kidsP a dn D mk).take j) : Nat))) 3) ∨
     (n0 < 1 + sizes D (kidsP a dn D mk) ∧ OneAt wr g (.int .i64 (-1)) 3))
theorem FiveAt.move {w w' : World} {g : Nat} {m : Made} (h : FiveAt w g m) (hw : w'.heap[g]? = w.heap[g]?) : FiveAt w' g m := hw.trans h
/-- A kid's tree is appended. -/
theorem kid_step {a : Au} {dn : Nat → Option Made} {D : Nat} {mk : Made} {n0 g fb mb nb j : Nat} {r m v : Value} {w wr : World} (hgw : g < w.heap.size) (hn0 : n0 ≤ 20000) (hmk : mk.2.ok) (hj : j < a.rankAt mk.1) (hr4 : a.rankAt mk.1 ≤ 4)
    (hpre : TreePre a dn fb mb nb g r m w) (hD : Dpt a dn D (mk.2.get j))
    (ih : ∀ (set : Nat) (hset : set < 64) (hd : Dpt a dn D set) (w : World) (n0 : Nat) (hg : OneAt w g (.int .i64 n0) 3) (hn0 : n0 ≤ 20000) (hpre : TreePre a dn fb mb nb g r m w),
      Calls Tryz.prog 33 #[.pointer (some ⟨fb, 0, none⟩), .int .i64 set, .pointer (some ⟨g, 0, none⟩)] w (TreePost a dn D set g n0 w))
    (hI : TI a dn D mk n0 g w j v wr) (left : Int) (hl : OneAt wr g (.int .i64 left) 3) (hl0 : 0 ≤ left) (wx : World) (hx : Grew wr wx) :
    Calls Tryz.prog 33 #[.pointer (some ⟨fb, 0, none⟩), .int .i64 (mk.2.get j), .pointer (some ⟨g, 0, none⟩)] wx fun e w5 => ∃ (l : Int) (A : Option Addr) (n c : Nat), e = .returned (.agg #[.int .i64 l, .slice A n c]) ∧
      w5.cell? ⟨w.heap.size + 2, 1, none⟩ = some v ∧ (w5.alloc (.cells #[.int .i64 l, .slice A n c] 29)).cell? ⟨w.heap.size + 2, 1, none⟩ = some v ∧ ∃ v9 w9, (Builtin.append_ #[27, 27] 27 #[v, .slice (some ⟨w5.heap.size, 0, none⟩) 1 1]).run Tryz.prog (w5.alloc (.cells #[.int .i64 l, .slice A n c] 29)) = .ok v9 w9 ∧
        w9.cell? ⟨w.heap.size + 2, 1, none⟩ = some v ∧ w9.frozen? ⟨w.heap.size + 2, 1, none⟩ = false ∧ (∃ A9 c9, v9 = .slice A9 (j + 1) c9) ∧ TI a dn D mk n0 g w (j + 1) v9 (w9.setCell ⟨w.heap.size + 2, 1, none⟩ v9) := by
  obtain ⟨os, hG, hT, hF5, hZ, hO, hol, hw3, hcase⟩ := hI
  have hkl : (kidsP a dn D mk).length = a.rankAt mk.1 := by unfold kidsP; simp
  have hkj : (kidsP a dn D mk)[j]'(by omega) = treeP a dn D (mk.2.get j) := by unfold kidsP; simp
  rcases hcase with ⟨hos, hle, hone⟩ | ⟨hlt, hone⟩
  · have hone' := hone
    have e9 : left = ((n0 : Int) - (1 + sizes D ((kidsP a dn D mk).take j) : Nat)) := by
      have h := hone.cell
      rw [hl.cell] at h
      injection h with h
      injection h with _ h
    obtain ⟨n1, hn1⟩ : ∃ n1 : Nat, n1 = n0 - (1 + sizes D ((kidsP a dn D mk).take j)) := ⟨_, rfl⟩
    have hx1 : OneAt wx g (.int .i64 (n1 : Int)) 3 := (hone.eq (by omega)).move (frm_lt hx.1 g (by have := hG.1.size; omega))
    have hGx : GrewR w wx (some g) := grewR_trans hG (grewR_weak hx)
    have hst := sizes_take (D := D) (l := kidsP a dn D mk) (j := j) (by omega)
    rw [hkj] at hst
    refine (ih _ (K4.get_lt hmk j) hD wx n1 hx1 (by omega) (hpre.step hGx)).mono ?_
    rintro e w5 ⟨l, A, n, c, rfl, hG5, h5⟩
    have hsx := hx.1.size
    have hs5 := hG5.1.size
    have hGw5 : GrewR wr w5 (some g) := grewR_trans (grewR_weak hx) hG5
    have hT5 := hT.frm_row hGw5.1 (by intro e; injection e with e; omega)
    have hF55 := hF5.move (hGw5.1.block _ hF5.lt (by intro e; injection e with e; omega))
    have hZ5 := hZ.frm_row hGw5.1 (by intro e; injection e with e; omega)
    have hlO := hO.lt
    have hO5 := hO.kept (moves_opt D) hGw5.1 (.inr fun e => by have := (hlO g e).1; omega) (fun b hb e => by injection e with e; omega)
    refine ⟨l, A, n, c, rfl, hT5.cells.2.1, (hT5.alloc _).cells.2.1, ?_⟩
    have htw := TwoAt.new w5 (.int .i64 l) (.slice A n c) 29
    have hO6 := hO5.kept (moves_opt D) (frm_alloc w5 (.cells #[.int .i64 l, .slice A n c] 29)) (ownNone _) (by simp)
    have hlO6 := hO6.lt
    obtain ⟨y, hy, hyc⟩ : ∃ y, OptR D (Sup (fun b => w.heap.size + 3 ≤ b) (w5.alloc (.cells #[.int .i64 l, .slice A n c] 29)) v) (w5.alloc (.cells #[.int .i64 l, .slice A n c] 29)) y [.int .i64 l, .slice A n c] ∧
        ((y = some (treeP a dn D (mk.2.get j)) ∧ sizeTo D (treeP a dn D (mk.2.get j)) ≤ n1 ∧ OneAt w5 g (.int .i64 ((n1 : Int) - sizeTo D (treeP a dn D (mk.2.get j)))) 3) ∨ (n1 < sizeTo D (treeP a dn D (mk.2.get j)) ∧ OneAt w5 g (.int .i64 (-1)) 3)) := by
      rcases h5 with ⟨q1, q2, q3⟩ | ⟨q1, q2⟩
      · refine ⟨some _, ⟨l, A, n, c, rfl, fun t' e => ?_⟩, .inl ⟨rfl, q1, q2⟩⟩
        injection e with e
        subst e
        exact moves_tr D _ _ _ _ _ _ (fun b hb => ⟨by omega, by simp; omega, fun e => by have := (hlO b e.symm).2; omega⟩) (fun b hb => Below.heap_alloc _ _ _ hb.2) q3
      · exact ⟨none, ⟨l, A, n, c, rfl, fun t' e => by cases e⟩, .inr ⟨q1, q2⟩⟩
    have hj3 : j ≤ 3 := by omega
    obtain ⟨v9, w9, hrun, hO9, hG9, hp9⟩ := Own.app_run (moves_opt D) elem_tree hO6 27 (g := w5.heap.size) y [.int .i64 l, .slice A n c] rfl (fun j u hu => by
      match j with
      | 0 => simp at hu; subst hu; exact htw.cells.1
      | 1 => simp at hu; subst hu; exact htw.cells.2.1
      | j + 2 => simp at hu) (fun u hu => by simp at hu; rcases hu with rfl | rfl <;> rfl) hy (by rw [hol]; omega) (by omega) (by simp; omega)
    have hG6 : GrewR w (w5.alloc (.cells #[.int .i64 l, .slice A n c] 29)) (some g) := grewR_trans (grewR_trans hG hGw5) (grewR_weak (grew_alloc _ _))
    have hG69 : GrewR w w9 (some g) := ⟨hG6.1.andThen hG9.1 (fun b hb => .inl (by have := (hlO6 b hb).1; omega)), Nat.le_trans hG6.2 hG9.2⟩
    have hs9 := hG9.1.size
    have hvg : ∀ b, b < w.heap.size + 3 → v.ownBlock ≠ some b := fun b hb e => by have := (hlO b e).1; omega
    have hT9 := (hT5.alloc (.cells #[.int .i64 l, .slice A n c] 29)).frm_row hG9.1 (hvg _ (by omega))
    have hF9 := (hF55.move (Below.heap_alloc w5 (.cells #[.int .i64 l, .slice A n c] 29) _ hF55.lt)).move (hG9.1.block _ (by simp; omega) (fun e => hvg _ (by omega) e.symm))
    have hZ9 := (hZ5.alloc (.cells #[.int .i64 l, .slice A n c] 29)).frm_row hG9.1 (hvg _ (by omega))
    have hlO9 := hO9.lt
    obtain ⟨A9, c9, he9, hcc9⟩ := hO9.val
    have hgm : w9.heap[g]? = w5.heap[g]? := (hG9.1.block g (by simp; omega) (fun e => hvg _ (by omega) e.symm)).trans (Below.heap_alloc w5 _ _ (by omega))
    refine ⟨v9, w9, hrun, hT9.cells.2.1, hT9.cells.2.2.2, ⟨A9, c9, ?_⟩, os ++ [y], ?_, hT9.set1 v9, ?_, ?_, ?_, by simp [hol], by simp at hs9 ⊢; omega, ?_⟩
    · rw [he9]; simp [hol]
    · exact ⟨frm_set_new hG69.1 (by omega) _ _, hG69.2⟩
    · exact hF9.move (Below.heap_setCell _ _ _ _ (by show w.heap.size + 1 ≠ w.heap.size + 2; omega))
    · exact hZ9.move (Below.heap_setCell _ _ _ _ (by show w.heap.size ≠ w.heap.size + 2; omega))
    · exact hO9.kept (moves_opt D) (frm_set (frm_refl _ _) _ _) (.inr fun e => by have := (hlO9 _ e).1; omega) (fun b hb e => by injection e with e; omega)
    · have hsg : ∀ u : Value, OneAt w5 g u 3 → OneAt (w9.setCell ⟨w.heap.size + 2, 1, none⟩ v9) g u 3 := fun u h => (h.move hgm).move (Below.heap_setCell _ _ _ _ (by show g ≠ w.heap.size + 2; omega))
      rcases hyc with ⟨rfl, q1, q2⟩ | ⟨q1, q2⟩
      · refine .inl ⟨?_, by omega, (hsg _ q2).eq (by omega)⟩
        rw [hos, List.take_succ_eq_append_getElem (by omega), List.map_append, hkj]
        rfl
      · refine .inr ⟨?_, hsg _ q2⟩
        have := sizes_le (D := D) (l := kidsP a dn D mk) (j + 1)
        omega
  · exfalso
    have h := hone.cell
    rw [hl.cell] at h
    injection h with h
    injection h with _ h
    omega
theorem TI.grew {a : Au} {dn : Nat → Option Made} {D : Nat} {mk : Made} {n0 g j : Nat} {v : Value} {w wr w' : World} (hI : TI a dn D mk n0 g w j v wr) (hf : Grew wr w') : TI a dn D mk n0 g w j v w' := by
  obtain ⟨os, hG, hT, hF5, hZ, hO, hol, hw3, hcase⟩ := hI
  have hs := hf.1.size
  refine ⟨os, grewR_trans hG (grewR_weak hf), hT.frm hf.1, hF5.grew hf, hZ.frm hf.1, hO.kept (moves_opt D) hf.1 (ownNone _) (by simp), hol, by omega, ?_⟩
  rcases hcase with ⟨h1, h2, h3⟩ | ⟨h1, h2⟩
  · exact .inl ⟨h1, h2, h3.move (frm_lt hf.1 g h3.lt)⟩
  · exact .inr ⟨h1, h2.move (frm_lt hf.1 g h2.lt)⟩
theorem TI.left {a : Au} {dn : Nat → Option Made} {D : Nat} {mk : Made} {n0 g j : Nat} {v : Value} {w wr : World} (hI : TI a dn D mk n0 g w j v wr) (hn0 : n0 ≤ 20000) : ∃ left : Int, OneAt wr g (.int .i64 left) 3 ∧ (-1 ≤ left ∧ left ≤ 20000) ∧ ∃ A c, v = .slice A j c := by
  obtain ⟨os, hG, hT, hF5, hZ, hO, hol, hw3, hcase⟩ := hI
  obtain ⟨A, c, he, _⟩ := hO.val
  rw [hol] at he
  rcases hcase with ⟨h1, h2, h3⟩ | ⟨h1, h2⟩
  · exact ⟨_, h3, ⟨by omega, by omega⟩, A, c, he⟩
  · exact ⟨_, h2, ⟨by omega, by omega⟩, A, c, he⟩
/-- The loop's end. -/
theorem tree_end {a : Au} {dn : Nat → Option Made} {D set : Nat} {mk : Made} {n0 g j : Nat} {v : Value} {w wr : World} (hI : TI a dn D mk n0 g w j v wr) (hgw : g < w.heap.size) (hn0 : n0 ≤ 20000) (hmk : mk.1 < 1000) (hr4 : a.rankAt mk.1 ≤ 4) (hdn : dn set = some mk) {left : Int} (hl : OneAt wr g (.int .i64 left) 3)
    (hend : j = a.rankAt mk.1 ∨ left < 0) : TreePost a dn (D + 1) set g n0 w (.returned (.agg #[.int .i64 mk.1, v])) ((wr.setCell ⟨w.heap.size, 0, none⟩ (.int .i64 mk.1)).setCell ⟨w.heap.size, 1, none⟩ v) := by
  obtain ⟨os, hG, hT, hF5, hZ, hO, hol, hw3, hcase⟩ := hI
  have htn := tree_node (a := a) (D := D) hdn
  have hsz : sizeTo (D + 1) (treeP a dn (D + 1) set) = sizes D (kidsP a dn D mk) + 1 := by rw [htn]; rfl
  have hkl : (kidsP a dn D mk).length = a.rankAt mk.1 := by unfold kidsP; simp
  obtain ⟨A, c, he, hcc⟩ := hO.val
  have hGf : GrewR w ((wr.setCell ⟨w.heap.size, 0, none⟩ (.int .i64 mk.1)).setCell ⟨w.heap.size, 1, none⟩ v) (some g) := ⟨frm_set_new (frm_set_new hG.1 (Nat.le_refl _) _ _) (Nat.le_refl _) _ _, hG.2⟩
  have hmv : ∀ q, q ≠ w.heap.size → ((wr.setCell ⟨w.heap.size, 0, none⟩ (.int .i64 mk.1)).setCell ⟨w.heap.size, 1, none⟩ v).heap[q]? = wr.heap[q]? := fun q hq => by
    rw [Below.heap_setCell _ _ _ _ (by show q ≠ w.heap.size; exact hq), Below.heap_setCell _ _ _ _ (by show q ≠ w.heap.size; exact hq)]
  have hmg : ∀ u : Value, OneAt wr g u 3 → OneAt ((wr.setCell ⟨w.heap.size, 0, none⟩ (.int .i64 mk.1)).setCell ⟨w.heap.size, 1, none⟩ v) g u 3 := fun u h => h.move (hmv g (by omega))
  refine ⟨mk.1, A, os.length, c, by rw [he], hGf, ?_⟩
  rw [hsz]
  rcases hcase with ⟨h1, h2, h3⟩ | ⟨h1, h2⟩
  · have e9 : left = ((n0 : Int) - (1 + sizes D ((kidsP a dn D mk).take j) : Nat)) := by
      have h := h3.cell
      rw [hl.cell] at h
      injection h with h
      injection h with _ h
    have hj : j = a.rankAt mk.1 := by
      rcases hend with h | h
      · exact h
      · omega
    rw [hj, ← hkl, List.take_length] at h1 h2 h3
    refine .inl ⟨by omega, (hmg _ h3).eq (by omega), ?_⟩
    rw [htn]
    refine ⟨.slice A os.length c, rfl, ⟨by show -9223372036854775808 ≤ (mk.1 : Int); omega, by show (mk.1 : Int) ≤ 9223372036854775807; omega⟩, ?_⟩
    have hsl : Sl (fun b => w.heap.size + 3 ≤ b ∧ b < wr.heap.size) wr 2 (OptR D (fun b => w.heap.size + 3 ≤ b ∧ b < wr.heap.size) wr) os v := hO.sl (moves_opt D) (by rw [h1, List.length_map, hkl, ← hj]; omega) (fun b h1 h2 => ⟨h1, h2⟩) (fun b h1 h2 => ⟨h1, h2⟩)
    rw [h1] at hsl
    have h5 := opt_some hsl
    rw [← he]
    exact h5.move (fun b hb => ⟨by omega, by simp; omega⟩) (fun b hb => hmv b (by omega)) fun x _ cs h => moves_tr D _ _ _ _ _ _ (fun b hb => ⟨by omega, by simp; omega⟩) (fun b hb => hmv b (by omega)) h
  · exact .inr ⟨by omega, hmg _ h2⟩
end Go.Proofs.YtjpdmncafacmaaaGreatDoor
end
/- The finder's tree, walked. -/
section
set_option linter.unusedVariables false
set_option linter.unusedSimpArgs false
namespace Go.Proofs.YtjpdmncafacmaaaGreatDoor
open Go.RowKit

set_option maxRecDepth 100000 in
set_option maxHeartbeats 2000000 in
theorem tree_calls (a : Au) (hok : a.ok = true) (dn : Nat → Option Made) (fb mb nb g : Nat) (r m : Value) : ∀ (D : Nat) (set : Nat) (hset : set < 64) (hd : Dpt a dn D set) (w : World) (n0 : Nat) (hg : OneAt w g (.int .i64 n0) 3) (hn0 : n0 ≤ 20000) (hpre : TreePre a dn fb mb nb g r m w),
    Calls Tryz.prog 33 #[.pointer (some ⟨fb, 0, none⟩), .int .i64 set, .pointer (some ⟨g, 0, none⟩)] w (TreePost a dn D set g n0 w) := by
  intro D
  induction D with
  | zero => intro set hset hd; exact hd.elim
  | succ D ih =>
  intro set hset hd w n0 hg hn0 hpre
  obtain ⟨mk, hdn, hmr, hmo, hkd⟩ := hd
  obtain ⟨hrk, hre, _⟩ := au_sym hok hmr
  obtain ⟨r', m', hau, hRr, _⟩ := hpre.au
  simp only [List.cons.injEq, and_true, true_and] at hau
  obtain ⟨rfl, rfl⟩ := hau
  obtain ⟨r'', hr'', hR⟩ := hRr
  simp only [List.cons.injEq, and_true] at hr''
  subst hr''
  obtain ⟨A, c, rfl, hc, hlm⟩ := hR.val
  obtain ⟨bR, oR, pR, rfl, hbR, hpR, hpt⟩ := Sl.at1 hR mk.1 hmr
  obtain ⟨hpv, _, _⟩ := hpt
  simp only [List.cons.injEq, and_true] at hpv
  subst hpv
  rw [hre] at hpR
  have hr24 : a.ranks.length ≤ 24 := (ranksOk_parts (ok_parts hok).1).1
  have c0 := hg.cell
  have f0 := hg.free
  have hgl := hg.lt
  have e1 : IntKind.i64.wrap ((n0 : Int) - 1) = (n0 : Int) - 1 := IntWalk.i64_in _ (by omega)
  have hne : w.heap.size ≠ g := by omega
  obtain ⟨w2, hw2⟩ : ∃ w2, w2 = (w.setCell ⟨g, 0, none⟩ (.int .i64 ((n0 : Int) - 1))).alloc (.cells #[.int .i64 0, .slice none 0 0] 29) := ⟨_, rfl⟩
  have hG2 : GrewR w w2 (some g) := by rw [hw2]; exact grewR_trans (grewR_set (grewR_refl _ _) _ _) (grewR_weak (grew_alloc _ _))
  have hs2 : w2.heap.size = w.heap.size + 1 := by rw [hw2]; simp
  have hO2 : OneAt w2 g (.int .i64 ((n0 : Int) - 1)) 3 := by rw [hw2]; exact (hg.set _).alloc _
  have hZ2 : TwoAt w2 w.heap.size (.int .i64 0) (.slice none 0 0) 29 := by
    have h := TwoAt.new (w.setCell ⟨g, 0, none⟩ (.int .i64 ((n0 : Int) - 1))) (.int .i64 0) (.slice none 0 0) 29
    rw [show (w.setCell ⟨g, 0, none⟩ (.int .i64 ((n0 : Int) - 1))).heap.size = w.heap.size by simp] at h
    rw [hw2]; exact h
  have hpre2 := hpre.step hG2
  have hlk := (MapM.look rfl hpre2.map Tryz.underlying54 (zero_made _) (show set < 2 ^ 62 by omega)).2
  rw [hdn] at hlk
  obtain ⟨cf0, cf1, cf2, cf3⟩ := hpre2.fin.cells
  rw [hw2] at cf3 hlk
  have HW2 := Lib.hid hw2
  have HPRE := Lib.hid hpre
  have HPRE2 := Lib.hid hpre2
  have HIH := Lib.hid ih
  have HKD := Lib.hid hkd
  have HDN := Lib.hid hdn
  have HMO := Lib.hid hmo
  have hR0 := hpR
  have HTN := Lib.hid (tree_node (a := a) (D := D) hdn)
  have hmr' : (mk.1 : Int) < a.ranks.length := by omega
  unfold madeV at hlk
  dsimp only [Option.getD_some] at hlk
  have hcR2 : w2.cell? ⟨bR, oR + mk.1, none⟩ = some (.int .i64 (a.rankAt mk.1)) := hG2.1.cell hpR (by intro e; injection e with e; exact hbR.2 e)
  have HS2 := Lib.hid hs2
  clear hw2 hpre hpre2 ih hkd hdn hmo hs2 hR hpR hR0
  go_enter Tryz.func33, Tryz.ntmps33
  repeat ((fail_if_success at_lookup); first | go_values | go_skip | go_guarded | go_step | go_upon)
  rw [← HW2.out] at cf3 hlk ⊢
  clear c0 f0
  have hs2 := HS2.out
  go_wp2_with fail
  have hG24 : Grew w2 ((w2.alloc (.cells #[.int .i64 mk.1, .int .i64 mk.2.1, .int .i64 mk.2.2.1, .int .i64 mk.2.2.2.1, .int .i64 mk.2.2.2.2] 59)).alloc (.cells #[.int .i64 mk.1, .slice none 0 0] 29)) := grew_then_alloc (grew_alloc _ _) _
  have hF4 := (FiveAt.new w2 mk).grew (grew_alloc _ (.cells #[.int .i64 mk.1, .slice none 0 0] 29))
  have hT4 := TwoAt.new (w2.alloc (.cells #[.int .i64 mk.1, .int .i64 mk.2.1, .int .i64 mk.2.2.1, .int .i64 mk.2.2.2.1, .int .i64 mk.2.2.2.2] 59)) (.int .i64 mk.1) (.slice none 0 0) 29
  rw [World.size_alloc, hs2] at hT4
  rw [hs2] at hF4
  have hs4 : w.heap.size + 3 ≤ ((w2.alloc (.cells #[.int .i64 mk.1, .int .i64 mk.2.1, .int .i64 mk.2.2.1, .int .i64 mk.2.2.2.1, .int .i64 mk.2.2.2.2] 59)).alloc (.cells #[.int .i64 mk.1, .slice none 0 0] 29)).heap.size := by simp; omega
  generalize ((w2.alloc (.cells #[.int .i64 mk.1, .int .i64 mk.2.1, .int .i64 mk.2.2.1, .int .i64 mk.2.2.2.1, .int .i64 mk.2.2.2.2] 59)).alloc (.cells #[.int .i64 mk.1, .slice none 0 0] 29)) = w4 at *
  have hG4 : GrewR w w4 (some g) := grewR_trans hG2 (grewR_weak hG24)
  obtain ⟨cf0, cf1, cf2, cf3⟩ := (HPRE2.out.fin.grew hG24).cells
  have cR4 := frm_cell hG24.1 hcR2
  obtain ⟨mk0, mk1, mk2, mk3, mk4⟩ := hF4.cells
  have HTI : Hid (TI a dn D mk n0 g w 0 (.slice none 0 0) w4) := by
    refine ⟨[], hG4, hT4, hF4, hZ2.frm hG24.1, Own.nil _ _ _ _ _ _, rfl, hs4, ?_⟩
    have hO4 := hO2.move (frm_lt hG24.1 g hO2.lt)
    by_cases h1 : 1 ≤ n0
    · refine .inl ⟨by simp, by simp [sizes]; omega, hO4.eq ?_⟩
      simp [sizes]
    · refine .inr ⟨?_, hO4.eq (by omega)⟩
      omega
  have hk4 : (a.rankAt mk.1 : Int) ≤ 4 := by omega
  go_quiet (fail)
  go_wp2_with fail
  go_loopw [33] (fun i wr => ∃ (j : Nat) (v : Value), j ≤ a.rankAt mk.1 ∧ i = .int .i64 j ∧ Hid (TI a dn D mk n0 g w j v wr)) (fun i _ => a.rankAt mk.1 - (intOf i).toNat)
  case atStart => exact ⟨0, .slice none 0 0, Nat.zero_le _, rfl, HTI.out.grew ⟨frm_drewN _ _, Nat.le_add_right _ _⟩⟩
  case round =>
    obtain ⟨j, v, hj, rfl, HI⟩ := hrel
    obtain ⟨left, hleft, hlb, Av, cv, rfl⟩ := HI.out.left hn0
    have hcl := hleft.cell
    have HL := Lib.hid hleft
    have HIC := HI
    unfold Hid TI at HIC
    obtain ⟨os, hGi, hTi, hFi, hZi, hOi, hol, hw3, hcase⟩ := HIC
    obtain ⟨zx0, zx1, zf0, zf1⟩ := hZi.cells
    obtain ⟨tx0, tx1, tf0, tf1⟩ := hTi.cells
    obtain ⟨mx0, mx1, mx2, mx3, mx4⟩ := hFi.cells
    clear hleft hGi hTi hFi hZi hOi hol hcase mk0 mk1 mk2 mk3 mk4 cf0 cf1 cf2 cf3
    by_cases hlt : j < a.rankAt mk.1
    · by_cases hneg : left < 0
      · go_wp2_with fail
        refine bodyPost_ret (v := .agg #[.int .i64 mk.1, .slice Av j cv]) (by simp [results, Tryz.results33, go_sem, zx0, zx1, zf0, zf1]) rfl ?_
        exact tree_end HI.out hgl hn0 (by omega) hrk HDN.out HL.out (by first | exact .inl rfl | exact .inr (by assumption))
      · have hj4 : (j : Int) < 4 := by omega
        have hj0 : (0 : Int) ≤ j := by omega
        have HKS := Lib.hid (kid_step (a := a) (r := .slice (some ⟨bR, oR, none⟩) a.ranks.length c) (m := m) hgl hn0 HMO.out hlt hrk HPRE.out (HKD.out j hlt) HIH.out HI.out left HL.out (by omega))
        have hdr : Grew wr wr.drew := grew_drew _
        have mkj : wr.cell? ⟨w.heap.size + 1, 1 + j, none⟩ = some (.int .i64 (mk.2.get j)) := by
          match j, hlt with
          | 0, _ => exact mx1
          | 1, _ => exact mx2
          | 2, _ => exact mx3
          | 3, _ => exact mx4
          | j + 4, _ => omega
        clear mx0 mx1 mx2 mx3 mx4 tx0 zx0 zx1 zf0 zf1
        go_wp2_with fail
        go_region_law (first | (rw [if_pos (by rfl)]; refine append_wp (.tmp 41) (.tmp 49) rfl rfl rfl hrun9 ?_) | (go_simp; go_at_call 33; (with_reducible refine (HKS.out _ (by assumption)).mono ?_); rintro e w5 ⟨l5, A5, n5, c5, rfl, gc5, gk5, v9, w9, hrun9, gc9, gf9, ⟨A9, c9, rfl⟩, hTI9⟩; dsimp only))
        all_goals
          have HTI9 := Lib.hid hTI9
          clear hTI9 hrun9
          go_wp2_with fail
          exact ⟨⟨j + 1, _, by omega, by go_num, HTI9.out⟩, by simp [intOf]; omega⟩
    · obtain rfl : j = a.rankAt mk.1 := by omega
      go_wp2_with fail
      refine bodyPost_ret (v := .agg #[.int .i64 mk.1, .slice Av (a.rankAt mk.1) cv]) (by simp [results, Tryz.results33, go_sem, zx0, zx1, zf0, zf1]) rfl ?_
      exact tree_end HI.out hgl hn0 (by omega) hrk HDN.out HL.out (by first | exact .inl rfl | exact .inr (by assumption))
end Go.Proofs.YtjpdmncafacmaaaGreatDoor
end
/- A range over a map of ways; a store into one, at the operation; the rounds of Some, plainly. -/
section
set_option linter.unusedVariables false
set_option linter.unusedSimpArgs false
namespace Go.Proofs.YtjpdmncafacmaaaGreatDoor
open Go.RowKit Go.Maps

theorem mapUpdate_list {P : Program} {ops : Array Oper} {rest : List Oper} {o : Oper} {a : Act} {w w' : World} {Q : Exit → Act → World → Prop} (m x v : Operand) {t : TypeId} {vm vx vv : Value}
    (hgd : o.guard = none) (ho : o.op = Op.mapUpdate t m x v) (hm : a.eval m = vm) (hx : a.eval x = vx) (hv : a.eval v = vv) (hrun : (Instr.mapUpdate t vm vx vv).run P w = .ok () w') (h : wpList P ops Q rest (a.put o.dst undef) w') : wpList P ops Q (o :: rest) a w := by
  refine wpList_plain hgd fun K' hK' => ?_
  unfold Oper.wp
  simp [execOp, ho, hm, hx, hv, hrun, Result.andThen]
  exact hK' _ _ h

/-- A range over block `b` under way, its iterator in block `r`. -/
def RangeM (w : World) (b r n : Nat) (f : Nat → Option Made) (left : Nat → Bool) (cnt : Nat) : Prop :=
  ∃ D lf, w.ranges Tryz.prog 3 madeR b r n D lf cnt ∧ Holds D f ∧ (∀ k : Nat, k < 2 ^ 62 → lf (.int .i64 (k : Int)) = left k) ∧ ∀ kl, lf kl = true → has D kl = true
theorem RangeM.grew {w w' : World} {b r n cnt : Nat} {f : Nat → Option Made} {left : Nat → Bool} (h : RangeM w b r n f left cnt) (hg : Grew w w') : RangeM w' b r n f left cnt := by
  obtain ⟨D, lf, h1, h2⟩ := h
  exact ⟨D, lf, h1.kept hg.1 (by simp) (by simp), h2⟩
theorem RangeM.kept {w w' : World} {b r n cnt : Nat} {f : Nat → Option Made} {left : Nat → Bool} {row : Option Nat} (h : RangeM w b r n f left cnt) (hg : w.grownBy w' row) (hb : some b ≠ row) (hr : some r ≠ row) : RangeM w' b r n f left cnt := by
  obtain ⟨D, lf, h1, h2⟩ := h
  exact ⟨D, lf, h1.kept hg hb hr, h2⟩
theorem MapM.range {w : World} {b n t : Nat} {f : Nat → Option Made} (h : MapM w b n f) (ht : Tryz.prog.underlying t = some (.map 3 59)) :
    ∃ w' cnt, (Instr.range t (.map (some b))).run Tryz.prog w = .ok (.pointer (some ⟨w.heap.size, 0, none⟩)) w' ∧ RangeM w' b w.heap.size n f (fun k => (f k).isSome) cnt ∧ Grew w w' ∧ w'.heap.size = w.heap.size + 1 ∧ cnt ≤ n := by
  obtain ⟨D, h, hh⟩ := h
  obtain ⟨w', hr, hrg, hg, hs⟩ := h.range intKey ht
  have hd : w.drawn ≤ w'.drawn := by
    obtain ⟨es, clock, hb, _⟩ := h
    have h2 := run_range_map (P := Tryz.prog) w t 3 59 b es clock ht hb
    rw [h2] at hr
    injection hr with _ hr
    subst hr
    exact Nat.le_refl _
  refine ⟨w', _, hr, ⟨D, _, hrg, hh, fun k hk => ?_, fun kl h => h⟩, ⟨hg, hd⟩, hs, h.size_le⟩
  show has D (.int .i64 (k : Int)) = (f k).isSome
  cases hf : f k with
  | none => exact (hh.1 k hk).1 hf
  | some m => exact ((hh.1 k hk).2 m hf).1
/-- The step. -/
theorem RangeM.next {w : World} {b r n cnt : Nat} {f : Nat → Option Made} {left : Nat → Bool} (h : RangeM w b r n f left cnt) (ty : TypeId) :
    (cnt = 0 ∧ (∀ k, k < 2 ^ 62 → left k = false) ∧ (Instr.next (.pointer (some ⟨r, 0, none⟩)) false ty).run Tryz.prog w = .ok (.tuple #[.bool false]) w) ∨
    ∃ (k : Nat) (m : Made) (w' : World) (cnt' : Nat), k < 2 ^ 62 ∧ left k = true ∧ f k = some m ∧ (Instr.next (.pointer (some ⟨r, 0, none⟩)) false ty).run Tryz.prog w = .ok (.tuple #[.bool true, .int .i64 (k : Int), madeV m]) w' ∧
      RangeM w' b r n f (fun q => left q && !(q == k)) cnt' ∧ cnt' < cnt ∧ GrewR w w' (some r) ∧ w'.heap.size = w.heap.size ∧ (Instr.entry (.pointer (some ⟨r, 0, none⟩))).run Tryz.prog w' = .ok (.tuple #[.int .i64 (k : Int), madeV m]) w' := by
  obtain ⟨D, lf, h1, hh, hl, hlD⟩ := h
  have hn := h1.next intKey ty
  have hdr : ∀ v w', (Instr.next (.pointer (some ⟨r, 0, none⟩)) false ty).run Tryz.prog w = .ok v w' → w.drawn ≤ w'.drawn := by
    obtain ⟨es, clock, since, seen, c0, hb, F, hs, hD, hr, hold, hc, _, _, hsc, _⟩ := h1
    intro v w' hrun
    rcases run_next_at (P := Tryz.prog) w ty r b since c0 seen es clock hr hb hold hsc with ⟨_, h2⟩ | ⟨e, _, w1, hw1, h2⟩
    · rw [h2] at hrun
      injection hrun with _ e
      subst e
      exact Nat.le_refl _
    · rw [h2] at hrun
      injection hrun with _ e
      subst e
      rcases hw1 with rfl | rfl
      · exact Nat.le_refl _
      · exact Nat.le_succ _
  rcases hn with ⟨h0, hlf, hrun⟩ | ⟨key, v, kl, y, w', cnt', hkey, hlk, hv, hat, hrun, hrg, hlt, hgr, hsz, hen⟩
  · exact .inl ⟨h0, fun k hk => by rw [← hl k hk]; exact hlf _, hrun⟩
  · obtain ⟨k, hk, rfl⟩ := hh.2 kl (hlD kl hlk)
    have hkv : key = .int .i64 (k : Int) := intKey.inj hkey (key_nat hk)
    subst hkv
    obtain ⟨m, rfl, rfl⟩ := madeR_inv hv
    have hf : f k = some m := by
      cases hf : f k with
      | none => have := (hh.1 k hk).1 hf; rw [hlD _ hlk] at this; cases this
      | some m2 =>
        have h2 := ((hh.1 k hk).2 m2 hf).2 .nil
        rw [hat] at h2
        rw [madeD_inj h2]
    refine .inr ⟨k, m, w', cnt', hk, by rw [← hl k hk]; exact hlk, hf, hrun, ⟨D, _, hrg, hh, fun q hq => ?_, fun kl2 h2 => hlD kl2 ?_⟩, hlt, ⟨hgr, hdr _ _ hrun⟩, hsz, hen⟩
    · have e : Lit.sameKey (.int .i64 (q : Int)) (.int .i64 (k : Int)) = (q == k) := by
        by_cases hqk : q = k
        · subst hqk
          exact (WideAt.sameKey_self (show WideAt.IsKeyLit (.int .i64 (q : Int)) from trivial)).trans (by simp)
        · exact (sameKey_ne (fun e => hqk (Int.ofNat.inj (Lit.int.inj e).2))).trans (by simp [hqk])
      exact (congrArg (fun x => lf (.int .i64 (q : Int)) && !x) e).trans (by rw [hl q hq])
    · simp only [Bool.and_eq_true] at h2
      exact h2.1

theorem MapM.congr {w : World} {b n : Nat} {f g : Nat → Option Made} (h : MapM w b n f) (he : ∀ k, k < 2 ^ 62 → f k = g k) : MapM w b n g := by
  obtain ⟨D, h1, h2, h3⟩ := h
  exact ⟨D, h1, fun k hk => by rw [← he k hk]; exact h2 k hk, h3⟩
theorem next_list {ops : Array Oper} {rest : List Oper} {o : Oper} {a : Act} {w : World} {Q : Exit → Act → World → Prop} {b r n cnt : Nat} {f : Nat → Option Made} {left : Nat → Bool} (hg : o.guard = none) (it : Operand) (hop : o.op = Op.next it false)
    (hit : a.eval it = .pointer (some ⟨r, 0, none⟩)) (h : RangeM w b r n f left cnt)
    (hDone : cnt = 0 → (∀ k, k < 2 ^ 62 → left k = false) → wpList Tryz.prog ops Q rest (a.put o.dst (.tuple #[.bool false])) w)
    (hMore : ∀ (k : Nat) (m : Made) (w' : World) (cnt' : Nat), k < 2 ^ 62 → left k = true → f k = some m → RangeM w' b r n f (fun q => left q && !(q == k)) cnt' → cnt' < cnt → GrewR w w' (some r) → w'.heap.size = w.heap.size →
      (Instr.entry (.pointer (some ⟨r, 0, none⟩))).run Tryz.prog w' = .ok (.tuple #[.int .i64 (k : Int), .agg #[.int .i64 m.1, .int .i64 m.2.1, .int .i64 m.2.2.1, .int .i64 m.2.2.2.1, .int .i64 m.2.2.2.2]]) w' →
      wpList Tryz.prog ops Q rest (a.put o.dst (.tuple #[.bool true, .int .i64 (k : Int), .agg #[.int .i64 m.1, .int .i64 m.2.1, .int .i64 m.2.2.1, .int .i64 m.2.2.2.1, .int .i64 m.2.2.2.2]])) w') :
    wpList Tryz.prog ops Q (o :: rest) a w := by
  refine wpList_plain hg fun K' hK' => ?_
  unfold Oper.wp
  rcases h.next o.type with ⟨h0, hl, hrun⟩ | ⟨k, m, w', cnt', hk, hlk, hf, hrun, hrg, hlt, hgr, hsz, hen⟩
  · simp [execOp, hop, hit, hrun, Result.andThen]
    exact hK' _ _ (hDone h0 hl)
  · unfold madeV at hrun hen
    simp [execOp, hop, hit, hrun, Result.andThen]
    exact hK' _ _ (hMore k m w' cnt' hk hlk hf hrg hlt hgr hsz hen)
/-- What the map holds in the midst of the range. -/
def midF (dn f : Nat → Option Made) (left : Nat → Bool) : Nat → Option Made := fun s => if left s then dn s else (dn s).or (f s)
theorem mid_start (dn f : Nat → Option Made) : midF dn f (fun k => (f k).isSome) = dn := by
  funext s
  show (if (f s).isSome = true then dn s else (dn s).or (f s)) = dn s
  by_cases h : (f s).isSome = true
  · rw [if_pos h]
  · rw [if_neg h, show f s = none by simpa using h]
    simp
theorem mid_step {dn f : Nat → Option Made} {left : Nat → Bool} {k : Nat} {m : Made} (hl : left k = true) (hf : f k = some m) (hd : dn k = none) : midF dn f (fun q => left q && !(q == k)) = putF (midF dn f left) k m := by
  funext s
  unfold midF putF
  by_cases e : s = k
  · subst e
    simp [hd, hf]
  · have : (s == k) = false := by simp [e]
    simp [this, e]
theorem mid_end {dn f : Nat → Option Made} {left : Nat → Bool} (h : ∀ k, k < 2 ^ 62 → left k = false) : ∀ k, k < 2 ^ 62 → midF dn f left k = orF dn f k := by
  intro k hk
  unfold midF orF
  rw [h k hk]
  simp
/-! ### The rounds, plainly -/
theorem dn_mono {a : Au} {k s : Nat} {m : Made} (h : dnP a k s = some m) : dnP a (k + 1) s = some m := by
  show orF (dnP a k) _ s = _
  unfold orF
  rw [h]
  rfl
theorem dpt_dn {a : Au} {dn dn' : Nat → Option Made} (h : ∀ s m, dn s = some m → dn' s = some m) : ∀ D s, Dpt a dn D s → Dpt a dn' D s
  | 0, _, hd => hd.elim
  | D + 1, s, ⟨m, h1, h2, h3, h4⟩ => ⟨m, h s m h1, h2, h3, fun i hi => dpt_dn h D _ (h4 i hi)⟩
theorem dpt_suc {a : Au} {dn : Nat → Option Made} : ∀ D s, Dpt a dn D s → Dpt a dn (D + 1) s
  | 0, _, hd => hd.elim
  | D + 1, s, ⟨m, h1, h2, h3, h4⟩ => ⟨m, h1, h2, h3, fun i hi => dpt_suc D _ (h4 i hi)⟩
theorem way_ok {a : Au} (hok : a.ok = true) {dn : Nat → Option Made} {s : Nat} {m : Made} (h : wayP a dn s = some m) : m.1 < a.ranks.length ∧ m.2.ok ∧ there dn (a.rankAt m.1) m.2 = true := by
  obtain ⟨sym, hsym, h⟩ := List.exists_of_findSome?_eq_some h
  have hs := List.mem_range.1 hsym
  unfold way1 at h
  obtain ⟨k, hk, rfl⟩ := Option.map_eq_some_iff.1 h
  have h6 : ∀ q, ∀ l ∈ a.altsAt sym q, ∀ x ∈ l, x.2.toNat < 6 := fun q l hl x hx => by
    by_cases hq : q < a.moves.length
    · obtain ⟨_, _, hsy⟩ := au_sym hok hs
      obtain ⟨_, _, _, hall⟩ := hsy q hq
      have := ((hall l hl).2 x hx).2
      omega
    · exfalso
      unfold Au.altsAt at hl
      rw [show a.moves.getD q [] = [] by simp [List.getD, List.getElem?_eq_none (Nat.le_of_not_lt hq)]] at hl
      simp at hl
  obtain ⟨h1, h2⟩ := choose_ok h6 _ _ _ ⟨by decide, by decide, by decide, by decide⟩ hk
  exact ⟨hs, h1, h2⟩
theorem dn_dpt {a : Au} (hok : a.ok = true) : ∀ k s m, dnP a k s = some m → Dpt a (dnP a k) k s
  | 0, s, m, h => by cases h
  | k + 1, s, m, h => by
    have hst : dnP a (k + 1) s = (dnP a k s).or (foundP a (dnP a k) (2 ^ a.moves.length) s) := rfl
    cases hd : dnP a k s with
    | some m' => exact dpt_suc _ _ (dpt_dn (fun s m h => dn_mono h) _ _ (dn_dpt hok k s m' hd))
    | none =>
      rw [hst, hd, Option.none_or] at h
      obtain ⟨_, _, hw⟩ := found_none h
      obtain ⟨h1, h2, h3⟩ := way_ok hok hw
      refine ⟨m, by rw [hst, hd, Option.none_or]; exact h, h1, h2, fun i hi => ?_⟩
      have h5 := List.all_eq_true.1 h3 i (List.mem_range.2 hi)
      cases hd2 : dnP a k (m.2.get i) with
      | none => rw [hd2] at h5; cases h5
      | some m2 =>
        exact dpt_dn (fun s m h => dn_mono h) _ _ (dn_dpt hok k _ m2 hd2)
/-- How Some's rounds end. -/
def SomeK (a : Au) (K : Nat) : Prop := K ≤ 64 ∧ (∀ k, k < K → dnP a k (2 ^ a.start.toNat) = none ∧ ∃ s, s < 2 ^ a.moves.length ∧ (foundP a (dnP a k) (2 ^ a.moves.length) s).isSome = true) ∧
  ((dnP a K (2 ^ a.start.toNat)).isSome = true ∨ ∀ s, s < 2 ^ a.moves.length → foundP a (dnP a K) (2 ^ a.moves.length) s = none)
/-- What Some returns for a valid automaton. -/
def SomePost (a : Au) (w : World) (e : Ending) (w' : World) : Prop := ∃ K, SomeK a K ∧ Grew w w' ∧
  ((dnP a K (2 ^ a.start.toNat) = none ∧ e = .returned (.tuple #[.agg #[.int .i64 (-1), .slice none 0 0], .bool false, .int .i64 0])) ∨
   ((dnP a K (2 ^ a.start.toNat)).isSome = true ∧ 20000 < sizeTo K (treeP a (dnP a K) K (2 ^ a.start.toNat)) ∧ e = .returned (.tuple #[.agg #[.int .i64 0, .slice none 0 0], .bool false, .int .i64 3])) ∨
   ((dnP a K (2 ^ a.start.toNat)).isSome = true ∧ sizeTo K (treeP a (dnP a K) K (2 ^ a.start.toNat)) ≤ 20000 ∧ ∃ v, e = .returned (.tuple #[.agg #[.int .i64 (treeP a (dnP a K) K (2 ^ a.start.toNat)).label, v], .bool true, .int .i64 0]) ∧
     rdO (TrD K) w' (treeP a (dnP a K) K (2 ^ a.start.toNat)) [.int .i64 (treeP a (dnP a K) K (2 ^ a.start.toNat)).label, v]))
theorem found_sup {a : Au} {dn : Nat → Option Made} {n s : Nat} (h : n ≤ s) : foundP a dn n s = none := by
  unfold foundP
  rw [if_neg (by omega)]
end Go.Proofs.YtjpdmncafacmaaaGreatDoor
end
/- mix.Some. -/
section
set_option linter.unusedVariables false
set_option linter.unusedSimpArgs false
namespace Go.Proofs.YtjpdmncafacmaaaGreatDoor
open Go.RowKit

theorem check_at (a : Au) (w : World) (r m : Value) (hA : rdO AuR w a [r, .int .i64 a.start, m]) (q : Int) (hq : (if a.ok then (0 : Int) else 10) = q) : ∀ wx, Grew w wx → Calls Tryz.prog 31 #[.agg #[r, .int .i64 a.start, m]] wx (RetD wx (.int .i64 q)) := by
  intro wx h
  rw [← hq]
  exact acheck_calls a wx r m (rdO_frm moves_au h.1 hA)
set_option maxRecDepth 100000 in
set_option maxHeartbeats 1000000 in
theorem some_bad (a : Au) (hok : a.ok = false) (w : World) (r m : Value) (hA : rdO AuR w a [r, .int .i64 a.start, m]) :
    Calls Tryz.prog 9 #[.agg #[r, .int .i64 a.start, m]] w fun e w' => e = .returned (.tuple #[.agg #[.int .i64 0, .slice none 0 0], .bool false, .int .i64 10]) ∧ Grew w w' := by
  obtain ⟨hR, hMv, hs1, hs2⟩ := AuR.parts hA
  obtain ⟨A, c, rfl, hc, hlm⟩ := hR.val
  obtain ⟨B, d, rfl, hd, hlm2⟩ := hMv.val
  have HC := Lib.hid (check_at a w _ _ hA 10 (by rw [hok]; rfl))
  obtain ⟨w3, hw3⟩ : ∃ w3, w3 = ((w.alloc (.cells #[.slice A a.ranks.length c, .int .i64 a.start, .slice B a.moves.length d] 25)).alloc (.cells #[.int .i64 0, .slice none 0 0] 29)).alloc (.cells #[.int .i64 (-1), .slice none 0 0] 29) := ⟨_, rfl⟩
  have hG3 : Grew w w3 := by rw [hw3]; exact grew_then_alloc (grew_then_alloc (grew_alloc _ _) _) _
  have xa : ThreeAt w3 w.heap.size (.slice A a.ranks.length c) (.int .i64 a.start) (.slice B a.moves.length d) 25 := by
    rw [hw3]; exact ((ThreeAt.new w _ _ _ _).frm (frm_alloc _ _)).frm (frm_alloc _ _)
  have xz : TwoAt w3 (w.heap.size + 1) (.int .i64 0) (.slice none 0 0) 29 := by
    have h := TwoAt.new (w.alloc (.cells #[.slice A a.ranks.length c, .int .i64 a.start, .slice B a.moves.length d] 25)) (.int .i64 0) (.slice none 0 0) 29
    rw [World.size_alloc] at h
    rw [hw3]; exact h.frm (frm_alloc _ _)
  rw [hw3] at xa
  have HW3 := Lib.hid hw3
  obtain ⟨xa0, xa1, xa2⟩ := xa.cells
  clear hw3 hR hMv
  go_enter Tryz.func9, Tryz.ntmps9
  go_wp2_with fail
  rw [← HW3.out]
  refine (HC.out _ hG3).mono ?_
  rintro e w4 ⟨rfl, hf4⟩
  obtain ⟨xz0, xz1, zf0, zf1⟩ := (xz.frm hf4.1).cells
  have hG4 := grew_trans hG3 hf4
  dsimp only
  go_wp2_with fail
  refine bodyPost_ret (v := .tuple #[.agg #[.int .i64 0, .slice none 0 0], .bool false, .int .i64 10]) (by simp [results, Tryz.results9, go_sem, xz0, xz1, zf0, zf1]) rfl ⟨rfl, ?_⟩
  first | exact hG4 | exact grew_set_new (grew_set_new hG4 (by omega) _ _) (by omega) _ _
theorem FinAt.new (w : World) (r : Value) (st : Int) (m : Value) (mb : Nat) : FinAt (w.alloc (.cells #[r, .int .i64 st, m, .map (some mb)] 56)) w.heap.size r st m mb := by
  show (w.heap.push _)[w.heap.size]? = _
  simp
/-- What Some holds between its rounds. -/
structure SW (a : Au) (w : World) (r m : Value) (fb mb nb k : Nat) (wr : World) : Prop where
  grew : Grew w wr
  fin : FinAt wr fb r a.start m mb
  map : MapM wr mb nb (dnP a k)
  box : ThreeAt wr w.heap.size r (.int .i64 a.start) m 25
  res : TwoAt wr (w.heap.size + 1) (.int .i64 0) (.slice none 0 0) 29
  non : TwoAt wr (w.heap.size + 2) (.int .i64 (-1)) (.slice none 0 0) 29
theorem SW.step {a : Au} {w : World} {r m : Value} {fb mb nb k : Nat} {wr w' : World} (h : SW a w r m fb mb nb k wr) (hf : Grew wr w') : SW a w r m fb mb nb k w' :=
  ⟨grew_trans h.grew hf, h.fin.grew hf, h.map.grew hf, h.box.frm hf.1, h.res.frm hf.1, h.non.frm hf.1⟩
set_option maxRecDepth 100000 in
set_option maxHeartbeats 2000000 in
theorem some_calls (a : Au) (hok : a.ok = true) (w : World) (r m : Value) (hT : Tab w) (hA : rdO AuR w a [r, .int .i64 a.start, m]) :
    Calls Tryz.prog 9 #[.agg #[r, .int .i64 a.start, m]] w (SomePost a w) := by
  obtain ⟨hR, hMv, hs1, hs2⟩ := AuR.parts hA
  obtain ⟨A, c, rfl, hc, hlm⟩ := hR.val
  obtain ⟨B, d, rfl, hd, hlm2⟩ := hMv.val
  obtain ⟨_, _, hn6, hst0, hst1, _⟩ := ok_parts hok
  have HC := Lib.hid (check_at a w _ _ hA 0 (by rw [hok]; rfl))
  have hsh := (shl_i64 a.start.toNat (by omega)).1
  have hs64 := (shl_i64 a.start.toNat (by omega)).2
  have hsn : IntKind.i64.wrap ((2 : Int) ^ a.moves.length) = ((2 ^ a.moves.length : Nat) : Int) := (show ∀ s, s ≤ 6 → IntKind.i64.wrap ((2 : Int) ^ s) = ((2 ^ s : Nat) : Int) by decide) _ hn6
  have hn64 : 2 ^ a.moves.length ≤ 64 := Nat.pow_le_pow_right (n := 2) (by omega) hn6
  have hs0n : 2 ^ a.start.toNat < 2 ^ a.moves.length := Nat.pow_lt_pow_right (by omega) hst1
  have hst64 : a.start ≤ 64 := by omega
  obtain ⟨w3, hw3⟩ : ∃ w3, w3 = ((w.alloc (.cells #[.slice A a.ranks.length c, .int .i64 a.start, .slice B a.moves.length d] 25)).alloc (.cells #[.int .i64 0, .slice none 0 0] 29)).alloc (.cells #[.int .i64 (-1), .slice none 0 0] 29) := ⟨_, rfl⟩
  have hG3 : Grew w w3 := by rw [hw3]; exact grew_then_alloc (grew_then_alloc (grew_alloc _ _) _) _
  have xa : ThreeAt w3 w.heap.size (.slice A a.ranks.length c) (.int .i64 a.start) (.slice B a.moves.length d) 25 := by
    rw [hw3]; exact ((ThreeAt.new w _ _ _ _).frm (frm_alloc _ _)).frm (frm_alloc _ _)
  have xz : TwoAt w3 (w.heap.size + 1) (.int .i64 0) (.slice none 0 0) 29 := by
    have h := TwoAt.new (w.alloc (.cells #[.slice A a.ranks.length c, .int .i64 a.start, .slice B a.moves.length d] 25)) (.int .i64 0) (.slice none 0 0) 29
    rw [World.size_alloc] at h
    rw [hw3]; exact h.frm (frm_alloc _ _)
  have xn : TwoAt w3 (w.heap.size + 2) (.int .i64 (-1)) (.slice none 0 0) 29 := by
    have h := TwoAt.new ((w.alloc (.cells #[.slice A a.ranks.length c, .int .i64 a.start, .slice B a.moves.length d] 25)).alloc (.cells #[.int .i64 0, .slice none 0 0] 29)) (.int .i64 (-1)) (.slice none 0 0) 29
    rw [World.size_alloc, World.size_alloc] at h
    rw [hw3]; exact h
  have xa' := xa
  rw [hw3] at xa'
  obtain ⟨xa0, xa1, xa2⟩ := xa'.cells
  have HW3 := Lib.hid hw3
  have HA := Lib.hid hA
  have HT := Lib.hid hT
  have HOK := Lib.hid hok
  obtain ⟨s0, hs0⟩ : ∃ s0, s0 = 2 ^ a.start.toNat := ⟨_, rfl⟩
  obtain ⟨nn, hnn⟩ : ∃ nn, nn = 2 ^ a.moves.length := ⟨_, rfl⟩
  rw [← hs0] at hsh hs64 hs0n
  rw [← hnn] at hsn hn64 hs0n
  have HS0 := Lib.hid hs0
  have HNN := Lib.hid hnn
  clear hw3 hR hMv hA hT hok hs0 hnn
  go_enter Tryz.func9, Tryz.ntmps9
  go_wp2_with fail
  rw [← HW3.out]
  refine (HC.out _ hG3).mono ?_
  rintro e w4 ⟨rfl, hf4⟩
  have hG4 := grew_trans hG3 hf4
  have xa4 := xa.frm hf4.1
  have xz4 := xz.frm hf4.1
  have xn4 := xn.frm hf4.1
  clear xa0 xa1 xa2
  obtain ⟨xa0, xa1, xa2⟩ := xa4.cells
  have hl4 := xn4.lt
  have hmm := @run_makeMap Tryz.prog
  dsimp only
  obtain ⟨w6, hw6⟩ : ∃ w6, w6 = (w4.alloc (.map #[] 0)).alloc (.cells #[.slice A a.ranks.length c, .int .i64 a.start, .slice B a.moves.length d, .map (some w4.heap.size)] 56) := ⟨_, rfl⟩
  have hG46 : Grew w4 w6 := by rw [hw6]; exact grew_then_alloc (grew_alloc _ _) _
  have hSW : Hid (SW a w (.slice A a.ranks.length c) (.slice B a.moves.length d) (w4.heap.size + 1) w4.heap.size 0 0 w6) := by
    refine ⟨grew_trans hG4 hG46, ?_, ?_, xa4.frm hG46.1, xz4.frm hG46.1, xn4.frm hG46.1⟩
    · have h := FinAt.new (w4.alloc (.map #[] 0)) (.slice A a.ranks.length c) a.start (.slice B a.moves.length d) w4.heap.size
      rw [World.size_alloc] at h
      rw [hw6]; exact h
    · rw [hw6]; exact (MapM.made w4).grew (grew_alloc _ _)
  have HW6 := Lib.hid hw6
  clear hw6
  go_wp2_with fail
  rw [← HW6.out]
  clear HW6 hG46 xa4 xz4 xn4 xa0 xa1 xa2 xa xz xn hf4 hmm
  generalize w4.heap.size = mb at *
  go_loopg [9] nn (fun gk s9 wr => ∃ k nb : Nat, gk + cntF (dnP a k) nn = nn ∧ k ≤ cntF (dnP a k) nn ∧ nb ≤ 64 * k ∧ Hid (∀ j, j < k → dnP a j s0 = none ∧ ∃ s, s < nn ∧ (foundP a (dnP a j) nn s).isSome = true) ∧ Hid (SW a w (.slice A a.ranks.length c) (.slice B a.moves.length d) (mb + 1) mb nb k wr))
  case atStart =>
    refine ⟨0, 0, ?_, Nat.zero_le _, Nat.le_refl _, fun j hj => absurd hj (Nat.not_lt_zero _), hSW.out⟩
    have : cntF (dnP a 0) nn = 0 := by
      unfold cntF
      rw [List.length_eq_zero_iff, List.filter_eq_nil_iff]
      intro s _
      simp [dnP]
    omega
  case round =>
    obtain ⟨k, nb, hgk, hkc, hnb, HPREV, HSW⟩ := hrel
    have hk64 : k ≤ 64 := by have := cnt_le (dnP a k) nn; omega
    have hsw := HSW.out
    obtain ⟨cf0, cf1, cf2, cf3⟩ := hsw.fin.cells
    obtain ⟨xa0, xa1, xa2⟩ := hsw.box.cells
    have hbm := hsw.map.lt
    have hbf := hsw.fin.lt
    have hl0 : (Instr.lookup 54 (.map (some mb)) (.int .i64 (s0 : Int)) true).run Tryz.prog wr.drew = .ok (.tuple #[madeV ((dnP a k s0).getD noMade), .bool (dnP a k s0).isSome]) wr.drew :=
      (MapM.look rfl (hsw.map.grew (grew_drew _)) Tryz.underlying54 (zero_made _) (by omega)).1
    have hl1 : (Instr.lookup 54 (.map (some mb)) (.int .i64 (s0 : Int)) true).run Tryz.prog (wr.alloc (.cells #[.int .i64 0, .int .i64 0, .int .i64 0, .int .i64 0, .int .i64 0] 59)).drew = .ok (.tuple #[madeV ((dnP a k s0).getD noMade), .bool (dnP a k s0).isSome]) (wr.alloc (.cells #[.int .i64 0, .int .i64 0, .int .i64 0, .int .i64 0, .int .i64 0] 59)).drew :=
      (MapM.look rfl (hsw.map.grew (grew_trans (grew_alloc _ _) (grew_drew _))) Tryz.underlying54 (zero_made _) (by omega)).1
    unfold madeV at hl0 hl1
    have HKA : Hid (∀ (wx : World) (o : Obj), (Grew wr wx ∧ wx.cell? ⟨mb + 1, 3, none⟩ = some (.map (some mb)) ∧ wx.cell? ⟨w.heap.size, 1, none⟩ = some (.int .i64 a.start)) → (Grew wr (wx.alloc o) ∧ (wx.alloc o).cell? ⟨mb + 1, 3, none⟩ = some (.map (some mb)) ∧ (wx.alloc o).cell? ⟨w.heap.size, 1, none⟩ = some (.int .i64 a.start))) := fun wx o h => ⟨grew_then_alloc h.1 _, frm_cell (frm_alloc _ _) h.2.1, frm_cell (frm_alloc _ _) h.2.2⟩
    have HK0 : Hid (Grew wr wr.drew ∧ wr.drew.cell? ⟨mb + 1, 3, none⟩ = some (.map (some mb)) ∧ wr.drew.cell? ⟨w.heap.size, 1, none⟩ = some (.int .i64 a.start)) := ⟨grew_drew _, cf3, xa1⟩
    have HKN : Hid (∀ o : Obj, (Grew wr (wr.alloc o).drew ∧ (wr.alloc o).drew.cell? ⟨mb + 1, 3, none⟩ = some (.map (some mb)) ∧ (wr.alloc o).drew.cell? ⟨w.heap.size, 1, none⟩ = some (.int .i64 a.start))) := fun o => ⟨grew_trans (grew_alloc _ _) (grew_drew _), frm_cell (frm_alloc _ _) cf3, frm_cell (frm_alloc _ _) xa1⟩
    generalize (dnP a k s0).getD noMade = mv at *
    obtain ⟨ds, hds⟩ : ∃ ds, ds = (dnP a k s0).isSome := ⟨_, rfl⟩
    rw [← hds] at hl0 hl1
    have HDS := Lib.hid hds
    clear hds
    go_wp2_with fail
    go_cut [8, 9] from 33 to 90 (fun s8 s9 wx => s9 = .bool ds ∧ Grew wr wx)
    case first =>
      go_region_held3 (fun wx => Grew wr wx ∧ wx.cell? ⟨mb + 1, 3, none⟩ = some (.map (some mb)) ∧ wx.cell? ⟨w.heap.size, 1, none⟩ = some (.int .i64 a.start)) (first | exact HK0.out | exact HKN.out _ | exact HKA.out _ _ (by assumption)) ((fail))
      all_goals
        go_wp2_with fail
        go_meet
        case rel => exact ⟨rfl, grew_trans (grew_alloc _ _) (grew_drew _)⟩
    case rest =>
      obtain ⟨rfl, hcg⟩ := hcut
      have HSWC := Lib.hid (hsw.step hcg)
      have hszc := hcg.1.size
      clear cf0 cf1 cf2 cf3 xa0 xa1 xa2 hl0 hl1
      cases hb : ds with
      | true =>
        subst hb
        have hs' := HSWC.out
        obtain ⟨wl, hwl⟩ : ∃ wl, wl = wc.alloc (.cells #[.int .i64 20000] 3) := ⟨_, rfl⟩
        have hgl : Grew wc wl := by rw [hwl]; exact grew_alloc _ _
        have hOl : OneAt wl wc.heap.size (.int .i64 ((20000 : Nat) : Int)) 3 := by rw [hwl]; exact OneAt.new wc _ _
        have hpre : TreePre a (dnP a k) (mb + 1) mb nb wc.heap.size (.slice A a.ranks.length c) (.slice B a.moves.length d) wl := by
          refine ⟨hs'.fin.grew hgl, hs'.map.grew hgl, ?_, by omega, by omega⟩
          exact moves_au _ _ _ _ _ _ (fun b hb => ⟨by have := hs'.grew.1.size; have := hgl.1.size; omega, by have := hs'.grew.1.size; omega⟩) (frm_lt (grew_trans hs'.grew hgl).1) HA.out
        have hdp : Dpt a (dnP a k) k s0 := by
          have h1 := HDS.out
          cases hd1 : dnP a k s0 with
          | none => rw [hd1] at h1; cases h1
          | some m1 => exact dn_dpt HOK.out k s0 m1 hd1
        have hTC := tree_calls a HOK.out (dnP a k) (mb + 1) mb nb wc.heap.size _ _ k s0 hs64 hdp wl 20000 hOl (Nat.le_refl _) hpre
        have HTC := Lib.hid hTC
        obtain ⟨xa0, xa1, xa2⟩ := (hs'.box.frm hgl.1).cells
        have HWL := Lib.hid hwl
        rw [hwl] at xa0 xa1 xa2
        have HGL := Lib.hid hgl
        have hgsz := hgl.1.size
        have hwsz := hs'.grew.1.size
        have hKs : Hid (SomeK a k) := by
          unfold Hid SomeK
          rw [← HS0.out, ← HNN.out]
          exact ⟨hk64, HPREV.out, .inl HDS.out.symm⟩
        have HST : Hid ((dnP a k s0).isSome = true) := HDS.out.symm
        clear hTC hpre hdp hOl hwl hgl
        go_wp2_with fail
        rw [← HWL.out]
        refine HTC.out.mono ?_
        rintro e w5 ⟨lb, A5, n5, c5, rfl, hG5, hcase⟩
        have hGw5 : Grew w w5 := grew_trans hs'.grew ⟨frm_new HGL.out.1 (Nat.le_refl _) hG5.1, Nat.le_trans HGL.out.2 hG5.2⟩
        have hGc5 : Grew wc w5 := ⟨frm_new HGL.out.1 (Nat.le_refl _) hG5.1, Nat.le_trans HGL.out.2 hG5.2⟩
        have hx6 := hs'.res.frm (grew_then_alloc hGc5 (.cells #[.int .i64 lb, .slice A5 n5 c5] 29)).1
        obtain ⟨xz0, xz1, zf0, zf1⟩ := hx6.cells
        obtain ⟨y0, y1, _, _⟩ := (TwoAt.new w5 (.int .i64 lb) (.slice A5 n5 c5) 29).cells
        clear xa0 xa1 xa2
        dsimp only
        generalize hTE : treeP a (dnP a k) k s0 = tr at *
        have HTE := Lib.hid hTE
        clear hTE
        rcases hcase with ⟨q1, q2, q3⟩ | ⟨q1, q2⟩
        · have HQ3 := Lib.hid q3
          have hlv := (q2.alloc (.cells #[.int .i64 lb, .slice A5 n5 c5] 29)).cell
          have hneg : ¬ (((20000 : Nat) : Int) - sizeTo k tr < 0) := by omega
          have hlbl : Hid (lb = tr.label) := by
            unfold Hid
            cases k with
            | zero => exact q3.elim
            | succ k' =>
              obtain ⟨u, h, _⟩ := q3
              simp only [List.cons.injEq, and_true] at h
              have := h.1
              injection this
          rw [show (((20000 : Nat) : Int)) = (20000 : Int) from rfl] at hlv hneg
          have HSZ : Hid (Calls Tryz.prog 34 #[.agg #[.int .i64 lb, .slice A5 n5 c5]] (w5.alloc (.cells #[.int .i64 lb, .slice A5 n5 c5] 29)) fun e w' => e = .returned (.tuple #[.int .i64 (sizeTo k tr), .int .i64 (depthTo k tr)]) ∧ Grew (w5.alloc (.cells #[.int .i64 lb, .slice A5 n5 c5] 29)) w') := by
            unfold Hid
            rw [hlbl.out]
            refine size_calls k (by omega) tr _ _ q1 ?_
            rw [hlbl.out] at q3
            exact moves_tr k _ _ _ _ _ _ (fun b hb => by simp; omega) (fun b hb => Below.heap_alloc _ _ _ hb.2) q3
          have hd200 : ¬ ((200 : Int) < depthTo k tr) := by have := depthTo_le k tr; omega
          clear q3 q2
          generalize depthTo k tr = dp at *
          generalize hse : sizeTo k tr = sz at *
          have HSE := Lib.hid hse
          clear hse
          go_wp2_with fail
          refine HSZ.out.mono ?_
          rintro e w7 ⟨rfl, hf7⟩
          obtain ⟨xz0, xz1, zf0, zf1⟩ := (hx6.frm hf7.1).cells
          have hy7 := (TwoAt.new w5 (.int .i64 lb) (.slice A5 n5 c5) 29).frm hf7.1
          obtain ⟨y0, y1, _, _⟩ := hy7.cells
          have hGw7 := grew_trans (grew_then_alloc hGw5 (.cells #[.int .i64 lb, .slice A5 n5 c5] 29)) hf7
          have hs7 := hf7.1.size
          have hG57 : Grew w5 w7 := grew_trans (grew_alloc _ _) hf7
          clear hlv hneg
          dsimp only
          go_wp2_with fail
          refine bodyPost_ret (v := .tuple #[.agg #[.int .i64 lb, .slice A5 n5 c5], .bool true, .int .i64 0]) (by simp [results, Tryz.results9, go_sem, xz0, xz1, zf0, zf1]) rfl ⟨k, hKs.out, ?_, ?_⟩
          · exact grew_set_new (grew_set_new hGw7 (by omega) _ _) (by omega) _ _
          · rw [← HS0.out, HTE.out]
            refine .inr (.inr ⟨HST.out, by rw [HSE.out]; exact q1, _, by rw [← hlbl.out], ?_⟩)
            rw [← hlbl.out]
            have hG5s := hG57.1.size
            refine moves_tr k _ _ _ _ _ _ (fun b hb => by simp; omega) (fun b hb => ?_) HQ3.out
            rw [Below.heap_setCell _ _ _ _ (by show b ≠ w.heap.size + 1; omega), Below.heap_setCell _ _ _ _ (by show b ≠ w.heap.size + 1; omega)]
            exact frm_lt hG57.1 b hb.2
        · have hlv := (q2.alloc (.cells #[.int .i64 lb, .slice A5 n5 c5] 29)).cell
          clear q2
          go_wp2_with fail
          refine bodyPost_ret (v := .tuple #[.agg #[.int .i64 0, .slice none 0 0], .bool false, .int .i64 3]) (by simp [results, Tryz.results9, go_sem, xz0, xz1, zf0, zf1]) rfl ⟨k, hKs.out, ?_, ?_⟩
          · first | exact grew_then_alloc hGw5 _ | exact grew_set_new (grew_set_new (grew_then_alloc hGw5 _) (by omega) _ _) (by omega) _ _
          · rw [← HS0.out, HTE.out]
            exact .inr (.inl ⟨HST.out, q1, rfl⟩)
      | false =>
        subst hb
        have hs' := HSWC.out
        obtain ⟨wd, hwd⟩ : ∃ wd, wd = wc.alloc (.map #[] 0) := ⟨_, rfl⟩
        have hgd : Grew wc wd := by rw [hwd]; exact grew_alloc _ _
        have hmd : MapM wd wc.heap.size 0 (fun _ => none) := by rw [hwd]; exact MapM.made wc
        have HMD := Lib.hid hmd
        have HWD := Lib.hid hwd
        have HGD := Lib.hid hgd
        obtain ⟨xa0, xa1, xa2⟩ := (hs'.box.frm hgd.1).cells
        have hmm := @run_makeMap Tryz.prog
        have hwsz := hs'.grew.1.size
        have hsdz := hgd.1.size
        have hfmd := hmd.lt
        have hmbc := hs'.map.lt
        have hfbc := hs'.fin.lt
        rw [hwd] at xa0 xa1 xa2
        clear hwd hmd hgd
        go_wp2_with fail
        rw [← HWD.out]
        clear xa0 xa1 xa2
        generalize hfm : wc.heap.size = fm at *
        go_loopw [50] (fun i wq => ∃ j : Nat, j ≤ nn ∧ i = .int .i64 j ∧ Hid (MapM wq fm j (foundP a (dnP a k) j)) ∧ Grew wc wq) (fun i _ => nn - (intOf i).toNat)
        case atStart =>
          refine ⟨0, Nat.zero_le _, rfl, ?_, HGD.out⟩
          have : foundP a (dnP a k) 0 = fun _ => none := by
            funext s
            exact found_sup (Nat.zero_le _)
          rw [this]
          exact HMD.out
        case round =>
          obtain ⟨j, hj, rfl, hFM, hcq⟩ := hrel
          have hsq := HSWC.out.step hcq
          obtain ⟨cf0, cf1, cf2, cf3⟩ := hsq.fin.cells
          by_cases hlt : j < nn
          · have hl0 : (Instr.lookup 54 (.map (some mb)) (.int .i64 (j : Int)) true).run Tryz.prog wr = .ok (.tuple #[madeV ((dnP a k j).getD noMade), .bool (dnP a k j).isSome]) wr :=
              (MapM.look rfl hsq.map Tryz.underlying54 (zero_made _) (by omega)).1
            unfold madeV at hl0
            have HFS := Lib.hid (found_succ a (dnP a k) j)
            generalize (dnP a k j).getD noMade = mj at *
            obtain ⟨dj, hdj⟩ : ∃ dj, dj = (dnP a k j).isSome := ⟨_, rfl⟩
            rw [← hdj] at hl0
            have HDJ := Lib.hid hdj
            clear hdj
            cases hbj : dj with
            | true =>
              subst hbj
              have hF2 : Hid (foundP a (dnP a k) (j + 1) = foundP a (dnP a k) j) := by
                unfold Hid
                rw [HFS.out, if_pos HDJ.out.symm]
              go_wp2_with fail
              exact ⟨⟨j + 1, by omega, by go_num, by rw [hF2.out]; exact (hFM.out.grew (grew_alloc _ _)).mono (by omega), grew_then_alloc hcq _⟩, by simp [intOf]; omega⟩
            | false =>
              subst hbj
              have hal : Grew wr (wr.alloc (.cells #[.int .i64 mj.1, .int .i64 mj.2.1, .int .i64 mj.2.2.1, .int .i64 mj.2.2.2.1, .int .i64 mj.2.2.2.2] 59)) := grew_alloc _ _
              have hWY := way_calls a HOK.out (dnP a k) (mb + 1) mb nb _ _ j (by rw [← HNN.out]; exact hlt) _ (HT.out.grew (grew_trans hsq.grew hal)) (hsq.fin.grew hal) (hsq.map.grew hal) (rdO_frm moves_au (grew_trans hsq.grew hal).1 HA.out)
              obtain ⟨mw, hmw⟩ : ∃ mw, mw = (wayP a (dnP a k) j).getD noMade := ⟨_, rfl⟩
              obtain ⟨bw, hbw⟩ : ∃ bw, bw = (wayP a (dnP a k) j).isSome := ⟨_, rfl⟩
              rw [← hmw, ← hbw, show madeV mw = Value.agg #[.int .i64 mw.1, .int .i64 mw.2.1, .int .i64 mw.2.2.1, .int .i64 mw.2.2.2.1, .int .i64 mw.2.2.2.2] from rfl] at hWY
              have HWY := Lib.hid hWY
              have HMW := Lib.hid hmw
              have HBW := Lib.hid hbw
              clear hmw hbw hWY
              go_wp2_with fail
              refine HWY.out.mono ?_
              rintro e w5 ⟨rfl, hf5⟩
              have hf05 := grew_trans hal hf5
              have hf06 := grew_then_alloc hf05 (.cells #[.int .i64 mw.1, .int .i64 mw.2.1, .int .i64 mw.2.2.1, .int .i64 mw.2.2.2.1, .int .i64 mw.2.2.2.2] 59)
              obtain ⟨y0, y1, y2, y3, y4⟩ := (FiveAt.new w5 mw).cells
              dsimp only
              cases hbb : bw with
              | false =>
                subst hbb
                have hF2 : Hid (foundP a (dnP a k) (j + 1) = foundP a (dnP a k) j) := by
                  unfold Hid
                  rw [HFS.out, if_neg (by rw [← HDJ.out]; simp)]
                  have h1 := HBW.out
                  cases hw : wayP a (dnP a k) j with
                  | none => rfl
                  | some m9 => rw [hw] at h1; cases h1
                go_wp2_with fail
                exact ⟨⟨j + 1, by omega, by go_num, by rw [hF2.out]; exact (hFM.out.grew hf06).mono (by omega), grew_trans hcq hf06⟩, by simp [intOf]; omega⟩
              | true =>
                subst hbb
                have hF2 : Hid (foundP a (dnP a k) (j + 1) = putF (foundP a (dnP a k) j) j mw) := by
                  unfold Hid
                  rw [HFS.out, if_neg (by rw [← HDJ.out]; simp)]
                  have h1 := HBW.out
                  have h2 := HMW.out
                  cases hw : wayP a (dnP a k) j with
                  | none => rw [hw] at h1; cases h1
                  | some m9 => rw [hw] at h2; rw [h2]; rfl
                obtain ⟨w7, hrun7, hM7, hg7, hd7⟩ := (hFM.out.grew hf06).store Tryz.underlying54 (show j < maxLen by unfold maxLen; omega) (show j < 2 ^ 62 by omega) mw
                rw [← hF2.out] at hM7
                have HM7 := Lib.hid hM7
                have hG7 : Grew wc w7 := ⟨frm_new (grew_trans hcq hf06).1 (by omega) hg7, by rw [hd7]; exact (grew_trans hcq hf06).2⟩
                repeat ((fail_if_success at_mapUpdate); first | go_values | go_skip | go_guarded | go_step | go_upon)
                refine mapUpdate_list _ _ _ rfl rfl rfl rfl rfl hrun7 ?_
                clear hM7 hg7 hrun7
                go_wp2_with fail
                exact ⟨⟨j + 1, by omega, by go_num, HM7.out, hG7⟩, by simp [intOf]; omega⟩
          · obtain rfl : j = nn := by omega
            obtain ⟨sz, hszn, hlen0, hsz0⟩ := hFM.out.size_pos
            have hlen := fun ty => hlen0 Tryz.underlying54 ty
            obtain ⟨xn0, xn1, _, _⟩ := hsq.non.cells
            obtain ⟨xz0, xz1, zf0, zf1⟩ := hsq.res.cells
            have HFK : Hid (∀ q, q < 2 ^ 62 → j ≤ q → foundP a (dnP a k) j q = none) := fun q _ hq => found_sup hq
            by_cases h0 : sz = 0
            · have hz : ((sz : Int) == 0) = true := by rw [beq_iff_eq]; omega
              have HNO := Lib.hid (hsz0.1 h0)
              have HSZ0 := Lib.hid hsz0
              clear hsz0 hlen0
              go_wp2_with fail
              refine bodyPost_ret (v := .tuple #[.agg #[.int .i64 (-1), .slice none 0 0], .bool false, .int .i64 0]) (by simp [results, Tryz.results9, go_sem, xz0, xz1, zf0, zf1]) rfl ⟨k, ?_, ?_, ?_⟩
              · unfold SomeK
                rw [← HS0.out, ← HNN.out]
                exact ⟨hk64, HPREV.out, .inr fun s hs => HNO.out s (by omega)⟩
              · first | exact hsq.grew | exact grew_set_new (grew_set_new hsq.grew (by omega) _ _) (by omega) _ _
              · rw [← HS0.out]
                refine .inl ⟨?_, rfl⟩
                cases hd1 : dnP a k s0 with
                | none => rfl
                | some m1 => have h1 := HDS.out; rw [hd1] at h1; cases h1
            · have hz : ((sz : Int) == 0) = false := by rw [beq_eq_false_iff_ne]; omega
              have HMORE : Hid (∃ s, s < j ∧ (foundP a (dnP a k) j s).isSome = true) := by
                unfold Hid
                apply Classical.byContradiction
                intro hno
                apply h0
                rw [hsz0]
                intro q hq
                cases hf : foundP a (dnP a k) j q with
                | none => rfl
                | some m9 => exact absurd ⟨q, (found_none hf).2.1, by rw [hf]; rfl⟩ hno
              obtain ⟨we, cnt, hrunR, hRM, hgR, hszR, hcn⟩ := hFM.out.range Tryz.underlying54
              have HRM := Lib.hid hRM
              have HSQ := Lib.hid hsq
              have HSZ0 := Lib.hid hsz0
              clear hsz0 hlen0 hRM hsq xn0 xn1 xz0 xz1 zf0 zf1 cf0 cf1 cf2 cf3
              go_wp2_with fail
              clear hlen hrunR
              obtain ⟨wv, hwv⟩ : ∃ wv : World, wv = wr := ⟨_, rfl⟩
              subst hwv
              generalize hrb : wv.heap.size = rb at *
              have hmbv := HSQ.out.map.lt
              have hfbv := HSQ.out.fin.lt
              have hfmv := hFM.out.lt
              go_loopg [16] cnt (fun gq s16 wx => ∃ (left : Nat → Bool) (nb2 : Nat), nb2 + gq ≤ nb + cnt ∧ Hid (RangeM wx fm rb j (foundP a (dnP a k) j) left gq) ∧ Hid (MapM wx mb nb2 (midF (dnP a k) (foundP a (dnP a k) j) left)) ∧ GrewR wv wx (some mb))
              case atStart =>
                refine ⟨fun q => (foundP a (dnP a k) j q).isSome, nb, Nat.le_refl _, HRM.out, ?_, grewR_weak hgR⟩
                rw [mid_start]
                exact HSQ.out.map.grew hgR
              case round =>
                obtain ⟨left, nb2, hnb2, hRx, hMx, hgx⟩ := hrel
                repeat ((fail_if_success at_next); first | go_values | go_skip | go_guarded | go_step | go_upon)
                refine next_list rfl _ rfl rfl hRx.out ?_ ?_
                · intro hc0 hl0
                  go_frame
                  have hsz9 := hgx.1.size
                  have hmv : ∀ q, q < wv.heap.size → q ≠ mb → wr.heap[q]? = wv.heap[q]? := fun q hq hne => hgx.1.block q hq (by intro e; injection e with e; exact hne e)
                  have hcs : cntF (dnP a k) j + 1 ≤ cntF (dnP a (k + 1)) j := by
                    obtain ⟨s, hs, hf⟩ := HMORE.out
                    cases hfs : foundP a (dnP a k) j s with
                    | none => rw [hfs] at hf; cases hf
                    | some m9 =>
                      refine cnt_lt hs (found_none hfs).1 ?_ (fun q hq => ?_)
                      · have : dnP a (k + 1) s = (dnP a k s).or (foundP a (dnP a k) (2 ^ a.moves.length) s) := rfl
                        rw [this, (found_none hfs).1, ← HNN.out, hfs]
                        rfl
                      · cases hd9 : dnP a k q with
                        | none => rw [hd9] at hq; cases hq
                        | some m8 => rw [dn_mono hd9]; rfl
                  have HSW2 : Hid (SW a w (.slice A a.ranks.length c) (.slice B a.moves.length d) (mb + 1) mb nb2 (k + 1) wr) := by
                    have h := HSQ.out
                    refine ⟨⟨frm_new h.grew.1 (by omega) hgx.1, Nat.le_trans h.grew.2 hgx.2⟩, h.fin.move (hmv _ hfbv (by omega)), ?_, h.box.move (hmv _ h.box.lt (by omega)), h.res.move (hmv _ h.res.lt (by omega)), h.non.move (hmv _ h.non.lt (by omega))⟩
                    refine hMx.out.congr fun q hq => ?_
                    rw [mid_end hl0 q hq, show dnP a (k + 1) = orF (dnP a k) (foundP a (dnP a k) (2 ^ a.moves.length)) from rfl, ← HNN.out]
                  have HPR2 : Hid (∀ i, i < k + 1 → dnP a i s0 = none ∧ ∃ s, s < j ∧ (foundP a (dnP a i) j s).isSome = true) := by
                    intro i hi
                    by_cases hik : i < k
                    · exact HPREV.out i hik
                    · obtain rfl : i = k := by omega
                      refine ⟨?_, HMORE.out⟩
                      cases hd1 : dnP a i s0 with
                      | none => rfl
                      | some m1 => have h1 := HDS.out; rw [hd1] at h1; cases h1
                  have hcl := cnt_le (dnP a (k + 1)) j
                  go_wp2_with fail
                  go_roundg (j - cntF (dnP a (k + 1)) j)
                  case measure => omega
                  case rel => exact ⟨k + 1, nb2, by omega, by omega, by omega, HPR2.out, HSW2.out⟩
                · intro q mq wx1 cnt1 hq hlq hfq hR1 hlt1 hg1 hs1 hen
                  go_frame
                  have hrv : rb ≠ mb := by omega
                  have hsz9 := hgx.1.size
                  have hM1 := hMx.out.kept hg1.1 (by intro e; injection e with e; exact hrv e.symm)
                  have hg01 : GrewR wv wx1 (some mb) := ⟨hgx.1.andThen hg1.1 (fun b hb => .inl (by injection hb with hb; omega)), Nat.le_trans hgx.2 hg1.2⟩
                  have hgA := grewR_trans hg01 (grewR_weak (grew_alloc wx1 (.cells #[.int .i64 mq.1, .int .i64 mq.2.1, .int .i64 mq.2.2.1, .int .i64 mq.2.2.2.1, .int .i64 mq.2.2.2.2] 59)))
                  have hMA := hM1.grew (grew_alloc wx1 (.cells #[.int .i64 mq.1, .int .i64 mq.2.1, .int .i64 mq.2.2.1, .int .i64 mq.2.2.2.1, .int .i64 mq.2.2.2.2] 59))
                  have hRA := hR1.grew (grew_alloc wx1 (.cells #[.int .i64 mq.1, .int .i64 mq.2.1, .int .i64 mq.2.2.1, .int .i64 mq.2.2.2.1, .int .i64 mq.2.2.2.2] 59))
                  obtain ⟨y0, y1, y2, y3, y4⟩ := (FiveAt.new wx1 mq).cells
                  obtain ⟨cf0, cf1, cf2, cf3⟩ := (HSQ.out.fin.move (hgA.1.block _ hfbv (by intro e; injection e with e; omega))).cells
                  have HRA := Lib.hid hRA
                  have HMA := Lib.hid hMA
                  have HGA := Lib.hid hgA
                  clear hRA hMA hgA hM1 hR1 hs1
                  go_wp2_with fail
                  generalize wx1.alloc (.cells #[.int .i64 mq.1, .int .i64 mq.2.1, .int .i64 mq.2.2.1, .int .i64 mq.2.2.2.1, .int .i64 mq.2.2.2.2] 59) = w8 at *
                  go_still_tail 6, (by kernel_rfl)
                  obtain ⟨w7, hrun7, hM7, hg7, hd7⟩ := (HMA.out.grew (grew_drew w8)).store Tryz.underlying54 (show nb2 < maxLen by unfold maxLen; omega) hq mq
                  have hdq : dnP a k q = none := (found_none hfq).1
                  rw [← mid_step hlq hfq hdq] at hM7
                  have HM7 := Lib.hid hM7
                  have hG7 : GrewR wv w7 (some mb) := ⟨(frm_trans (grewR_trans HGA.out (grewR_weak (grew_drew w8))).1 hg7), by rw [hd7]; exact (grewR_trans HGA.out (grewR_weak (grew_drew w8))).2⟩
                  have hfmb : fm ≠ mb := by omega
                  have HR7 : Hid (RangeM w7 fm rb j (foundP a (dnP a k) j) (fun x => left x && !(x == q)) cnt1) := (HRA.out.grew (grew_drew w8)).kept hg7 (by intro e; injection e with e; exact hfmb e) (by intro e; injection e with e; exact hrv e)
                  go_wp2_with (at_mapUpdate; refine mapUpdate_list _ _ _ rfl rfl rfl rfl rfl hrun7 ?_)
                  go_roundg cnt1
                  case measure => omega
                  case rel => exact ⟨_, nb2 + 1, by omega, HR7.out, HM7.out, hG7⟩
end Go.Proofs.YtjpdmncafacmaaaGreatDoor
end
