/- GrpD: parts of the walks, one section each: the texts Examp, Alive, LBase, Open. -/
import Derived.Test.YtjpdmncafacmaaaGreatDoorGrpB
import Derived.Test.YtjpdmncafacmaaaGreatDoorGrpC
import Derived.Test.YtjpdmncafacmaaaGreatDoorAndOr
import Derived.Test.YtjpdmncafacmaaaGreatDoorProg
import Derived.Test.YtjpdmncafacmaaaGreatDoorGrpA
import Derived.ProofKit
import Derived.OpenShut
import Derived.SizedLaws
import Derived.Lib.LaidTab
/- The chapter's example, plainly. -/
section
set_option linter.unusedVariables false
set_option linter.unusedSimpArgs false
namespace Go.Proofs.YtjpdmncafacmaaaGreatDoor
open Go.RowKit

theorem someK_unique {a : Au} {K K' : Nat} (h : SomeK a K) (h' : SomeK a K') : K = K' := by
  suffices hlt : ∀ {K K' : Nat}, SomeK a K → SomeK a K' → ¬ K < K' by
    have h1 := hlt h h'
    have h2 := hlt h' h
    omega
  intro K K' h h' hlt
  obtain ⟨q1, s, hs, q2⟩ := h'.2.1 K hlt
  rcases h.2.2 with h3 | h3
  · rw [q1] at h3; cases h3
  · rw [h3 s hs] at q2; cases q2
def exD : Au := ⟨[2, 1, 0], 0, [[[[(0, 0)], [(1, 0)]], [[]], []]]⟩
theorem ex_dual : exRow.map dualP = [[[(0, 0)], [(1, 0)]], [[]], []] := by kernel_rfl
theorem exD_ok : exD.ok = true := by kernel_rfl
def exAD : Au := joinV stAnd exA exD
theorem exAD_e : joinE stAnd exA exD = 0 := by kernel_rfl
theorem exAD_ok : exAD.ok = true := by kernel_rfl
theorem kA : SomeK exA 1 := ⟨by decide, fun k hk => (by obtain rfl : k = 0 := by omega
                                                        exact ⟨by kernel_rfl, 0, by decide, by kernel_rfl⟩), .inl (by kernel_rfl)⟩
theorem kD : SomeK exD 2 := ⟨by decide, fun k hk => (by
    rcases (show k = 0 ∨ k = 1 by omega) with rfl | rfl
    · exact ⟨by kernel_rfl, 0, by decide, by kernel_rfl⟩
    · exact ⟨by kernel_rfl, 1, by decide, by kernel_rfl⟩), .inl (by kernel_rfl)⟩
theorem kAD : SomeK exAD 2 := ⟨by decide, fun k hk => (by
    rcases (show k = 0 ∨ k = 1 by omega) with rfl | rfl
    · exact ⟨by kernel_rfl, 0, by decide +kernel, by kernel_rfl⟩
    · exact ⟨by kernel_rfl, 2, by decide +kernel, by kernel_rfl⟩), .inr (by decide +kernel)⟩
theorem tA : (dnP exA 1 (2 ^ exA.start.toNat)).isSome = true ∧ sizeTo 1 (treeP exA (dnP exA 1) 1 (2 ^ exA.start.toNat)) ≤ 20000 ∧ depthTo 1 (treeP exA (dnP exA 1) 1 (2 ^ exA.start.toNat)) = 1 := ⟨by kernel_rfl, by decide +kernel, by kernel_rfl⟩
theorem tD : (dnP exD 2 (2 ^ exD.start.toNat)).isSome = true ∧ sizeTo 2 (treeP exD (dnP exD 2) 2 (2 ^ exD.start.toNat)) ≤ 20000 ∧ depthTo 2 (treeP exD (dnP exD 2) 2 (2 ^ exD.start.toNat)) = 2 := ⟨by kernel_rfl, by decide +kernel, by kernel_rfl⟩
theorem tAD : dnP exAD 2 (2 ^ exAD.start.toNat) = none := by kernel_rfl
/-- What Some returns of an automaton whose rounds are known. -/
theorem some_tree {a : Au} {K : Nat} {w : World} {e : Ending} {w' : World} (h : SomePost a w e w') (hK : SomeK a K) (h1 : (dnP a K (2 ^ a.start.toNat)).isSome = true) (h2 : sizeTo K (treeP a (dnP a K) K (2 ^ a.start.toNat)) ≤ 20000) :
    Grew w w' ∧ ∃ t, t = treeP a (dnP a K) K (2 ^ a.start.toNat) ∧ ∃ A n c, e = .returned (.tuple #[.agg #[.int .i64 t.label, .slice A n c], .bool true, .int .i64 0]) ∧ rdO (TrD K) w' t [.int .i64 t.label, .slice A n c] := by
  obtain ⟨K', hK', hg, hc⟩ := h
  obtain rfl := someK_unique hK hK'
  refine ⟨hg, _, rfl, ?_⟩
  rcases hc with ⟨q1, _⟩ | ⟨_, q2, _⟩ | ⟨_, _, v, q3, q4⟩
  · rw [q1] at h1; cases h1
  · omega
  · obtain ⟨A, n, c, rfl⟩ : ∃ A n c, v = .slice A n c := by
      cases K with
      | zero => exact q4.elim
      | succ k =>
        obtain ⟨u, h, _, hsl⟩ := q4
        simp only [List.cons.injEq, and_true, true_and] at h
        subst h
        obtain ⟨A1, c1, h2, _⟩ := hsl.val
        exact ⟨_, _, _, h2⟩
    exact ⟨A, n, c, q3, q4⟩
theorem some_none {a : Au} {K : Nat} {w : World} {e : Ending} {w' : World} (h : SomePost a w e w') (hK : SomeK a K) (h1 : dnP a K (2 ^ a.start.toNat) = none) :
    Grew w w' ∧ e = .returned (.tuple #[.agg #[.int .i64 (-1), .slice none 0 0], .bool false, .int .i64 0]) := by
  obtain ⟨K', hK', hg, hc⟩ := h
  obtain rfl := someK_unique hK hK'
  refine ⟨hg, ?_⟩
  rcases hc with ⟨_, q⟩ | ⟨q, _⟩ | ⟨q, _⟩
  · exact q
  · rw [h1] at q; cases q
  · rw [h1] at q; cases q
theorem ex_dualBd : ∀ l ∈ exRow, l.length ≤ 100000 ∧ DualBd l ∧ (dualP l).length ≤ 12 := by
  intro l hl
  simp only [exRow, List.mem_cons, List.not_mem_nil, or_false] at hl
  rcases hl with rfl | rfl | rfl
  · exact ⟨by decide, by unfold DualBd; decide +kernel, by decide +kernel⟩
  · exact ⟨by decide, by unfold DualBd; decide +kernel, by decide +kernel⟩
  · exact ⟨by decide, by unfold DualBd; decide +kernel, by decide +kernel⟩
end Go.Proofs.YtjpdmncafacmaaaGreatDoor
end
/- alive: the chapter's example holds. -/
section
set_option linter.unusedVariables false
set_option linter.unusedSimpArgs false
namespace Go.Proofs.YtjpdmncafacmaaaGreatDoor
open Go.RowKit

theorem au_slices2 {w : World} {V : Au} {r m : Value} (h : rdO AuR w V [r, .int .i64 V.start, m]) : ∃ A n c B p d, r = .slice A n c ∧ m = .slice B p d := by
  obtain ⟨h1, h2, _⟩ := AuR.parts h
  obtain ⟨A1, c1, rfl, _⟩ := h1.val
  obtain ⟨A2, c2, rfl, _⟩ := h2.val
  exact ⟨_, _, _, _, _, _, rfl, rfl⟩
theorem depth_at (d : Nat) (hd : d + 1 ≤ 1000000000) (t : Tr) (lb : Int) (v : Value) (w : World) (h : rdO (TrD (d + 1)) w t [.int .i64 lb, v]) : Calls Tryz.prog 37 #[.agg #[.int .i64 lb, v]] w (RetD w (.int .i64 (depthTo (d + 1) t))) := by
  have h' := h
  obtain ⟨u, he, _⟩ := h
  simp only [List.cons.injEq, and_true] at he
  obtain ⟨h1, rfl⟩ := he
  injection h1 with _ h1
  subst h1
  exact depth_calls (d + 1) hd t w v h'
set_option maxRecDepth 100000 in
set_option maxHeartbeats 2000000 in
theorem alive_calls (w : World) (hT : Tab w) : Calls Tryz.prog 10 #[] w (RetD w (.bool true)) := by
  have HG := Lib.hid (get_calls w)
  have HT := Lib.hid hT
  clear hT
  go_enter Tryz.func10, Tryz.ntmps10
  go_wp2_with fail
  refine HG.out.mono ?_
  rintro e w1 ⟨r1, m1, rfl, hg1, hA1⟩
  obtain ⟨A1, n1, c1, B1, p1, d1, rfl, rfl⟩ := au_slices2 (V := exA) hA1
  have hw1 := grew_then_alloc hg1 (.cells #[.slice A1 n1 c1, .int .i64 0, .slice B1 p1 d1] 25)
  have xa := ThreeAt.new w1 (.slice A1 n1 c1) (.int .i64 0) (.slice B1 p1 d1) 25
  have HA1 := Lib.hid (rdO_frm moves_au (frm_alloc w1 (.cells #[.slice A1 n1 c1, .int .i64 0, .slice B1 p1 d1] 25)) hA1)
  have HD : Hid (Calls Tryz.prog 36 #[.agg #[.slice A1 n1 c1, .int .i64 0, .slice B1 p1 d1]] (w1.alloc (.cells #[.slice A1 n1 c1, .int .i64 0, .slice B1 p1 d1] 25)) fun e w' => ∃ r' m', e = .returned (.tuple #[.agg #[r', .int .i64 0, m'], .int .i64 0]) ∧ Grew (w1.alloc (.cells #[.slice A1 n1 c1, .int .i64 0, .slice B1 p1 d1] 25)) w' ∧ rdO AuR w' exD [r', .int .i64 0, m']) := by
    have h := rdual1_calls exA ex_ok exRow rfl (by decide) ex_dualBd _ _ _ HA1.out
    rw [ex_dual] at h
    exact h
  obtain ⟨xa0, xa1, xa2⟩ := xa.cells
  clear hA1
  dsimp only
  go_wp2_with fail
  refine HD.out.mono ?_
  rintro e w2 ⟨r2, m2, rfl, hg2, hA2⟩
  obtain ⟨A2, n2, c2, B2, p2, d2, rfl, rfl⟩ := au_slices2 (V := exD) hA2
  have hw12 := grew_trans hw1 hg2
  have hw2 := grew_then_alloc hw12 (.cells #[.slice A2 n2 c2, .int .i64 0, .slice B2 p2 d2] 25)
  have hg13 := grew_then_alloc hg2 (.cells #[.slice A2 n2 c2, .int .i64 0, .slice B2 p2 d2] 25)
  have xd := ThreeAt.new w2 (.slice A2 n2 c2) (.int .i64 0) (.slice B2 p2 d2) 25
  have xa3 := xa.frm hg13.1
  have HA3 := Lib.hid (rdO_frm moves_au hg13.1 HA1.out)
  have HD3 := Lib.hid (rdO_frm moves_au (frm_alloc w2 (.cells #[.slice A2 n2 c2, .int .i64 0, .slice B2 p2 d2] 25)) hA2)
  have hT3 := HT.out.grew hw2
  have HSA := Lib.hid (some_calls exA ex_ok _ _ _ hT3 HA3.out)
  clear xa0 xa1 xa2 hA2 hT3
  obtain ⟨xa0, xa1, xa2⟩ := xa3.cells
  dsimp only
  go_wp2_with fail
  refine HSA.out.mono ?_
  intro e w4 hpost
  obtain ⟨hg4, t4, ht4, A4, n4, c4, rfl, hr4⟩ := some_tree hpost kA tA.1 tA.2.1
  have hd4 : depthTo 1 t4 = 1 := by rw [ht4]; exact tA.2.2
  have HT4 := Lib.hid ht4
  clear hpost ht4 xa0 xa1 xa2
  have hg5 := grew_then_alloc hg4 (.cells #[.int .i64 t4.label, .slice A4 n4 c4] 29)
  have hw5 := grew_trans hw2 hg5
  have x4 := TwoAt.new w4 (.int .i64 t4.label) (.slice A4 n4 c4) 29
  have HR4 := Lib.hid (rdO_frm (moves_tr 1) (frm_alloc w4 (.cells #[.int .i64 t4.label, .slice A4 n4 c4] 29)) hr4)
  have xa5 := xa3.frm hg5.1
  have xd5 := xd.frm hg5.1
  have HD5 := Lib.hid (rdO_frm moves_au hg5.1 HD3.out)
  have HA5 := Lib.hid (rdO_frm moves_au hg5.1 HA3.out)
  have HSD := Lib.hid (some_calls exD exD_ok _ _ _ (HT.out.grew hw5) HD5.out)
  obtain ⟨xd0, xd1, xd2⟩ := xd5.cells
  generalize t4.label = lb4 at *
  clear hr4
  dsimp only
  go_wp2_with fail
  refine HSD.out.mono ?_
  intro e w6 hpost
  obtain ⟨hg6, t6, ht6, A6, n6, c6, rfl, hr6⟩ := some_tree hpost kD tD.1 tD.2.1
  have hd6 : depthTo 2 t6 = 2 := by rw [ht6]; exact tD.2.2
  have HT6 := Lib.hid ht6
  clear hpost ht6 xd0 xd1 xd2
  have hg7 := grew_then_alloc hg6 (.cells #[.int .i64 t6.label, .slice A6 n6 c6] 29)
  have hw7 := grew_trans hw5 hg7
  have x6 := TwoAt.new w6 (.int .i64 t6.label) (.slice A6 n6 c6) 29
  have HR6 := Lib.hid (rdO_frm (moves_tr 2) (frm_alloc w6 (.cells #[.int .i64 t6.label, .slice A6 n6 c6] 29)) hr6)
  have xa7 := xa5.frm hg7.1
  have xd7 := xd5.frm hg7.1
  have x47 := x4.frm hg7.1
  have HR47 := Lib.hid (rdO_frm (moves_tr 1) hg7.1 HR4.out)
  have HAN : Hid (Calls Tryz.prog 21 #[.agg #[.slice A1 n1 c1, .int .i64 0, .slice B1 p1 d1], .agg #[.slice A2 n2 c2, .int .i64 0, .slice B2 p2 d2]] (w6.alloc (.cells #[.int .i64 t6.label, .slice A6 n6 c6] 29)) (RetA (w6.alloc (.cells #[.int .i64 t6.label, .slice A6 n6 c6] 29)) exAD 0)) := by
    have h := and_calls exA exD _ _ _ _ _ (rdO_frm moves_au hg7.1 HA5.out) (rdO_frm moves_au hg7.1 HD5.out)
    rw [exAD_e] at h
    exact h
  obtain ⟨xa0, xa1, xa2⟩ := xa7.cells
  obtain ⟨xd0, xd1, xd2⟩ := xd7.cells
  generalize t6.label = lb6 at *
  clear hr6
  dsimp only
  go_wp2_with fail
  refine HAN.out.mono ?_
  rintro e w8 ⟨r8, m8, rfl, hg8, hr8⟩
  have hr8' : rdO AuR w8 exAD [r8, .int .i64 exAD.start, m8] := WR.rd moves_au (moves_WR moves_au _ _ _ _ _ _ (fun q hq => hq.2) (fun _ _ => rfl) hr8)
  obtain ⟨A8, n8, c8, B8, p8, d8, rfl, rfl⟩ := au_slices2 (V := exAD) hr8'
  have hg9 := grew_then_alloc hg8 (.cells #[.slice A8 n8 c8, .int .i64 exAD.start, .slice B8 p8 d8] 25)
  have hw9 := grew_trans hw7 hg9
  have x8 := ThreeAt.new w8 (.slice A8 n8 c8) (.int .i64 exAD.start) (.slice B8 p8 d8) 25
  have HSB := Lib.hid (some_calls exAD exAD_ok _ _ _ (HT.out.grew hw9) (rdO_frm moves_au (frm_alloc w8 (.cells #[.slice A8 n8 c8, .int .i64 exAD.start, .slice B8 p8 d8] 25)) hr8'))
  have x49 := x47.frm hg9.1
  have x69 := x6.frm hg9.1
  have HR49 := Lib.hid (rdO_frm (moves_tr 1) hg9.1 HR47.out)
  have HR69 := Lib.hid (rdO_frm (moves_tr 2) hg9.1 HR6.out)
  clear xa0 xa1 xa2 xd0 xd1 xd2 hr8 hr8'
  obtain ⟨xb0, xb1, xb2⟩ := x8.cells
  dsimp only
  go_wp2_with fail
  refine HSB.out.mono ?_
  intro e w10 hpost
  obtain ⟨hg10, rfl⟩ := some_none hpost kAD tAD
  have hg11 := grew_then_alloc hg10 (.cells #[.int .i64 (-1), .slice none 0 0] 29)
  have hw11 := grew_trans hw9 hg11
  obtain ⟨y40, y41, _, _⟩ := (x49.frm hg11.1).cells
  obtain ⟨y60, y61, _, _⟩ := (x69.frm hg11.1).cells
  have HP4 : Hid (∀ wx, Grew (w10.alloc (.cells #[.int .i64 (-1), .slice none 0 0] 29)) wx → Calls Tryz.prog 37 #[.agg #[.int .i64 lb4, .slice A4 n4 c4]] wx (RetD wx (.int .i64 1))) := by
    intro wx hx
    have h := depth_at 0 (by omega) t4 lb4 _ wx (rdO_frm (moves_tr 1) (frm_trans hg11.1 hx.1) HR49.out)
    rw [hd4] at h
    exact h
  have HP6 : Hid (∀ wx, Grew (w10.alloc (.cells #[.int .i64 (-1), .slice none 0 0] 29)) wx → Calls Tryz.prog 37 #[.agg #[.int .i64 lb6, .slice A6 n6 c6]] wx (RetD wx (.int .i64 2))) := by
    intro wx hx
    have h := depth_at 1 (by omega) t6 lb6 _ wx (rdO_frm (moves_tr 2) (frm_trans hg11.1 hx.1) HR69.out)
    rw [hd6] at h
    exact h
  have x6b := x69.frm hg11.1
  clear xb0 xb1 xb2 hd4 hd6
  dsimp only
  go_wp2_with fail
  refine (HP4.out _ (grew_refl _)).mono ?_
  rintro e w12 ⟨rfl, hg12⟩
  obtain ⟨y60, y61, _, _⟩ := (x6b.frm hg12.1).cells
  dsimp only
  go_wp2_with fail
  refine (HP6.out _ hg12).mono ?_
  rintro e w13 ⟨rfl, hg13⟩
  dsimp only
  go_wp2_with fail
  exact bodyPost_ret (results_tmp rfl _ _ _) rfl ⟨rfl, grew_trans hw11 (grew_trans hg12 hg13)⟩
end Go.Proofs.YtjpdmncafacmaaaGreatDoor
end
/- What the laws of automata share, for a seat without MixAnd and MixOr. -/
section
set_option linter.unusedVariables false
set_option linter.unusedSimpArgs false
namespace Go.Proofs.YtjpdmncafacmaaaGreatDoor
open Go.RowKit

theorem au_slices {S : Nat → Prop} {w : World} {V : Au} {r m : Value} (h : WR AuR S w V [r, .int .i64 V.start, m]) : ∃ A n c B p d, r = .slice A n c ∧ m = .slice B p d := by
  obtain ⟨r', m', he, ⟨v1, h1, s1⟩, ⟨v2, h2, s2⟩, _⟩ := h
  obtain ⟨A1, c1, rfl, _⟩ := s1.val
  obtain ⟨A2, c2, rfl, _⟩ := s2.val
  simp only [List.cons.injEq, and_true, true_and] at he h1 h2
  rw [h1] at he
  rw [h2] at he
  exact ⟨_, _, _, _, _, _, he.1, he.2⟩
theorem au_read {w0 w w' : World} {V : Au} {cs : List Value} (h : WR AuR (Fresh w0 w) w V cs) (hf : Grew w w') : rdO AuR w' V cs :=
  rdO_frm moves_au hf.1 (WR.rd moves_au (moves_WR moves_au _ _ _ _ _ _ (fun q hq => hq.2) (fun _ _ => rfl) h))
theorem join_zero {st : List (List Nd) → List (List Nd) → List (List Nd)} {a b : Au} : (joinE st a b = 0 → (joinV st a b).okR = true) ∧ (joinE st a b ≠ 0 → joinV st a b = Au.zero) := by
  refine ⟨fun h => ?_, fun h => by unfold joinV; rw [if_neg h]⟩
  unfold joinV
  rw [if_pos h, ← ok_eq]
  unfold joinE at h
  by_cases hp : pairE a b = 0
  · rw [if_pos hp] at h
    cases hk : (joinA st a b).ok
    · rw [hk] at h; simp at h
    · rfl
  · rw [if_neg hp] at h
    exact absurd h hp

end Go.Proofs.YtjpdmncafacmaaaGreatDoor
end
/- What a row's reading of its arguments gives the walks. -/
section
set_option linter.unusedVariables false
set_option linter.unusedSimpArgs false
namespace Go.Proofs.YtjpdmncafacmaaaGreatDoor
open Go.ChangeShapes Go.WideShapes Go.RowKit

/-- The listed package-level variables, laid. -/
def laidHeap (h : Array Obj) : Array Obj :=
  h
    |>.modify 0 (fun | .cells _ t frozen => .cells #[.int .u8 0, .int .u8 1, .int .u8 28, .int .u8 2, .int .u8 29, .int .u8 14, .int .u8 24, .int .u8 3, .int .u8 30, .int .u8 22, .int .u8 20, .int .u8 15, .int .u8 25, .int .u8 17, .int .u8 4, .int .u8 8, .int .u8 31, .int .u8 27, .int .u8 13, .int .u8 23, .int .u8 21, .int .u8 19, .int .u8 16, .int .u8 7, .int .u8 26, .int .u8 12, .int .u8 18, .int .u8 6, .int .u8 11, .int .u8 5, .int .u8 10, .int .u8 9] t frozen | o => o)
    |>.modify 1 (fun | .cells _ t frozen => .cells #[.int .u8 0, .int .u8 1, .int .u8 56, .int .u8 2, .int .u8 57, .int .u8 49, .int .u8 28, .int .u8 3, .int .u8 61, .int .u8 58, .int .u8 42, .int .u8 50, .int .u8 38, .int .u8 29, .int .u8 17, .int .u8 4, .int .u8 62, .int .u8 47, .int .u8 59, .int .u8 36, .int .u8 45, .int .u8 43, .int .u8 51, .int .u8 22, .int .u8 53, .int .u8 39, .int .u8 33, .int .u8 30, .int .u8 24, .int .u8 18, .int .u8 12, .int .u8 5, .int .u8 63, .int .u8 55, .int .u8 48, .int .u8 27, .int .u8 60, .int .u8 41, .int .u8 37, .int .u8 16, .int .u8 46, .int .u8 35, .int .u8 44, .int .u8 21, .int .u8 52, .int .u8 32, .int .u8 23, .int .u8 11, .int .u8 54, .int .u8 26, .int .u8 40, .int .u8 15, .int .u8 34, .int .u8 20, .int .u8 31, .int .u8 10, .int .u8 25, .int .u8 14, .int .u8 19, .int .u8 9, .int .u8 13, .int .u8 8, .int .u8 7, .int .u8 6] t frozen | o => o)

section
variable {H : Type} {enc : TypeId × Value → H} {P : Program} {W : World} {sp : Nat → Bool} {hd : Bool}

/-- A slice is opened, if its elements are. -/
theorem open_sl {α : Type} {t e : TypeId} {k bytes : Nat} {r : α → List Value → Prop} (ht : P.underlying t = some (.slice e)) (hk : P.cellsOf e = k) (hk0 : 0 < k) (hb : P.bytesOf e = bytes) (hb0 : 0 < bytes) (fuel : Nat)
    (hel : ∀ m, m < fuel → ∀ cs (x : DataW H × List MemPlace), DataW.trod enc P W 0 sp hd m e cs = some x → (∀ n ∈ x.1.weights P e, n ≤ reachBytes) → ∃ a, r a cs)
    (cs : List Value) (x : DataW H × List MemPlace) (h : DataW.trod enc P W 0 sp hd fuel t cs = some x) (hw : ∀ n ∈ x.1.weights P t, n ≤ reachBytes) :
    ∃ (l : List α) (v : Value), cs = [v] ∧ Sl (fun b => b < W.heap.size) W k r l v := by
  rcases DataW.trod_slice ht h with ⟨rfl, rfl⟩ | ⟨a, len, cap, elems, rest, n, rfl, rfl, rfl, _, hlc, _, hlen, hcell, _, _⟩
  · exact ⟨[], _, rfl, none, 0, rfl, by simp, by simp, by simp⟩
  · have hw1 : (elems.length + rest.length) * P.bytesOf e ≤ reachBytes := hw _ (by simp [DataW.weights, ht])
    have hlen2 : len ≤ 140737488351232 := by
      rw [hb] at hw1
      have h1 : (elems.length + rest.length) * 1 ≤ (elems.length + rest.length) * bytes := Nat.mul_le_mul_left _ hb0
      simp only [reachBytes] at hw1
      omega
    have hall : ∀ i, i < len → ∃ (y : α) (ds : List Value), ds.length = k ∧ (∀ j, j < k → W.cell? ((a.add (i * k)).add j) = ds[j]?) ∧ r y ds := by
      intro i hi
      have hc := hcell i hi
      rw [List.getElem?_eq_getElem (by omega)] at hc
      obtain ⟨ds, h1, h2⟩ := Option.bind_eq_some_iff.1 hc
      rw [hk] at h1
      obtain ⟨_, h3, h4⟩ := World.cells?_some h1
      obtain ⟨y, hy⟩ := hel n (by omega) ds _ h2 (fun q hq => hw q (by
        simp only [DataW.weights, ht, List.mem_cons, List.mem_append]
        right; left
        have hm : elems[i].1 ∈ elems.map (·.1) := List.mem_map_of_mem (List.getElem_mem (by omega))
        clear hw hc h2 hcell h
        generalize elems.map (·.1) = L at *
        induction L with
        | nil => cases hm
        | cons z L ihL =>
          simp only [DataW.weightsAll, List.mem_append]
          rcases List.mem_cons.1 hm with rfl | hm
          · exact .inl hq
          · exact .inr (ihL hm)))
      exact ⟨y, ds, h3, h4, hy⟩
    obtain ⟨l, hl, hlall⟩ : ∃ l : List α, l.length = len ∧ ∀ i (h : i < l.length), ∃ ds, ds.length = k ∧ (∀ j, j < k → W.cell? ((a.add (i * k)).add j) = ds[j]?) ∧ r l[i] ds := by
      refine ⟨List.ofFn fun i : Fin len => Classical.choose (hall i.1 i.2), by simp, fun i hi => ?_⟩
      simp only [List.getElem_ofFn]
      exact Classical.choose_spec (hall i (by simpa using hi))
    refine ⟨l, _, rfl, some a, cap, by rw [hl], by omega, by omega, fun h0 => ?_⟩
    obtain ⟨b, o, spot⟩ := a
    obtain ⟨ds, h1, h2, _⟩ := hlall 0 h0
    have hc0 := h2 0 hk0
    rw [List.getElem?_eq_getElem (by omega)] at hc0
    have hs : spot = none := by simpa [Addr.add] using World.cell?_spot hc0
    subst hs
    refine ⟨b, o, rfl, ?_, fun i hi => ?_⟩
    · have := World.block_lt_of_cell? _ _ hc0
      simpa [Addr.add] using this
    · obtain ⟨ds, h1, h2, h3⟩ := hlall i hi
      refine ⟨ds, h1, fun j hj => ?_, h3⟩
      rw [← h2 j hj, Addr.add_lit, Addr.add_lit]

/-- An int of 64 bits is opened. -/
theorem open_i64 {t : TypeId} (ht : P.underlying t = some (.int .i64)) (fuel : Nat) (cs : List Value) (x : DataW H × List MemPlace) (h : DataW.trod enc P W 0 sp hd fuel t cs = some x) :
    ∃ n : Int, cs = [.int .i64 n] ∧ -9223372036854775808 ≤ n ∧ n ≤ 9223372036854775807 := by
  obtain ⟨n, rfl, _, hwf⟩ := DataW.trod_int ht h
  refine ⟨n, rfl, ?_⟩
  simp [Lit.wf, IntKind.min, IntKind.max, IntKind.signed, IntKind.bits] at hwf
  omega
end

section
variable {H : Type} {enc : TypeId × Value → H} {W : World} {sp : Nat → Bool} {hd : Bool}
theorem cells_int : Tryz.prog.cellsOf 3 = 1 := by kernel_rfl
theorem cells_ints : Tryz.prog.cellsOf 22 = 1 := by kernel_rfl
theorem cells_nd : Tryz.prog.cellsOf 80 = 2 := by kernel_rfl
theorem cells_alt : Tryz.prog.cellsOf 76 = 1 := by kernel_rfl
theorem cells_alts : Tryz.prog.cellsOf 50 = 1 := by kernel_rfl
theorem cells_rule : Tryz.prog.cellsOf 49 = 1 := by kernel_rfl
theorem cells_moves : Tryz.prog.cellsOf 23 = 1 := by kernel_rfl
theorem cells_au : Tryz.prog.cellsOf 25 = 3 := by kernel_rfl
theorem bytes_int : Tryz.prog.bytesOf 3 = 8 := by kernel_rfl
theorem bytes_nd : Tryz.prog.bytesOf 80 = 16 := by kernel_rfl
theorem bytes_alt : Tryz.prog.bytesOf 76 = 24 := by kernel_rfl
theorem bytes_alts : Tryz.prog.bytesOf 50 = 24 := by kernel_rfl
theorem bytes_rule : Tryz.prog.bytesOf 49 = 24 := by kernel_rfl
set_option maxRecDepth 100000 in
/-- A need is opened. -/
theorem open_nd (fuel : Nat) (cs : List Value) (x : DataW H × List MemPlace) (h : DataW.trod enc Tryz.prog W 0 sp hd fuel 80 cs = some x) : ∃ n, rdO NdR W n cs := by
  obtain ⟨xs, n, rfl, rfl, hlen, hxl, hf⟩ := DataW.trod_struct Tryz.underlying80 h
  rw [cells_nd] at hlen
  match xs, hxl, cs, hlen with
  | [y0, y1], _, [c0, c1], _ =>
    have g0 := hf 0 _ rfl
    have g1 := hf 1 _ rfl
    change DataW.trod enc Tryz.prog W 0 sp hd n 3 (List.take (Tryz.prog.cellsOf 3) (List.drop 0 [c0, c1])) = [y0, y1][0]? at g0
    change DataW.trod enc Tryz.prog W 0 sp hd n 3 (List.take (Tryz.prog.cellsOf 3) (List.drop 1 [c0, c1])) = [y0, y1][1]? at g1
    rw [cells_int] at g0 g1
    simp only [List.drop_zero, List.drop_succ_cons, List.take_succ_cons, List.take_zero, List.getElem?_cons_zero, List.getElem?_cons_succ] at g0 g1
    obtain ⟨s, hs, hs1, hs2⟩ := open_i64 Tryz.underlying3 n _ _ g0
    obtain ⟨u, hu, hu1, hu2⟩ := open_i64 Tryz.underlying3 n _ _ g1
    obtain rfl : c0 = .int .i64 s := by simpa using hs
    obtain rfl : c1 = .int .i64 u := by simpa using hu
    exact ⟨(s, u), rfl, ⟨hs1, hs2⟩, hu1, hu2⟩
theorem open_alt (fuel : Nat) (cs : List Value) (x : DataW H × List MemPlace) (h : DataW.trod enc Tryz.prog W 0 sp hd fuel 76 cs = some x) (hw : ∀ n ∈ x.1.weights Tryz.prog 76, n ≤ reachBytes) : ∃ l, rdO AltR W l cs := by
  obtain ⟨l, v, rfl, h2⟩ := open_sl (r := rdO NdR W) Tryz.underlying76 cells_nd (by omega) bytes_nd (by omega) fuel (fun m hm ds z hz _ => open_nd m ds z hz) cs x h hw
  exact ⟨l, v, rfl, h2⟩
theorem open_alts (fuel : Nat) (cs : List Value) (x : DataW H × List MemPlace) (h : DataW.trod enc Tryz.prog W 0 sp hd fuel 50 cs = some x) (hw : ∀ n ∈ x.1.weights Tryz.prog 50, n ≤ reachBytes) : ∃ l, rdO AltsR W l cs := by
  obtain ⟨l, v, rfl, h2⟩ := open_sl (r := rdO AltR W) Tryz.underlying50 cells_alt (by omega) bytes_alt (by omega) fuel (fun m hm ds z hz hwz => open_alt m ds z hz hwz) cs x h hw
  exact ⟨l, v, rfl, h2⟩
theorem open_rule (fuel : Nat) (cs : List Value) (x : DataW H × List MemPlace) (h : DataW.trod enc Tryz.prog W 0 sp hd fuel 49 cs = some x) (hw : ∀ n ∈ x.1.weights Tryz.prog 49, n ≤ reachBytes) : ∃ l, rdO RuleR W l cs := by
  obtain ⟨l, v, rfl, h2⟩ := open_sl (r := rdO AltsR W) Tryz.underlying49 cells_alts (by omega) bytes_alts (by omega) fuel (fun m hm ds z hz hwz => open_alts m ds z hz hwz) cs x h hw
  exact ⟨l, v, rfl, h2⟩
theorem open_moves (fuel : Nat) (cs : List Value) (x : DataW H × List MemPlace) (h : DataW.trod enc Tryz.prog W 0 sp hd fuel 23 cs = some x) (hw : ∀ n ∈ x.1.weights Tryz.prog 23, n ≤ reachBytes) : ∃ l, rdO MovesR W l cs := by
  obtain ⟨l, v, rfl, h2⟩ := open_sl (r := rdO RuleR W) Tryz.underlying23 cells_rule (by omega) bytes_rule (by omega) fuel (fun m hm ds z hz hwz => open_rule m ds z hz hwz) cs x h hw
  exact ⟨l, v, rfl, h2⟩
theorem open_ints (fuel : Nat) (cs : List Value) (x : DataW H × List MemPlace) (h : DataW.trod enc Tryz.prog W 0 sp hd fuel 22 cs = some x) (hw : ∀ n ∈ x.1.weights Tryz.prog 22, n ≤ reachBytes) : ∃ l, rdO (RowS 1 IntR) W l cs := by
  obtain ⟨l, v, rfl, h2⟩ := open_sl (r := rdO IntR W) Tryz.underlying22 cells_int (by omega) bytes_int (by omega) fuel (fun m hm ds z hz _ => by
    obtain ⟨n, hn, h1, h2⟩ := open_i64 Tryz.underlying3 m ds z hz
    exact ⟨n, hn, h1, h2⟩) cs x h hw
  exact ⟨l, v, rfl, h2⟩
set_option maxRecDepth 100000 in
/-- An automaton is opened. -/
theorem open_au (fuel : Nat) (cs : List Value) (x : DataW H × List MemPlace) (h : DataW.trod enc Tryz.prog W 0 sp hd fuel 25 cs = some x) (hw : ∀ n ∈ x.1.weights Tryz.prog 25, n ≤ reachBytes) : ∃ (a : Au) (r m : Value), cs = [r, .int .i64 a.start, m] ∧ rdO AuR W a cs := by
  obtain ⟨xs, n, rfl, rfl, hlen, hxl, hf⟩ := DataW.trod_struct Tryz.underlying25 h
  rw [cells_au] at hlen
  match xs, hxl, cs, hlen with
  | [y0, y1, y2], _, [c0, c1, c2], _ =>
    have g0 := hf 0 _ rfl
    have g1 := hf 1 _ rfl
    have g2 := hf 2 _ rfl
    change DataW.trod enc Tryz.prog W 0 sp hd n 22 (List.take (Tryz.prog.cellsOf 22) (List.drop 0 [c0, c1, c2])) = [y0, y1, y2][0]? at g0
    change DataW.trod enc Tryz.prog W 0 sp hd n 3 (List.take (Tryz.prog.cellsOf 3) (List.drop 1 [c0, c1, c2])) = [y0, y1, y2][1]? at g1
    change DataW.trod enc Tryz.prog W 0 sp hd n 23 (List.take (Tryz.prog.cellsOf 23) (List.drop 2 [c0, c1, c2])) = [y0, y1, y2][2]? at g2
    rw [cells_ints] at g0
    rw [cells_int] at g1
    rw [cells_moves] at g2
    simp only [List.drop_zero, List.drop_succ_cons, List.take_succ_cons, List.take_zero, List.getElem?_cons_zero, List.getElem?_cons_succ] at g0 g1 g2
    simp only [DataW.weights, Tryz.underlying25, DataW.weightsEach, List.map_cons, List.map_nil, List.append_nil, List.mem_append] at hw
    obtain ⟨s, hs, hs1, hs2⟩ := open_i64 Tryz.underlying3 n _ _ g1
    obtain rfl : c1 = .int .i64 s := by simpa using hs
    obtain ⟨rk, hrk⟩ := open_ints n _ _ g0 (fun q hq => hw q (.inl hq))
    obtain ⟨mv, hmv⟩ := open_moves n _ _ g2 (fun q hq => hw q (.inr (.inr hq)))
    exact ⟨⟨rk, s, mv⟩, c0, c2, rfl, c0, c2, rfl, hrk, hmv, hs1, hs2⟩
/-- A struct argument is an aggregate. -/
theorem okWide_agg {P : Program} {w : World} {r : Reach} {base : Nat} {t : TypeId} {v : Value} {fs : Array Field} (ht : P.underlying t = some (.struct fs)) (h : Value.okWide P w r base t v) : ∃ cs, v = .agg cs := by
  unfold Value.okWide at h
  rw [ht] at h
  obtain ⟨cs, rfl, _⟩ := h
  exact ⟨cs, rfl⟩
set_option maxRecDepth 100000 in
theorem arg_au {base : Nat} {r : Reach} {v : Value} {d : DataW H} {p : List MemPlace} (hv : Value.okWide Tryz.prog W r base 25 v) (h : DataW.Trod enc Tryz.prog W 0 sp hd 25 v d p)
    (hw : ∀ n ∈ d.weights Tryz.prog 25, n ≤ reachBytes) : ∃ (a : Au) (r m : Value), v = .agg #[r, .int .i64 a.start, m] ∧ rdO AuR W a [r, .int .i64 a.start, m] := by
  obtain ⟨cs, rfl⟩ := okWide_agg Tryz.underlying25 hv
  obtain ⟨fuel, hf⟩ := h
  obtain ⟨a, r, m, hc, ht⟩ := open_au fuel _ _ hf hw
  have hc2 : cs.toList = [r, .int .i64 a.start, m] := by simpa [Value.cells] using hc
  obtain rfl : cs = #[r, .int .i64 a.start, m] := by
    cases cs
    simp_all
  exact ⟨a, r, m, rfl, by simpa [Value.cells] using ht⟩
end
def deBI : List Int := [0, 1, 56, 2, 57, 49, 28, 3, 61, 58, 42, 50, 38, 29, 17, 4, 62, 47, 59, 36, 45, 43, 51, 22, 53, 39, 33, 30, 24, 18, 12, 5, 63, 55, 48, 27, 60, 41, 37, 16, 46, 35, 44, 21, 52, 32, 23, 11, 54, 26, 40, 15, 34, 20, 31, 10, 25, 14, 19, 9, 13, 8, 7, 6]
theorem deB_at : ∀ j, j < 64 → deBI[j]? = some ((deB64.getD j 0 : Nat) : Int) := by decide
theorem gTab64 : Tryz.prog.globalNamed "math/bits.deBruijn64tab" = some 1 := by kernel_rfl
/-- The library's table lies as it should, if its variable reads as listed. -/
theorem tab_of {w : World} (h : Lib.TabIs Tryz.prog w "math/bits.deBruijn64tab" .u8 deBI) : Tab w := by
  intro j hj
  unfold Lib.TabIs World.var? at h
  rw [gTab64, Option.bind_some] at h
  have hd := deB_at j hj
  generalize deBI = zs at *
  split at h
  · rename_i cs t fz hb
    injection h with h
    subst h
    simp [World.cell?, hb, hd]
  · cases h
end Go.Proofs.YtjpdmncafacmaaaGreatDoor
end
