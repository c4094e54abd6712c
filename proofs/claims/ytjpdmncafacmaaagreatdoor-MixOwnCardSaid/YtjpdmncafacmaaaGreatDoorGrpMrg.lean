/- GrpMrg: parts of the walks, one section each: the texts ShelfM, HasW, WholeW, OverW, FoundP, RowV, ReachP, Many, OkLaw, MergeP, BldV, FaceP, NumD, NumW, FaceW, MapS, MergeM, MergeD, MergeW. -/
import Derived.Shelf.Strings.Builder1
import Derived.Shelf.Strings.BuilderF
import Derived.Shelf.Strings.BuilderK
import Derived.Shelf.Strconv.Itoa0
import Derived.Shelf.Strconv.Itoa1
import Derived.Shelf.Strconv.Itoa2
import Derived.Shelf.Strconv.Itoa3
import Derived.Test.YtjpdmncafacmaaaGreatDoorProg
import Derived.Test.YtjpdmncafacmaaaGreatDoorGrpHit
import Derived.Test.YtjpdmncafacmaaaGreatDoorGrpA
import Derived.Test.YtjpdmncafacmaaaGreatDoorOwn
import Derived.Test.YtjpdmncafacmaaaGreatDoorMore
import Derived.Test.YtjpdmncafacmaaaGreatDoorSameR
import Derived.Test.YtjpdmncafacmaaaGreatDoorGrpC
import Derived.Test.YtjpdmncafacmaaaGreatDoorRefCopy
import Derived.Test.YtjpdmncafacmaaaGreatDoorAuLaw
import Derived.Test.YtjpdmncafacmaaaGreatDoorUnf
import Derived.Lib.FrozenHead2
import Derived.Lib.Builder
import Derived.Lib.UnsafeStr
import Derived.Lib.OthersKept
import Derived.Test.YtjpdmncafacmaaaGreatDoorJoinW
import Derived.Test.YtjpdmncafacmaaaGreatDoorOrdered
import Derived.Maps.RangeWalk
import Derived.Maps.OwnSet
import Derived.StringKeys
import Derived.Test.YtjpdmncafacmaaaGreatDoorGrpB
/-
  DERIVED: THE SHELF's CONTRACTS AT THIS DUMP, IN PLAIN WORDS (tools/lay-plain.mjs out of 'TryzShelf.lean', which tools/lay-shelf.mjs wrote): THE SAME DECLARATIONS UNDER THE SAME NAMES: 'import', 'namespace', 'open', 'def', 'theorem' AND NOTHING ELSE: no command of the shelf's: FOR A HAND-IN. Each laying: the table of numbers ('.._ren') and one theorem, a field a fact of the dump's own or the kernel's comparison; each contract: ONE APPLICATION.
-/
section
namespace Go.Proofs
open Go.Shelf
def Tryz.lays169_ren : Go.Shelf.Ren := ⟨fun | 169 => 94 | n => n, fun | 70 => 122 | 9 => 9 | 0 => 0 | 72 => 125 | 37 => 123 | 127 => 153 | 3 => 3 | 5 => 5 | n => n, fun | n => n⟩
theorem Tryz.lays169 : Go.Proofs.Lays.n169 Tryz.prog Tryz.lays169_ren := {
  mixed := by kernel_rfl
  f169 := Tryz.func94.trans (congrArg some (by kernel_rfl))
  t0 := Tryz.underlying0
  a0 := Tryz.isAgg0
  z0 := Tryz.sizeOf0
  v0 := Tryz.zeroValue0
  t3 := Tryz.underlying3
  a3 := Tryz.isAgg3
  z3 := Tryz.sizeOf3
  v3 := Tryz.zeroValue3
  t9 := Tryz.underlying9
  a9 := Tryz.isAgg9
  z9 := Tryz.sizeOf9
  v9 := Tryz.zeroValue9
  t37 := Tryz.underlying123
  a37 := Tryz.isAgg123
  z37 := Tryz.sizeOf123
  v37 := Tryz.zeroValue123
  t70 := Tryz.underlying122
  a70 := Tryz.isAgg122
  z70 := Tryz.sizeOf122
  v70 := Tryz.zeroValue122
  t72 := Tryz.underlying125
  a72 := Tryz.isAgg125
  z72 := Tryz.sizeOf125
  v72 := Tryz.zeroValue125
  t127 := Tryz.underlying153
  a127 := Tryz.isAgg153
  z127 := Tryz.sizeOf153
  v127 := Tryz.zeroValue153 }
theorem Tryz.Builder_Extra_169 : Builder.Extra Tryz.prog Tryz.lays169_ren := {
  sizeBuilder := by kernel_rfl
  liesBuilder := by kernel_rfl
  t5 := Tryz.underlying5
  a5 := Tryz.isAgg5
  z5 := Tryz.sizeOf5
  v5 := Tryz.zeroValue5
  infoByte := by kernel_rfl
  cellsByte := by kernel_rfl
  sizeByte := by kernel_rfl
  neB5 := by decide }
open Go.RowKit in
/-- (*strings.Builder).String: "String returns the accumulated string.": OF A BUILDER THAT HOLDS AT LEAST ONE BYTE. ✋ THE MODEL FREEZES THOSE BYTES IN THE BUFFER (unsafe.String): a later write INTO them ends the model's run without an answer; a later append BEHIND them goes on. The statement's order of evaluation is drawn: one draw. (LAID: no walk: one application.) -/
theorem Tryz.Builder_String_any_k (B b : Nat) (l : List UInt8) (w : World) (h : Lib.IsBuilderF 125 5 B b (Lib.byteCells l) w) (hBw : B ≤ w.heap.size) :
    Calls Tryz.prog 94 #[.pointer (some ⟨b, 0, none⟩)] w fun e w' => e = .returned (.string ⟨l.toArray⟩) ∧ (Lib.IsBuilderF 125 5 B b (Lib.byteCells l) w' ∧ Below B w w' ∧ Lib.OthersKept 5 (some b) w w') := Any.Builder_String_any_k Tryz.lays169 Tryz.Builder_Extra_169 B b l w h hBw
def Tryz.lays171_ren : Go.Shelf.Ren := ⟨fun | 171 => 90 | 243 => 119 | 246 => 142 | 283 => 159 | 284 => 160 | 285 => 161 | 286 => 162 | 129 => 140 | 317 => 168 | 318 => 169 | 319 => 170 | 320 => 105 | 337 => 124 | 338 => 125 | n => n, fun | 3 => 3 | 9 => 9 | 2 => 2 | 4 => 4 | 171 => 186 | 0 => 0 | 53 => 158 | 37 => 123 | 5 => 5 | 173 => 188 | 212 => 196 | 51 => 156 | 20 => 20 | 213 => 197 | 46 => 139 | 232 => 178 | 233 => 179 | n => n, fun | 17 => 2 | 18 => 0 | 19 => 1 | n => n⟩
theorem Tryz.lays171 : Go.Proofs.Lays.n171 Tryz.prog Tryz.lays171_ren := {
  mixed := by kernel_rfl
  f129 := Tryz.func140.trans (congrArg some (by kernel_rfl))
  f171 := Tryz.func90.trans (congrArg some (by kernel_rfl))
  f243 := Tryz.func119.trans (congrArg some (by kernel_rfl))
  f246 := Tryz.func142.trans (congrArg some (by kernel_rfl))
  f283 := Tryz.func159.trans (congrArg some (by kernel_rfl))
  f284 := Tryz.func160.trans (congrArg some (by kernel_rfl))
  f285 := Tryz.func161.trans (congrArg some (by kernel_rfl))
  f286 := Tryz.func162.trans (congrArg some (by kernel_rfl))
  f317 := Tryz.func168.trans (congrArg some (by kernel_rfl))
  f318 := Tryz.func169.trans (congrArg some (by kernel_rfl))
  f319 := Tryz.func170.trans (congrArg some (by kernel_rfl))
  f320 := Tryz.func105.trans (congrArg some (by kernel_rfl))
  f337 := Tryz.func124.trans (congrArg some (by kernel_rfl))
  f338 := Tryz.func125.trans (congrArg some (by kernel_rfl))
  t0 := Tryz.underlying0
  a0 := Tryz.isAgg0
  z0 := Tryz.sizeOf0
  v0 := Tryz.zeroValue0
  t2 := Tryz.underlying2
  a2 := Tryz.isAgg2
  z2 := Tryz.sizeOf2
  v2 := Tryz.zeroValue2
  t3 := Tryz.underlying3
  a3 := Tryz.isAgg3
  z3 := Tryz.sizeOf3
  v3 := Tryz.zeroValue3
  t4 := Tryz.underlying4
  a4 := Tryz.isAgg4
  z4 := Tryz.sizeOf4
  v4 := Tryz.zeroValue4
  t5 := Tryz.underlying5
  a5 := Tryz.isAgg5
  z5 := Tryz.sizeOf5
  v5 := Tryz.zeroValue5
  t9 := Tryz.underlying9
  a9 := Tryz.isAgg9
  z9 := Tryz.sizeOf9
  v9 := Tryz.zeroValue9
  t20 := Tryz.underlying20
  a20 := Tryz.isAgg20
  z20 := Tryz.sizeOf20
  v20 := Tryz.zeroValue20
  t37 := Tryz.underlying123
  a37 := Tryz.isAgg123
  z37 := Tryz.sizeOf123
  v37 := Tryz.zeroValue123
  t46 := Tryz.underlying139
  a46 := Tryz.isAgg139
  z46 := Tryz.sizeOf139
  v46 := Tryz.zeroValue139
  t51 := Tryz.underlying156
  a51 := Tryz.isAgg156
  z51 := Tryz.sizeOf156
  v51 := Tryz.zeroValue156
  t53 := Tryz.underlying158
  a53 := Tryz.isAgg158
  z53 := Tryz.sizeOf158
  v53 := Tryz.zeroValue158
  t171 := Tryz.underlying186
  a171 := Tryz.isAgg186
  z171 := Tryz.sizeOf186
  v171 := Tryz.zeroValue186
  t173 := Tryz.underlying188
  a173 := Tryz.isAgg188
  z173 := Tryz.sizeOf188
  v173 := Tryz.zeroValue188
  t212 := Tryz.underlying196
  a212 := Tryz.isAgg196
  z212 := Tryz.sizeOf196
  v212 := Tryz.zeroValue196
  t213 := Tryz.underlying197
  a213 := Tryz.isAgg197
  z213 := Tryz.sizeOf197
  t232 := Tryz.underlying178
  a232 := Tryz.isAgg178
  z232 := Tryz.sizeOf178
  v232 := Tryz.zeroValue178
  t233 := Tryz.underlying179
  a233 := Tryz.isAgg179
  z233 := Tryz.sizeOf179
  v233 := Tryz.zeroValue179
  g17 := by kernel_rfl
  g18 := by kernel_rfl
  g19 := by kernel_rfl }
open Go.RowKit Go.Sort Go.Lib in
/-- THE ROAD WITHOUT THE TABLE: 0 <= i < 100: NO PREMISE ON THE WORLD, AND THE WORLD IS AS IT WAS: a row that keeps its argument in that range need list no table ('laid = []'). (LAID: no walk: one application.) -/
theorem Tryz.strconv_Itoa_small (i : Nat) (hi : i < 100) (w : World) :
    Calls Tryz.prog 90 #[.int .i64 i] w fun e w' => e = .returned (.string ⟨(Lib.decDigits i).toArray⟩) ∧ w' = w := Any.strconv_Itoa_small Tryz.lays171 i hi w
end Go.Proofs
end
/- The reference's has; a row of truths as it is read. -/
section
set_option linter.unusedVariables false
set_option linter.unusedSimpArgs false
namespace Go.Proofs.YtjpdmncafacmaaaGreatDoor
open Go.RowKit

theorem bit_and1 : ∀ m, m < 64 → ∀ s, s < 6 → (m / 2 ^ s) &&& 1 = if m.testBit s then 1 else 0 := by decide
theorem bit_test1 (met st : Nat) (h : met < 64) (hs : st < 6) : (bits .and .i64 ((met : Int) / 2 ^ st) 1 == 1) = met.testBit st := by
  have h1 := and_i64n (met / 2 ^ st) 1 (Nat.lt_of_le_of_lt (Nat.div_le_self _ _) (by omega)) (by omega)
  rw [show ((met : Int) / 2 ^ st) = ((met / 2 ^ st : Nat) : Int) by rw [Int.natCast_ediv, Int.natCast_pow]; rfl]
  have h2 : bits .and .i64 ((met / 2 ^ st : Nat) : Int) 1 = (((met / 2 ^ st) &&& 1 : Nat) : Int) := h1
  rw [h2, bit_and1 met h st hs]
  cases met.testBit st <;> rfl
set_option maxRecDepth 20000 in
theorem has_calls (s q : Nat) (hs : s < 64) (hq : q < 6) (w : World) :
    Calls Tryz.prog 82 #[.int .i64 s, .int .i64 q] w (RetD w (.bool (s.testBit q))) := by
  have HB := Lib.hid (bit_test1 s q hs hq)
  have hq64 : (q : Int) ≤ 64 := by omega
  go_enter Tryz.func82, Tryz.ntmps82
  go_wp2_with fail
  refine bodyPost_ret (results_tmp rfl _ _ _) rfl ⟨?_, grew_refl _⟩
  rw [← HB.out]
  rfl
/-- A row of truths, as it is read. -/
def BolR : RdS Bool := fun _ _ b cs => cs = [.bool b]
theorem moves_bol : Moves BolR := fun S S' w w' x cs hS hw h => h
theorem BoolsAt.sl {w : World} {g n : Nat} {xs : List Bool} (h : BoolsAt w g xs) (hn : n = xs.length) (hm : xs.length ≤ 1000) : SlO w 1 (rdO BolR) xs (.slice (some ⟨g, 0, none⟩) n n) := by
  subst hn
  refine ⟨_, _, rfl, Nat.le_refl _, by omega, fun _ => ⟨g, 0, rfl, ValsAt.lt h, fun i hi => ⟨[.bool xs[i]], rfl, fun j hj => ?_, rfl⟩⟩⟩
  obtain rfl : j = 0 := by omega
  simpa using h.at hi
end Go.Proofs.YtjpdmncafacmaaaGreatDoor
end
/- The reference's Whole: a tree has no unknown part. -/
section
set_option linter.unusedVariables false
set_option linter.unusedSimpArgs false
namespace Go.Proofs.YtjpdmncafacmaaaGreatDoor
open Go.RowKit

/-- A tree of a depth of at most `d` has no part labelled -1. -/
def wholeTo : Nat → Tr → Bool
  | 0, _ => true
  | d + 1, t => t.kids.all (wholeTo d) && t.label != -1
set_option maxRecDepth 20000 in
set_option maxHeartbeats 1000000 in
theorem whole_calls : ∀ (d : Nat) (t : Tr) (w : World) (v : Value) (ht : rdO (TrD d) w t [.int .i64 t.label, v]),
    Calls Tryz.prog 39 #[.agg #[.int .i64 t.label, v]] w (RetD w (.bool (wholeTo d t))) := by
  intro d
  induction d with
  | zero => intro t w v ht; exact ht.elim
  | succ d ih =>
  intro t w v ht
  obtain ⟨v', hv, hlb, hk⟩ := ht
  simp only [List.cons.injEq, and_true, true_and] at hv
  subst hv
  have hK : SlO w 2 (rdO (TrD d)) t.kids v := hk
  obtain ⟨A, c, rfl, hc, hm⟩ := hK.val
  have HIH := Lib.hid ih
  have hxt := TwoAt.new w (.int .i64 t.label) (.slice A t.kids.length c) 29
  have hf1 : Grew w (w.alloc (.cells #[.int .i64 t.label, .slice A t.kids.length c] 29)) := grew_alloc _ _
  obtain ⟨x0, x1, _, _⟩ := hxt.cells
  have HDP : Hid (wholeTo (d + 1) t = (t.kids.all (wholeTo d) && t.label != -1)) := rfl
  obtain ⟨w1, hw1⟩ : ∃ w1, w1 = w.alloc (.cells #[.int .i64 t.label, .slice A t.kids.length c] 29) := ⟨_, rfl⟩
  rw [← hw1] at hxt hf1
  have HW1 := Lib.hid hw1
  rw [HDP.out]
  clear hk ih HDP hw1
  generalize t.kids = ks at *
  generalize t.label = lb at *
  go_enter Tryz.func39, Tryz.ntmps39
  go_wp2_with fail
  rw [← HW1.out]
  clear x0 x1
  go_loopw [8] (fun i wr => ∃ k : Nat, k ≤ ks.length ∧ i = .int .i64 k ∧ Grew w1 wr ∧ Hid (ks.all (wholeTo d) = (ks.drop k).all (wholeTo d))) (fun i _ => ks.length - (intOf i).toNat)
  case atStart => exact ⟨0, Nat.zero_le _, rfl, grew_refl _, rfl⟩
  case round =>
    obtain ⟨k, hk, rfl, hfr, HC⟩ := hrel
    by_cases hlt : k < ks.length
    · obtain ⟨b, o, p0, p1, rfl, hb, hp0, hp1, hpt⟩ := (hK.frm (grew_trans hf1 hfr).1 (stays_rd (moves_tr d))).at2 k hlt
      have HT : Hid ((ks.drop k).all (wholeTo d) = (wholeTo d ks[k] && (ks.drop (k + 1)).all (wholeTo d))) := by
        unfold Hid
        rw [List.drop_eq_getElem_cons hlt, List.all_cons]
      generalize ks[k] = y at *
      obtain ⟨rfl, A1, n1, c1, rfl⟩ : p0 = .int .i64 y.label ∧ ∃ A1 n1 c1, p1 = .slice A1 n1 c1 := by
        cases d with
        | zero => exact hpt.elim
        | succ d =>
          obtain ⟨u, h, _, hsl⟩ := hpt
          simp only [List.cons.injEq, and_true] at h
          obtain ⟨h1, rfl⟩ := h
          obtain ⟨A1, c1, h2, _⟩ := hsl.val
          exact ⟨h1, _, _, _, h2⟩
      have hC := Lib.hid (HIH.out y (wr.alloc (.cells #[.int .i64 y.label, .slice A1 n1 c1] 29)) _ (rdO_frm (moves_tr d) (frm_alloc _ _) hpt))
      clear hpt
      generalize hwd : wholeTo d y = dy at *
      clear hwd
      generalize y.label = ly at *
      go_wp2_with fail
      refine hC.out.mono ?_
      rintro e w2 ⟨rfl, hf2⟩
      have hG := grew_trans (grew_then_alloc hfr (.cells #[.int .i64 ly, .slice A1 n1 c1] 29)) hf2
      dsimp only
      cases dy with
      | false =>
        have HD : Hid ((ks.all (wholeTo d) && lb != -1) = false) := by unfold Hid; rw [HC.out, HT.out]; rfl
        go_wp2_with fail
        exact bodyPost_ret (results_tmp rfl _ _ _) rfl ⟨by rw [HD.out]; rfl, grew_trans hf1 hG⟩
      | true =>
        have HD : Hid (ks.all (wholeTo d) = (ks.drop (k + 1)).all (wholeTo d)) := by unfold Hid; rw [HC.out, HT.out]; rfl
        go_wp2_with fail
        exact ⟨⟨k + 1, by omega, by go_num, hG, HD.out⟩, by simp [intOf]; omega⟩
    · obtain rfl : k = ks.length := by omega
      have HD : Hid ((ks.all (wholeTo d) && lb != -1) = (lb != -1)) := by
        unfold Hid
        rw [HC.out, List.drop_eq_nil_of_le (by omega)]
        simp
      obtain ⟨y0, y1, _, _⟩ := (hxt.frm hfr.1).cells
      go_wp2_with fail
      exact bodyPost_ret (results_tmp rfl _ _ _) rfl ⟨by rw [HD.out]; rfl, grew_trans hf1 hfr⟩
end Go.Proofs.YtjpdmncafacmaaaGreatDoor
end
/- The reference's over: a tree fits the ranks. -/
section
set_option linter.unusedVariables false
set_option linter.unusedSimpArgs false
namespace Go.Proofs.YtjpdmncafacmaaaGreatDoor
open Go.RowKit

/-- Each part has a symbol's label, and as many kids as that asks. -/
def fitsTo (ranks : List Int) : Nat → Tr → Prop
  | 0, _ => True
  | d + 1, t => (0 ≤ t.label ∧ t.label < ranks.length ∧ ranks.getD t.label.toNat 0 = t.kids.length) ∧ ∀ y ∈ t.kids, fitsTo ranks d y
set_option maxRecDepth 20000 in
set_option maxHeartbeats 1000000 in
theorem over_calls (ranks : List Int) : ∀ (d : Nat) (t : Tr) (w : World) (v u : Value) (ht : rdO (TrD d) w t [.int .i64 t.label, v]), SlO w 1 (rdO IntR) ranks u → fitsTo ranks d t →
    Calls Tryz.prog 65 #[u, .agg #[.int .i64 t.label, v]] w (RetD w (.bool true)) := by
  intro d
  induction d with
  | zero => intro t w v u ht; exact ht.elim
  | succ d ih =>
  intro t w v u ht hu hfits
  obtain ⟨v', hv, hlb, hk⟩ := ht
  simp only [List.cons.injEq, and_true, true_and] at hv
  subst hv
  have hK : SlO w 2 (rdO (TrD d)) t.kids v := hk
  obtain ⟨A, c, rfl, hc, hm⟩ := hK.val
  obtain ⟨B, c', rfl, hc', hm'⟩ := hu.val
  obtain ⟨⟨h0, h1, h2⟩, h3⟩ := hfits
  have HIH := Lib.hid ih
  have HF := Lib.hid h3
  have hxt := TwoAt.new w (.int .i64 t.label) (.slice A t.kids.length c) 29
  have hf1 : Grew w (w.alloc (.cells #[.int .i64 t.label, .slice A t.kids.length c] 29)) := grew_alloc _ _
  have hln : t.label.toNat < ranks.length := by omega
  obtain ⟨b, o, p0, rfl, hb, hp0, hpt⟩ := (hu.frm hf1.1 (stays_rd moves_int)).at1 t.label.toNat hln
  obtain ⟨hpv, _⟩ := hpt
  simp only [List.cons.injEq, and_true] at hpv
  rw [show ranks[t.label.toNat] = (t.kids.length : Int) by rw [← h2]; simp [hln]] at hpv
  subst hpv
  obtain ⟨x0, x1, _, _⟩ := hxt.cells
  obtain ⟨w1, hw1⟩ : ∃ w1, w1 = w.alloc (.cells #[.int .i64 t.label, .slice A t.kids.length c] 29) := ⟨_, rfl⟩
  rw [← hw1] at hxt hf1 hp0 x0 x1
  have HW1 := Lib.hid hw1
  clear hk ih h2 h3 hw1
  generalize t.kids = ks at *
  generalize t.label = lb at *
  have g1 : decide (lb < -1) = false := by simp; omega
  have g2 : decide (lb ≥ (ranks.length : Int)) = false := by simp; omega
  have g3 : (lb == -1) = false := by simp; omega
  have g4 : decide (lb ≥ 0) = true := by simp; omega
  have g5 : ((ks.length : Int) != (ks.length : Int)) = false := by simp
  have HU := Lib.hid hu
  clear hu
  go_enter Tryz.func65, Tryz.ntmps65
  go_wp2_with fail
  rw [← HW1.out]
  go_quiet (fail)
  have hG1 : Grew w1 (w1.drewN nq) := ⟨frm_drewN _ nq, Nat.le_add_right _ _⟩
  clear x0 x1
  obtain ⟨x0, x1, _, _⟩ := (hxt.frm hG1.1).cells
  go_wp2_with fail
  generalize w1.drewN nq = w2 at *
  have hf2 := grew_trans hf1 hG1
  go_loopw [47] (fun i wr => ∃ k : Nat, k ≤ ks.length ∧ i = .int .i64 k ∧ Grew w2 wr) (fun i _ => ks.length - (intOf i).toNat)
  case atStart => exact ⟨0, Nat.zero_le _, rfl, grew_refl _⟩
  case round =>
    obtain ⟨k, hk, rfl, hfr⟩ := hrel
    by_cases hlt : k < ks.length
    · have hfw := grew_trans hf2 hfr
      obtain ⟨b9, o9, p0, p1, rfl, hb9, hp0, hp1, hpt⟩ := (hK.frm hfw.1 (stays_rd (moves_tr d))).at2 k hlt
      have hfy := HF.out _ (List.getElem_mem hlt)
      generalize ks[k] = y at *
      obtain ⟨rfl, A1, n1, c1, rfl⟩ : p0 = .int .i64 y.label ∧ ∃ A1 n1 c1, p1 = .slice A1 n1 c1 := by
        cases d with
        | zero => exact hpt.elim
        | succ d =>
          obtain ⟨u, h, _, hsl⟩ := hpt
          simp only [List.cons.injEq, and_true] at h
          obtain ⟨h1, rfl⟩ := h
          obtain ⟨A1, c1, h2, _⟩ := hsl.val
          exact ⟨h1, _, _, _, h2⟩
      have hC := Lib.hid (HIH.out y (wr.alloc (.cells #[.int .i64 y.label, .slice A1 n1 c1] 29)) _ _ (rdO_frm (moves_tr d) (frm_alloc _ _) hpt) (HU.out.frm (grew_then_alloc hfw _).1 (stays_rd moves_int)) hfy)
      clear hpt hfy
      generalize y.label = ly at *
      go_wp2_with fail
      refine hC.out.mono ?_
      rintro e w3 ⟨rfl, hf3⟩
      dsimp only
      go_wp2_with fail
      exact ⟨⟨k + 1, by omega, by go_num, grew_trans (grew_then_alloc hfr _) hf3⟩, by simp [intOf]; omega⟩
    · go_wp2_with fail
      exact bodyPost_ret (results_tmp rfl _ _ _) rfl ⟨rfl, grew_trans hf2 hfr⟩
end Go.Proofs.YtjpdmncafacmaaaGreatDoor
end
/- What Some's tree is, plainly: of the ranks, whole, of the least depth, and accepted. -/
section
set_option linter.unusedVariables false
set_option linter.unusedSimpArgs false
namespace Go.Proofs.YtjpdmncafacmaaaGreatDoor
open Go.RowKit

theorem dn_le {a : Au} {s : Nat} {m : Made} {j : Nat} : ∀ {k}, j ≤ k → dnP a j s = some m → dnP a k s = some m := by
  intro k h hm
  induction k with
  | zero => obtain rfl : j = 0 := by omega
            exact hm
  | succ k ih =>
    by_cases e : j = k + 1
    · subst e; exact hm
    · exact dn_mono (ih (by omega))
/-- The round in which a set is found. -/
def RkAt (a : Au) (s k : Nat) : Prop := (dnP a k s).isSome = true ∧ ∀ j, j < k → dnP a j s = none
theorem rk_pos {a : Au} {s k : Nat} (h : RkAt a s k) : ∃ j, k = j + 1 := by
  cases k with
  | zero => exact absurd h.1 (by simp [dnP])
  | succ j => exact ⟨j, rfl⟩
/-- What is found in a round is found by its way. -/
theorem rk_way {a : Au} {s j : Nat} (h : RkAt a s (j + 1)) {m : Made} (hm : dnP a (j + 1) s = some m) : s < 2 ^ a.moves.length ∧ wayP a (dnP a j) s = some m := by
  have h0 := h.2 j (by omega)
  have hst : dnP a (j + 1) s = (dnP a j s).or (foundP a (dnP a j) (2 ^ a.moves.length) s) := rfl
  rw [hst, h0, Option.none_or] at hm
  obtain ⟨_, h2, h3⟩ := found_none hm
  exact ⟨h2, h3⟩
theorem dn_rk {a : Au} {s : Nat} : ∀ k, (dnP a k s).isSome = true → ∃ j, j ≤ k ∧ RkAt a s j
  | 0, h => by simp [dnP] at h
  | k + 1, h => by
    cases hd : dnP a k s with
    | some m =>
      obtain ⟨j, hj, hr⟩ := dn_rk k (by rw [hd]; rfl)
      exact ⟨j, by omega, hr⟩
    | none =>
      refine ⟨k + 1, Nat.le_refl _, h, fun j hj => ?_⟩
      cases hj2 : dnP a j s with
      | none => rfl
      | some m => rw [dn_le (show j ≤ k by omega) hj2] at hd; cases hd
/-- What a way is. -/
theorem way_has {a : Au} {dn : Nat → Option Made} {s : Nat} {m : Made} (hs : s < 64) (h : wayP a dn s = some m) :
    m.1 < a.ranks.length ∧ there dn (a.rankAt m.1) m.2 = true ∧ ∀ q, s.testBit q = true → ∃ l ∈ a.altsAt m.1 q, ∀ x ∈ l, (m.2.get x.1.toNat).testBit x.2.toNat = true := by
  obtain ⟨sym, hsym, h⟩ := List.exists_of_findSome?_eq_some h
  unfold way1 at h
  obtain ⟨k, hk, rfl⟩ := Option.map_eq_some_iff.1 h
  obtain ⟨h1, _, h3⟩ := choose_has _ _ _ hk
  refine ⟨List.mem_range.1 hsym, h1, fun q hq => h3 q ?_⟩
  rw [bits_eq s hs, List.mem_filter, List.mem_range]
  refine ⟨?_, hq⟩
  by_cases h6 : q < 6
  · exact h6
  · rw [Nat.testBit_lt_two_pow (Nat.lt_of_lt_of_le hs (Nat.pow_le_pow_right (n := 2) (by omega) (show 6 ≤ q by omega)))] at hq
    cases hq
/-- A way of an earlier round's sets would have been found earlier. -/
theorem way_kid {a : Au} (hok : a.ok = true) {s j : Nat} (h : RkAt a s (j + 2)) {m : Made} (hm : dnP a (j + 2) s = some m) : ∃ i, i < a.rankAt m.1 ∧ dnP a j (m.2.get i) = none := by
  obtain ⟨hsn, hw⟩ := rk_way h hm
  have hn := dn_next hok j s hsn
  rw [show (dnP a (j + 1) s).isSome = false by rw [h.2 (j + 1) (by omega)]; rfl] at hn
  have h1 := (Bool.or_eq_false_iff.1 hn.symm).2
  obtain ⟨sym, hsym, hw⟩ := List.exists_of_findSome?_eq_some hw
  unfold way1 at hw
  obtain ⟨k, hk, rfl⟩ := Option.map_eq_some_iff.1 hw
  by_cases ht : there (dnP a j) (a.rankAt sym) k = true
  · exfalso
    rw [List.any_eq_false] at h1
    refine h1 sym hsym ?_
    -- the same choice
    have hc : ∀ (qs : List Nat) (k0 k1 : K4), chooseP (a.altsAt sym) (dnP a (j + 1)) (a.rankAt sym) qs k0 = some k1 → there (dnP a j) (a.rankAt sym) k1 = true → waysP (a.altsAt sym) (dnP a j) (a.rankAt sym) qs k0 = true := by
      intro qs
      induction qs with
      | nil =>
        intro k0 k1 h0 h1
        unfold chooseP at h0
        split at h0
        · injection h0 with h0; subst h0; exact h1
        · cases h0
      | cons q qs ih =>
        intro k0 k1 h0 h1
        unfold chooseP at h0
        split at h0
        · obtain ⟨l, hl, h0⟩ := List.exists_of_findSome?_eq_some h0
          unfold waysP
          rw [List.any_eq_true]
          exact ⟨l, hl, ih _ _ h0 h1⟩
        · cases h0
    exact hc _ _ _ hk ht
  · have ht' : there (dnP a j) (a.rankAt sym) k = false := by simpa using ht
    unfold there at ht'
    rw [List.all_eq_false] at ht'
    obtain ⟨i, hi, hn⟩ := ht'
    exact ⟨i, List.mem_range.1 hi, by simpa using hn⟩
theorem maxL_ge (l : List Nat) (x : Nat) (hx : x ∈ l) : x ≤ maxL l := by
  have h : ∀ (l : List Nat) (a : Nat), a ≤ l.foldl max a ∧ ∀ x ∈ l, x ≤ l.foldl max a := by
    intro l
    induction l with
    | nil => intro a; exact ⟨Nat.le_refl _, by simp⟩
    | cons y l ih =>
      intro a
      obtain ⟨h1, h2⟩ := ih (max a y)
      refine ⟨Nat.le_trans (Nat.le_max_left a y) h1, fun x hx => ?_⟩
      rcases List.mem_cons.1 hx with rfl | hx
      · exact Nat.le_trans (Nat.le_max_right a x) h1
      · exact h2 x hx
  exact (h l 0).2 x hx
/-- The tree's own equation. -/
theorem treeP_eq {a : Au} {dn : Nat → Option Made} {D s : Nat} {m : Made} (h : dn s = some m) : treeP a dn (D + 1) s = .node m.1 ((List.range (a.rankAt m.1)).map fun i => treeP a dn D (m.2.get i)) := by
  show (match dn s with | none => Tr.node 0 [] | some m => .node m.1 ((List.range (a.rankAt m.1)).map fun i => treeP a dn D (m.2.get i))) = _
  rw [h]
/-- The depth is the round. -/
theorem tree_depth {a : Au} (hok : a.ok = true) (K : Nat) : ∀ (k s : Nat), RkAt a s k → k ≤ K → ∀ D, k ≤ D → depthTo D (treeP a (dnP a K) D s) = k := by
  intro k
  induction k using Nat.strongRecOn with
  | ind k ih =>
  intro s hr hkK D hkD
  obtain ⟨j, rfl⟩ := rk_pos hr
  obtain ⟨D, rfl⟩ : ∃ D', D = D' + 1 := ⟨D - 1, by omega⟩
  obtain ⟨m, hm⟩ := Option.isSome_iff_exists.1 hr.1
  have hmK := dn_le hkK hm
  obtain ⟨hsn, hw⟩ := rk_way hr hm
  obtain ⟨_, _, hth⟩ := way_ok hok hw
  rw [treeP_eq hmK]
  show maxL (((List.range (a.rankAt m.1)).map fun i => treeP a (dnP a K) D (m.2.get i)).map (depthTo D)) + 1 = j + 1
  rw [List.map_map]
  have hkid : ∀ i, i < a.rankAt m.1 → ∃ q, q ≤ j ∧ RkAt a (m.2.get i) q ∧ depthTo D (treeP a (dnP a K) D (m.2.get i)) = q := fun i hi => by
    obtain ⟨q, hq, hrq⟩ := dn_rk j (there_at hth hi)
    exact ⟨q, hq, hrq, ih q (by omega) _ hrq (by omega) D (by omega)⟩
  have hle : maxL ((List.range (a.rankAt m.1)).map (depthTo D ∘ fun i => treeP a (dnP a K) D (m.2.get i))) ≤ j := by
    refine maxL_le j _ fun x hx => ?_
    obtain ⟨i, hi, rfl⟩ := List.mem_map.1 hx
    obtain ⟨q, hq, _, he⟩ := hkid i (List.mem_range.1 hi)
    show depthTo D (treeP a (dnP a K) D (m.2.get i)) ≤ j
    omega
  have hge : j ≤ maxL ((List.range (a.rankAt m.1)).map (depthTo D ∘ fun i => treeP a (dnP a K) D (m.2.get i))) := by
    cases j with
    | zero => exact Nat.zero_le _
    | succ j =>
      obtain ⟨i, hi, hnone⟩ := way_kid hok hr hm
      obtain ⟨q, hq, hrq, he⟩ := hkid i hi
      have hqj : q = j + 1 := by
        by_cases h : q ≤ j
        · obtain ⟨m2, hm2⟩ := Option.isSome_iff_exists.1 hrq.1
          rw [dn_le h hm2] at hnone
          cases hnone
        · omega
      refine Nat.le_trans ?_ (maxL_ge _ _ (List.mem_map.2 ⟨i, List.mem_range.2 hi, rfl⟩))
      show j + 1 ≤ depthTo D (treeP a (dnP a K) D (m.2.get i))
      omega
  omega
/-- The tree fits the ranks, and is whole. -/
theorem tree_fits {a : Au} (hok : a.ok = true) (K : Nat) : ∀ (D s : Nat), Dpt a (dnP a K) D s → fitsTo a.ranks D (treeP a (dnP a K) D s) ∧ wholeTo D (treeP a (dnP a K) D s) = true
  | 0, s, h => h.elim
  | D + 1, s, ⟨m, h1, h2, h3, h4⟩ => by
    rw [treeP_eq h1]
    obtain ⟨_, he, _⟩ := au_sym hok h2
    have hd : a.ranks.getD m.1 0 = a.rankAt m.1 := by rw [← he]; simp [h2]
    refine ⟨⟨⟨by show (0 : Int) ≤ (m.1 : Int); omega, by show (m.1 : Int) < a.ranks.length; omega, ?_⟩, ?_⟩, ?_⟩
    · show a.ranks.getD ((m.1 : Int)).toNat 0 = (((List.range (a.rankAt m.1)).map fun i => treeP a (dnP a K) D (m.2.get i)).length : Nat)
      rw [Int.toNat_natCast, hd]
      simp
    · intro y hy
      obtain ⟨i, hi, rfl⟩ := List.mem_map.1 (show y ∈ (List.range (a.rankAt m.1)).map fun i => treeP a (dnP a K) D (m.2.get i) from hy)
      exact (tree_fits hok K D _ (h4 i (List.mem_range.1 hi))).1
    · unfold wholeTo
      rw [Bool.and_eq_true]
      refine ⟨List.all_eq_true.2 fun y hy => ?_, ?_⟩
      · obtain ⟨i, hi, rfl⟩ := List.mem_map.1 (show y ∈ (List.range (a.rankAt m.1)).map fun i => treeP a (dnP a K) D (m.2.get i) from hy)
        exact (tree_fits hok K D _ (h4 i (List.mem_range.1 hi))).2
      · show ((m.1 : Int) != -1) = true
        simp
/-- For each state whether a tree is accepted surely from it. -/
def accTo (a : Au) : Nat → Tr → Nat → Bool
  | 0, _, _ => false
  | D + 1, t, q => (a.altsAt t.label.toNat q).any fun l => l.all fun x => accTo a D (t.kids.getD x.1.toNat (.node 0 [])) x.2.toNat
theorem tree_acc {a : Au} (hok : a.ok = true) (K : Nat) : ∀ (D s : Nat), s < 64 → Dpt a (dnP a K) D s → ∀ q, s.testBit q = true → accTo a D (treeP a (dnP a K) D s) q = true
  | 0, s, _, h => h.elim
  | D + 1, s, hs, ⟨m, h1, h2, h3, h4⟩ => by
    intro q hq
    obtain ⟨k, hk, hr⟩ := dn_rk K (show (dnP a K s).isSome = true by rw [h1]; rfl)
    obtain ⟨j, rfl⟩ := rk_pos hr
    obtain ⟨m', hm'⟩ := Option.isSome_iff_exists.1 hr.1
    have : m' = m := by have := dn_le hk hm'; rw [h1] at this; injection this with this; exact this.symm
    subst this
    obtain ⟨hsn, hw⟩ := rk_way hr hm'
    obtain ⟨_, _, hall⟩ := way_has hs hw
    obtain ⟨l, hl, hx⟩ := hall q hq
    obtain ⟨_, _, hsy⟩ := au_sym hok h2
    have hqn : q < a.moves.length := by
      by_cases h : q < a.moves.length
      · exact h
      · exfalso
        unfold Au.altsAt at hl
        rw [show a.moves.getD q [] = [] by simp [List.getD, List.getElem?_eq_none (Nat.le_of_not_lt h)]] at hl
        simp at hl
    obtain ⟨_, _, _, hbd⟩ := hsy q hqn
    rw [treeP_eq h1]
    unfold accTo
    rw [List.any_eq_true]
    refine ⟨l, hl, List.all_eq_true.2 fun x hxl => ?_⟩
    have hx1 := (hbd l hl).2 x hxl
    have hi : x.1.toNat < a.rankAt m'.1 := by omega
    have he : (Tr.node (m'.1 : Int) ((List.range (a.rankAt m'.1)).map fun i => treeP a (dnP a K) D (m'.2.get i))).kids.getD x.1.toNat (.node 0 []) = treeP a (dnP a K) D (m'.2.get x.1.toNat) := by
      show (((List.range (a.rankAt m'.1)).map fun i => treeP a (dnP a K) D (m'.2.get i))).getD x.1.toNat (.node 0 []) = _
      simp [hi]
    rw [he]
    exact tree_acc hok K D _ (K4.get_lt h3 _) (h4 _ hi) _ (hx x hxl)
/-- A tree of at most four kids at each node has few nodes. -/
theorem size_bd {a : Au} (hok : a.ok = true) (K : Nat) : ∀ (D s : Nat), Dpt a (dnP a K) D s → 3 * sizeTo D (treeP a (dnP a K) D s) + 1 ≤ 4 ^ depthTo D (treeP a (dnP a K) D s)
  | 0, s, h => h.elim
  | D + 1, s, ⟨m, h1, h2, h3, h4⟩ => by
    rw [treeP_eq h1]
    obtain ⟨hr4, _⟩ := au_sym hok h2
    show 3 * ((((List.range (a.rankAt m.1)).map fun i => treeP a (dnP a K) D (m.2.get i)).map (sizeTo D)).sum + 1) + 1 ≤ 4 ^ (maxL (((List.range (a.rankAt m.1)).map fun i => treeP a (dnP a K) D (m.2.get i)).map (depthTo D)) + 1)
    have hall : ∀ t ∈ ((List.range (a.rankAt m.1)).map fun i => treeP a (dnP a K) D (m.2.get i)), 3 * sizeTo D t + 1 ≤ 4 ^ maxL (((List.range (a.rankAt m.1)).map fun i => treeP a (dnP a K) D (m.2.get i)).map (depthTo D)) := fun t ht => by
      obtain ⟨i, hi, rfl⟩ := List.mem_map.1 ht
      refine Nat.le_trans (size_bd hok K D _ (h4 i (List.mem_range.1 hi))) (Nat.pow_le_pow_right (by omega) (maxL_ge _ _ (List.mem_map.2 ⟨_, ht, rfl⟩)))
    have hl : (((List.range (a.rankAt m.1)).map fun i => treeP a (dnP a K) D (m.2.get i))).length ≤ 4 := by simpa using hr4
    generalize ((List.range (a.rankAt m.1)).map fun i => treeP a (dnP a K) D (m.2.get i)) = ks at *
    generalize maxL (ks.map (depthTo D)) = e at *
    have hsum : ∀ l : List Tr, (∀ t ∈ l, 3 * sizeTo D t + 1 ≤ 4 ^ e) → 3 * (l.map (sizeTo D)).sum + l.length ≤ l.length * 4 ^ e := by
      intro l
      induction l with
      | nil => simp
      | cons t l ih =>
        intro h
        have h1 := h t (by simp)
        have h2 := ih fun t ht => h t (by simp [ht])
        simp only [List.map_cons, List.sum_cons, List.length_cons, Nat.add_mul, Nat.one_mul]
        omega
    have h9 := hsum ks hall
    have hp : 1 ≤ 4 ^ e := Nat.one_le_pow _ _ (by omega)
    rw [Nat.pow_succ]
    have hk : ks.length * 4 ^ e + (4 - ks.length) * 4 ^ e = 4 * 4 ^ e := by rw [← Nat.add_mul]; congr 1; omega
    have hm4 : (4 - ks.length) * 1 ≤ (4 - ks.length) * 4 ^ e := Nat.mul_le_mul_left _ hp
    omega
/-- The least depth. -/
def leastP (a : Au) : Nat := ((List.range (2 ^ a.moves.length + 2)).find? fun k => (dnP a k (2 ^ a.start.toNat)).isSome).getD 0
theorem least_some {a : Au} {k : Nat} (h : RkAt a (2 ^ a.start.toNat) k) (hk : k ≤ 2 ^ a.moves.length + 1) : leastP a = k := by
  unfold leastP
  have : (List.range (2 ^ a.moves.length + 2)).find? (fun k => (dnP a k (2 ^ a.start.toNat)).isSome) = some k := by
    rw [List.find?_range_eq_some]
    refine ⟨h.1, List.mem_range.2 (by omega), fun j hj => ?_⟩
    rw [h.2 j hj]
    rfl
  rw [this]
  rfl
theorem least_none {a : Au} (h : ∀ k, k ≤ 2 ^ a.moves.length + 1 → dnP a k (2 ^ a.start.toNat) = none) : leastP a = 0 := by
  unfold leastP
  have : (List.range (2 ^ a.moves.length + 2)).find? (fun k => (dnP a k (2 ^ a.start.toNat)).isSome) = none := by
    rw [List.find?_eq_none]
    intro k hk
    rw [h k (by have := List.mem_range.1 hk; omega)]
    simp
  rw [this]
  rfl
theorem dn_stay {a : Au} {K : Nat} (h : ∀ s, s < 2 ^ a.moves.length → foundP a (dnP a K) (2 ^ a.moves.length) s = none) : ∀ d, dnP a (K + d) = dnP a K
  | 0 => rfl
  | d + 1 => by
    have ih := dn_stay h d
    show stepP a (dnP a (K + d)) = _
    rw [ih]
    funext s
    unfold stepP orF
    have : foundP a (dnP a K) (2 ^ a.moves.length) s = none := by
      by_cases hs : s < 2 ^ a.moves.length
      · exact h s hs
      · exact found_sup (by omega)
    rw [this, Option.or_none]
/-- Some's rounds and the reference's depth. -/
theorem someK_least {a : Au} {K : Nat} (h : SomeK a K) (hst : a.start.toNat < a.moves.length) :
    (dnP a K (2 ^ a.start.toNat) = none → leastP a = 0) ∧ ((dnP a K (2 ^ a.start.toNat)).isSome = true → leastP a = K ∧ RkAt a (2 ^ a.start.toNat) K) := by
  obtain ⟨hK, hp, he⟩ := h
  have hc : ∀ k, k ≤ K → k ≤ cntF (dnP a k) (2 ^ a.moves.length) := by
    intro k
    induction k with
    | zero => exact fun _ => Nat.zero_le _
    | succ k ih =>
      intro hk
      obtain ⟨_, s, hs, hf⟩ := hp k (by omega)
      obtain ⟨m, hm⟩ := Option.isSome_iff_exists.1 hf
      obtain ⟨h0, _, _⟩ := found_none hm
      have h1 : (dnP a (k + 1) s).isSome = true := by
        show ((dnP a k s).or (foundP a (dnP a k) (2 ^ a.moves.length) s)).isSome = true
        rw [h0, hm]; rfl
      have := cnt_lt hs h0 h1 (fun s h => by
        obtain ⟨m, hm⟩ := Option.isSome_iff_exists.1 h
        rw [dn_mono hm]; rfl)
      have := ih (by omega)
      omega
  have hKn : K ≤ 2 ^ a.moves.length := Nat.le_trans (hc K (Nat.le_refl _)) (cnt_le _ _)
  refine ⟨fun hn => ?_, fun hs => ?_⟩
  · have hno := he.resolve_left (by rw [hn]; simp)
    refine least_none fun k hk => ?_
    by_cases hkK : k < K
    · exact (hp k hkK).1
    · obtain ⟨d, rfl⟩ : ∃ d, k = K + d := ⟨k - K, by omega⟩
      rw [dn_stay hno d]
      exact hn
  · have hr : RkAt a (2 ^ a.start.toNat) K := ⟨hs, fun j hj => (hp j hj).1⟩
    exact ⟨least_some hr (by omega), hr⟩
end Go.Proofs.YtjpdmncafacmaaaGreatDoor
end
/- Slices of one-cell values of a call's own that may be written. -/
section
set_option linter.unusedVariables false
set_option linter.unusedSimpArgs false
namespace Go.Proofs.YtjpdmncafacmaaaGreatDoor
open Go.RowKit

/-- A slice from a block's head on, the block being from `base` on and not frozen: these values. -/
def RowV (w : World) (base : Nat) (v : Value) (vs : List Value) : Prop :=
  ∃ A c, v = .slice A vs.length c ∧ vs.length ≤ c ∧ (0 < vs.length → ∃ g, A = some ⟨g, 0, none⟩ ∧ base ≤ g ∧ g < w.heap.size ∧ Unf w g ∧ ∀ i (h : i < vs.length), w.cell? ⟨g, i, none⟩ = some vs[i])
section
variable {w w' : World} {base g : Nat} {T : TypeId} {v : Value} {vs : List Value}
theorem RowV.move (h : RowV w base v vs) (hw : ∀ g, base ≤ g → g < w.heap.size → w'.heap[g]? = w.heap[g]?) (hs : w.heap.size ≤ w'.heap.size) : RowV w' base v vs := by
  obtain ⟨A, c, rfl, hc, hp⟩ := h
  refine ⟨A, c, rfl, hc, fun h0 => ?_⟩
  obtain ⟨g, rfl, hb, hg, hu, hx⟩ := hp h0
  exact ⟨g, rfl, hb, by omega, hu.move (hw g hb hg), fun i hi => (World.cell?_of_block (hw g hb hg)).trans (hx i hi)⟩
theorem RowV.grew (h : RowV w base v vs) (hf : Grew w w') : RowV w' base v vs := h.move (fun g _ hg => frm_lt hf.1 g hg) hf.1.size
theorem RowV.lower {base' : Nat} (h : RowV w base v vs) (hb : base' ≤ base) : RowV w base' v vs := by
  obtain ⟨A, c, rfl, hc, hp⟩ := h
  refine ⟨A, c, rfl, hc, fun h0 => ?_⟩
  obtain ⟨g, e, hbg, hg⟩ := hp h0
  exact ⟨g, e, by omega, hg⟩
theorem RowV.made (h : ValsAt w g T vs) (hb : base ≤ g) (n : Nat) (hn : n = vs.length) : RowV w base (.slice (some ⟨g, 0, none⟩) n n) vs := by
  subst hn
  exact ⟨_, _, rfl, Nat.le_refl _, fun h0 => ⟨g, rfl, hb, h.lt, h.free, fun i hi => by rw [h.cell i]; simp [hi]⟩⟩
theorem RowV.val (h : RowV w base v vs) : ∃ A c, v = .slice A vs.length c ∧ vs.length ≤ c := by
  obtain ⟨A, c, rfl, hc, _⟩ := h
  exact ⟨A, c, rfl, hc⟩
theorem RowV.open {A : Option Addr} {n c : Nat} (h : RowV w base (.slice A n c) vs) (h0 : 0 < vs.length) : ∃ g, A = some ⟨g, 0, none⟩ ∧ base ≤ g ∧ g < w.heap.size ∧ Unf w g ∧ ∀ i (h : i < vs.length), w.cell? ⟨g, i, none⟩ = some vs[i] := by
  obtain ⟨A', c', he, hc, hp⟩ := h
  injection he with e1 e2 e3
  subst e1
  exact hp h0
/-- A cell is written. -/
theorem RowV.put {n c : Nat} (h : RowV w base (.slice (some ⟨g, 0, none⟩) n c) vs) (h0 : 0 < vs.length) (i : Nat) (u : Value) : RowV (w.setCell ⟨g, i, none⟩ u) base (.slice (some ⟨g, 0, none⟩) n c) (vs.set i u) := by
  have hn : n = vs.length := by
    obtain ⟨A', c', he, hc, hp⟩ := h
    injection he
  have hc : vs.length ≤ c := by
    obtain ⟨A', c', he, hc, hp⟩ := h
    injection he with _ _ e
    omega
  obtain ⟨g', e, hb, hg, hu, hx⟩ := h.open h0
  injection e with e
  injection e with e
  subst e
  refine ⟨_, c, by rw [hn, List.length_set], by simpa using hc, fun _ => ⟨g, rfl, hb, by simpa using hg, hu.set _ _, fun j hj => ?_⟩⟩
  have hj' : j < vs.length := by simpa using hj
  have hxj := hx j hj'
  by_cases hij : i = j
  · subst hij
    rw [List.getElem_set_self]
    simp only [World.cell?] at hxj ⊢
    simp only [World.setCell]
    rw [Array.getElem?_modify, if_pos rfl]
    cases hb2 : w.heap[g]? with
    | none => rw [hb2] at hxj; cases hxj
    | some o =>
      rw [hb2] at hxj
      cases o <;> simp at hxj ⊢
      all_goals
        obtain ⟨hlt, _⟩ := Array.getElem?_eq_some_iff.1 hxj
        simp [Array.getElem?_setIfInBounds, hlt]
  · rw [List.getElem_set_ne hij]
    rw [← hxj]
    simp only [World.cell?, World.setCell]
    rw [Array.getElem?_modify, if_pos rfl]
    cases hb2 : w.heap[g]? with
    | none => rfl
    | some o =>
      cases o <;> simp
      all_goals simp [Array.getElem?_setIfInBounds, hij]
end
/-- A row of the call's own, of elements of one cell. -/
theorem Own.rowV {α : Type} {r : RdS α} {f : α → Value} (hr : ∀ S w x cs, r S w x cs → cs = [f x]) {w : World} {base e : Nat} {ok : Nat → Prop} {v : Value} {xs : List α} (h : Own r w base e 1 ok v xs) : RowV w base v (xs.map f) := by
  have hu := h.unf
  have hlt := h.lt
  obtain ⟨inner, ⟨hl, ho⟩, h1, hx⟩ := h
  rcases ho with ⟨rfl, h0⟩ | ⟨g, cap, cur, rfl, hb, hg, hc, hcm, hcs, htake⟩
  · exact ⟨none, 0, by simp [h0], by simp [h0], fun h => by simp at h; omega⟩
  · refine ⟨_, cap, by simp, by simpa using hc, fun _ => ⟨g, rfl, (hlt g rfl).1, (hlt g rfl).2, hu g rfl, fun i hi => ?_⟩⟩
    have hi' : i < xs.length := by simpa using hi
    obtain ⟨cs, hcl, hcc, hrr⟩ := hx i hi'
    have := hr _ _ _ _ hrr
    subst this
    have h2 := hcc 0 (by omega)
    rw [← htake, List.getElem?_take, if_pos (by omega)] at h2
    simpa [World.cell?, hg] using h2
/-- It reads. -/
theorem RowV.sl {α : Type} {r : RdS α} {f : α → Value} {w : World} {base : Nat} {v : Value} {xs : List α} (h : RowV w base v (xs.map f)) (hr : ∀ S x, x ∈ xs → r S w x [f x]) (hm : xs.length ≤ 1000000) {S : Nat → Prop} (hS : ∀ g, base ≤ g → g < w.heap.size → S g) : Sl S w 1 (r S w) xs v := by
  obtain ⟨A, c, rfl, hc, hp⟩ := h
  simp only [List.length_map] at hc hp
  refine ⟨A, c, by simp, hc, by omega, fun h0 => ?_⟩
  obtain ⟨g, rfl, hb, hg, hu, hx⟩ := hp h0
  refine ⟨g, 0, rfl, hS g hb hg, fun i hi => ⟨[f xs[i]], rfl, fun j hj => ?_, hr _ _ (List.getElem_mem hi)⟩⟩
  obtain rfl : j = 0 := by omega
  have := hx i hi
  simpa using this
theorem bol_one : ∀ (S : Nat → Prop) (w : World) (x : Bool) cs, BolR S w x cs → cs = [boolV x] := fun _ _ _ _ h => h
theorem int_one : ∀ (S : Nat → Prop) (w : World) (x : Int) cs, IntR S w x cs → cs = [intV x] := fun _ _ _ _ h => h.1
theorem RowV.bools {w : World} {base : Nat} {v : Value} {xs : List Bool} (h : RowV w base v (xs.map boolV)) (hm : xs.length ≤ 1000000) {S : Nat → Prop} (hS : ∀ g, base ≤ g → g < w.heap.size → S g) : Sl S w 1 (BolR S w) xs v :=
  h.sl (r := BolR) (fun _ _ _ => rfl) hm hS
theorem RowV.ints {w : World} {base : Nat} {v : Value} {xs : List Int} (h : RowV w base v (xs.map intV)) (hm : xs.length ≤ 1000000) (hb : ∀ x ∈ xs, -9223372036854775808 ≤ x ∧ x ≤ 9223372036854775807) {S : Nat → Prop} (hS : ∀ g, base ≤ g → g < w.heap.size → S g) : Sl S w 1 (IntR S w) xs v :=
  h.sl (r := IntR) (fun _ x hx => ⟨rfl, hb x hx⟩) hm hS
/-! ### A table written from the left -/
def tabU {α : Type} (n q : Nat) (f g : Nat → α) : List α := (List.range n).map fun i => if i < q then f i else g i
section
variable {α : Type} {n q : Nat} {f g : Nat → α}
theorem tabU_len : (tabU n q f g).length = n := by unfold tabU; simp
theorem tabU_zero : tabU n 0 f g = (List.range n).map g := by unfold tabU; simp
theorem tabU_end : tabU n n f g = (List.range n).map f := by
  unfold tabU
  exact List.map_congr_left fun i hi => if_pos (List.mem_range.1 hi)
theorem tabU_at? {i : Nat} (h : i < n) : (tabU n q f g)[i]? = some (if i < q then f i else g i) := by unfold tabU; simp [h]
theorem tabU_at {h : q < (tabU n q f g).length} : (tabU n q f g)[q] = g q := by
  have e := tabU_at? (f := f) (g := g) (q := q) (show q < n by rw [tabU_len] at h; exact h)
  rw [List.getElem?_eq_getElem h] at e
  injection e with e
  rw [e, if_neg (Nat.lt_irrefl q)]
theorem tabU_succ (h : q < n) : (tabU n q f g).set q (f q) = tabU n (q + 1) f g := by
  apply List.ext_getElem?
  intro i
  rw [List.getElem?_set]
  by_cases hi : i < n
  · rw [tabU_at? hi, tabU_at? hi]
    by_cases e : q = i
    · subst e
      rw [if_pos rfl, if_pos (by rw [tabU_len]; exact h), if_pos (by omega)]
    · rw [if_neg e]
      by_cases h1 : i < q
      · rw [if_pos h1, if_pos (by omega)]
      · rw [if_neg h1, if_neg (by omega)]
  · rw [if_neg (by omega), List.getElem?_eq_none (by rw [tabU_len]; omega), List.getElem?_eq_none (by rw [tabU_len]; omega)]
theorem tabU_self : (tabU n q f g).set q (g q) = tabU n q f g := by
  apply List.ext_getElem?
  intro i
  rw [List.getElem?_set]
  by_cases e : q = i
  · subst e
    rw [if_pos rfl]
    by_cases h : q < n
    · rw [if_pos (by rw [tabU_len]; exact h), tabU_at? h, if_neg (by omega)]
    · rw [if_neg (by rw [tabU_len]; exact h), List.getElem?_eq_none (by rw [tabU_len]; omega)]
  · rw [if_neg e]
end
end Go.Proofs.YtjpdmncafacmaaaGreatDoor
end
/- The states that are needed: the least closed set, plainly. -/
section
set_option linter.unusedVariables false
set_option linter.unusedSimpArgs false
namespace Go.Proofs.YtjpdmncafacmaaaGreatDoor
open Go.RowKit

/-- The states that a state needs. -/
def needsOf (a : Au) (q : Nat) : List Nat := ((a.moves.getD q []).flatten.flatten).map fun x : Nd => x.2.toNat
def ClosedS (a : Au) (C : Nat → Prop) : Prop := ∀ q, C q → ∀ s ∈ needsOf a q, C s
open Classical in
/-- A state is needed if it is in every closed set that holds the start. -/
noncomputable def reachB (a : Au) (s : Nat) : Bool := decide (∀ C : Nat → Prop, ClosedS a C → C a.start.toNat → C s)
theorem reach_iff (a : Au) (s : Nat) : reachB a s = true ↔ ∀ C : Nat → Prop, ClosedS a C → C a.start.toNat → C s := by
  unfold reachB
  exact @decide_eq_true_iff _ (Classical.propDecidable _)
theorem reach_start (a : Au) : reachB a a.start.toNat = true := (reach_iff _ _).2 fun _ _ h => h
theorem reach_step {a : Au} {q s : Nat} (h : reachB a q = true) (hs : s ∈ needsOf a q) : reachB a s = true :=
  (reach_iff _ _).2 fun C hC h0 => hC q ((reach_iff _ _).1 h C hC h0) s hs
/-- A closed set of needed states that holds the start holds them all. -/
theorem reach_eq {a : Au} {p : Nat → Bool} (h0 : p a.start.toNat = true) (hc : ∀ q, p q = true → ∀ s ∈ needsOf a q, p s = true) (hs : ∀ s, p s = true → reachB a s = true) : ∀ s, p s = reachB a s := by
  intro s
  cases h : reachB a s
  · cases h1 : p s
    · rfl
    · rw [hs s h1] at h; cases h
  · exact (reach_iff _ _).1 h (fun s => p s = true) hc h0
theorem mem_needs {a : Au} {q : Nat} {row : List (List (List Nd))} (hq : a.moves.getD q [] = row) {alts : List (List Nd)} (h1 : alts ∈ row) {l : List Nd} (h2 : l ∈ alts) {x : Nd} (h3 : x ∈ l) : x.2.toNat ∈ needsOf a q := by
  unfold needsOf
  rw [hq]
  exact List.mem_map.2 ⟨x, List.mem_flatten.2 ⟨l, List.mem_flatten.2 ⟨alts, h1, h2⟩, h3⟩, rfl⟩
theorem needs_mem {a : Au} {q s : Nat} (h : s ∈ needsOf a q) : ∃ alts ∈ a.moves.getD q [], ∃ l ∈ alts, ∃ x ∈ l, x.2.toNat = s := by
  unfold needsOf at h
  obtain ⟨x, hx, rfl⟩ := List.mem_map.1 h
  obtain ⟨l, hl, hx⟩ := List.mem_flatten.1 hx
  obtain ⟨alts, ha, hl⟩ := List.mem_flatten.1 hl
  exact ⟨alts, ha, l, hl, x, hx, rfl⟩
theorem needs_lt {a : Au} (h : a.ok = true) {q s : Nat} (hs : s ∈ needsOf a q) : s < a.moves.length := by
  obtain ⟨alts, h1, l, h2, x, h3, rfl⟩ := needs_mem hs
  by_cases hq : q < a.moves.length
  · rw [List.getD_eq_getElem?_getD, List.getElem?_eq_getElem hq, Option.getD_some] at h1
    have := ok_state h _ (List.getElem_mem hq) _ h1 _ h2 _ h3
    omega
  · rw [List.getD_eq_getElem?_getD, List.getElem?_eq_none (by omega)] at h1
    simp at h1
theorem reach_lt {a : Au} (h : a.ok = true) {s : Nat} (hs : reachB a s = true) : s < a.moves.length :=
  (reach_iff _ _).1 hs (fun s => s < a.moves.length) (fun q _ s hs => needs_lt h hs) (ok_parts h).2.2.2.2.1

/-! ### The reference's rounds -/
structure Infl (F : List Bool → List Bool) (E : List (Nat × Nat)) : Prop where
  len : ∀ N, (F N).length = N.length
  mono : ∀ N s, N.getD s false = true → (F N).getD s false = true
  sound : ∀ C : Nat → Prop, (∀ e ∈ E, C e.1 → C e.2) → ∀ N, (∀ s, N.getD s false = true → C s) → ∀ s, (F N).getD s false = true → C s
  comp : ∀ N, F N = N → ∀ e ∈ E, e.2 < N.length → N.getD e.1 false = true → N.getD e.2 false = true
theorem list_ext_getD : ∀ {N M : List Bool}, N.length = M.length → (∀ s, N.getD s false = true → M.getD s false = true) → (∀ s, M.getD s false = true → N.getD s false = true) → N = M
  | [], [], _, _, _ => rfl
  | a :: N, b :: M, hl, h1, h2 => by
    have e : a = b := by
      have q1 := h1 0
      have q2 := h2 0
      simp at q1 q2
      cases a <;> cases b <;> simp_all
    rw [e, list_ext_getD (N := N) (M := M) (by simpa using hl) (fun s hs => by simpa using h1 (s + 1) (by simpa using hs)) (fun s hs => by simpa using h2 (s + 1) (by simpa using hs))]
theorem Infl.id : Infl (fun N => N) [] := ⟨fun _ => rfl, fun _ _ h => h, fun _ _ _ h => h, fun _ _ e he => by simp at he⟩
theorem Infl.then {F G : List Bool → List Bool} {E E' : List (Nat × Nat)} (h : Infl F E) (h' : Infl G E') : Infl (fun N => G (F N)) (E ++ E') := by
  refine ⟨fun N => (h'.len _).trans (h.len _), fun N s hs => h'.mono _ _ (h.mono _ _ hs), fun C hC N hN => ?_, fun N hN => ?_⟩
  · exact h'.sound C (fun e he => hC e (List.mem_append.2 (.inr he))) _ (h.sound C (fun e he => hC e (List.mem_append.2 (.inl he))) N hN)
  · have hF : F N = N := (list_ext_getD (h.len N).symm (fun s hs => h.mono N s hs) (fun s hs => by
      have := h'.mono (F N) s hs
      have hN' : G (F N) = N := hN
      exact hN' ▸ this)).symm
    have hG : G N = N := by
      have hN' : G (F N) = N := hN
      rwa [hF] at hN'
    intro e he
    rcases List.mem_append.1 he with he | he
    · exact h.comp N hF e he
    · exact h'.comp N hG e he
theorem getD_set (N : List Bool) (s t : Nat) (b : Bool) : (N.set s b).getD t false = if s = t ∧ s < N.length then b else N.getD t false := by
  simp only [List.getD_eq_getElem?_getD, List.getElem?_set]
  by_cases h : s = t
  · subst h
    by_cases h2 : s < N.length
    · simp [h2]
    · simp [h2]
  · simp [h]
/-- One edge: if the first is needed, the second is. -/
def edgeN (q : Nat) (N : List Bool) (s : Nat) : List Bool := N.set s (N.getD s false || N.getD q false)
theorem Infl.edge (q s : Nat) : Infl (fun N => edgeN q N s) [(q, s)] := by
  refine ⟨fun N => by unfold edgeN; simp, fun N t ht => ?_, fun C hC N hN t ht => ?_, fun N hN e he hl h1 => ?_⟩
  · show (edgeN q N s).getD t false = true
    unfold edgeN
    rw [getD_set]
    split
    · rename_i h
      obtain ⟨rfl, _⟩ := h
      rw [ht]
      rfl
    · exact ht
  · have ht' : (edgeN q N s).getD t false = true := ht
    unfold edgeN at ht'
    rw [getD_set] at ht'
    split at ht'
    · rename_i h
      obtain ⟨rfl, _⟩ := h
      rw [Bool.or_eq_true] at ht'
      rcases ht' with h | h
      · exact hN _ h
      · exact hC (q, s) (by simp) (hN _ h)
    · exact hN _ ht'
  · obtain rfl := List.mem_singleton.1 he
    have hN' : edgeN q N s = N := hN
    have h2 : (edgeN q N s).getD s false = true := by
      unfold edgeN
      rw [getD_set, if_pos ⟨rfl, hl⟩]
      have : N.getD q false = true := h1
      rw [this, Bool.or_true]
    rwa [hN'] at h2
theorem Infl.fold {α : Type} (f : List Bool → α → List Bool) (E : α → List (Nat × Nat)) (h : ∀ x, Infl (fun N => f N x) (E x)) : ∀ L : List α, Infl (fun N => L.foldl f N) (L.flatMap E)
  | [] => Infl.id
  | x :: L => by
    have := (h x).then (Infl.fold f E h L)
    simpa using this
def rowN (a : Au) (N : List Bool) (q : Nat) : List Bool := (needsOf a q).foldl (edgeN q) N
def roundN (a : Au) (N : List Bool) : List Bool := (List.range a.moves.length).foldl (rowN a) N
def edgesN (a : Au) : List (Nat × Nat) := (List.range a.moves.length).flatMap fun q => (needsOf a q).flatMap fun s => [(q, s)]
theorem infl_round (a : Au) : Infl (roundN a) (edgesN a) := Infl.fold (rowN a) _ (fun q => Infl.fold (edgeN q) _ (fun s => Infl.edge q s) _) _
theorem edges_mem {a : Au} {e : Nat × Nat} : e ∈ edgesN a ↔ e.1 < a.moves.length ∧ e.2 ∈ needsOf a e.1 := by
  unfold edgesN
  simp only [List.mem_flatMap, List.mem_range, List.mem_singleton]
  constructor
  · rintro ⟨q, hq, s, hs, rfl⟩
    exact ⟨hq, hs⟩
  · rintro ⟨h1, h2⟩
    exact ⟨e.1, h1, e.2, h2, rfl⟩
theorem cnt_less : ∀ {N M : List Bool}, N.length = M.length → (∀ s, N.getD s false = true → M.getD s false = true) → N.count true ≤ M.count true ∧ (N ≠ M → N.count true < M.count true)
  | [], [], _, _ => ⟨Nat.le_refl _, fun h => absurd rfl h⟩
  | a :: N, b :: M, hl, h1 => by
    obtain ⟨i1, i2⟩ := cnt_less (N := N) (M := M) (by simpa using hl) (fun s hs => by simpa using h1 (s + 1) (by simpa using hs))
    have q1 := h1 0
    simp at q1
    cases a <;> cases b <;> simp_all <;> omega
def iterN (a : Au) (N : List Bool) : Nat → List Bool
  | 0 => N
  | r + 1 => roundN a (iterN a N r)
theorem iter_len (a : Au) (N : List Bool) : ∀ r, (iterN a N r).length = N.length
  | 0 => rfl
  | r + 1 => ((infl_round a).len _).trans (iter_len a N r)
theorem iter_stay (a : Au) (N : List Bool) (h0 : 1 ≤ N.count true) : ∀ r, roundN a (iterN a N r) = iterN a N r ∨ 1 + r ≤ (iterN a N r).count true
  | 0 => .inr (by simpa [iterN] using h0)
  | r + 1 => by
    by_cases h : roundN a (iterN a N r) = iterN a N r
    · left
      show roundN a (roundN a (iterN a N r)) = roundN a (iterN a N r)
      rw [h, h]
    · rcases iter_stay a N h0 r with h1 | h1
      · exact absurd h1 h
      · right
        have := (cnt_less ((infl_round a).len (iterN a N r)).symm (fun s hs => (infl_round a).mono _ s hs)).2 (fun e => h e.symm)
        show _ ≤ (roundN a (iterN a N r)).count true
        omega
theorem iter_mono (a : Au) (N : List Bool) (s : Nat) (h : N.getD s false = true) : ∀ r, (iterN a N r).getD s false = true
  | 0 => h
  | r + 1 => (infl_round a).mono _ _ (iter_mono a N s h r)
theorem iter_sound {a : Au} {N : List Bool} (h : ∀ s, N.getD s false = true → reachB a s = true) : ∀ r s, (iterN a N r).getD s false = true → reachB a s = true
  | 0 => h
  | r + 1 => (infl_round a).sound (fun s => reachB a s = true) (fun e he hs => reach_step hs (edges_mem.1 he).2) _ (iter_sound h r)
def startN (a : Au) : List Bool := (List.replicate a.moves.length false).set a.start.toNat true
/-- After as many rounds as there are states, the needed ones are known. -/
theorem iter_reach {a : Au} (h : a.ok = true) : ∀ s, (iterN a (startN a) a.moves.length).getD s false = reachB a s := by
  have hs := (ok_parts h).2.2.2.2.1
  have hl : (startN a).length = a.moves.length := by unfold startN; simp
  have h0 : (startN a).getD a.start.toNat false = true := by
    unfold startN
    rw [getD_set, if_pos ⟨rfl, by simpa using hs⟩]
  have hc : 1 ≤ (startN a).count true := by
    refine List.count_pos_iff.2 ?_
    unfold startN
    exact List.mem_iff_getElem.2 ⟨a.start.toNat, by simpa using hs, by simp⟩
  have hfix : roundN a (iterN a (startN a) a.moves.length) = iterN a (startN a) a.moves.length := by
    rcases iter_stay a (startN a) hc a.moves.length with h1 | h1
    · exact h1
    · have := List.count_le_length (a := true) (l := iterN a (startN a) a.moves.length)
      rw [iter_len, hl] at this
      omega
  have hil : (iterN a (startN a) a.moves.length).length = a.moves.length := by rw [iter_len, hl]
  refine reach_eq (p := fun s => (iterN a (startN a) a.moves.length).getD s false) (iter_mono a _ _ h0 _) (fun q hq s hs => ?_) (iter_sound (fun s hs => ?_) _)
  · have hq' : q < a.moves.length := by
      rw [← hil]
      have : (iterN a (startN a) a.moves.length).getD q false = true := hq
      by_cases h : q < (iterN a (startN a) a.moves.length).length
      · exact h
      · rw [List.getD_eq_getElem?_getD, List.getElem?_eq_none (by omega)] at this
        cases this
    exact (infl_round a).comp _ hfix (q, s) (edges_mem.2 ⟨hq', hs⟩) (by rw [hil]; exact needs_lt h hs) hq
  · unfold startN at hs
    rw [getD_set] at hs
    split at hs
    · rename_i hh
      rw [← hh.1]
      exact reach_start a
    · rw [List.getD_eq_getElem?_getD, List.getElem?_replicate] at hs
      split at hs <;> cases hs

/-! ### The automaton without the other states -/
def cntB (p : Nat → Bool) (q : Nat) : Nat := ((List.range q).filter p).length
noncomputable def reachL (a : Au) : List Nat := (List.range a.moves.length).filter (reachB a)
/-- The given states of an automaton, states changed by a table. -/
def numA (a : Au) (qs : List Nat) (tl : List Int) : Au := ⟨a.ranks, tl.getD a.start.toNat 0, qs.map fun q => (a.moves.getD q []).map fun alts => altSet (mvd (toL tl) alts)⟩
noncomputable def reachA (a : Au) : Au := numA a (reachL a) ((List.range a.moves.length).map fun q => (cntB (reachB a) q : Int))
noncomputable def reachE (a : Au) : Int := if a.ok then 0 else 10
noncomputable def reachV (a : Au) : Au := if a.ok then reachA a else Au.zero
theorem mvd_congr {f g : Nd → Nd} {alts : List (List Nd)} (h : ∀ l ∈ alts, ∀ x ∈ l, f x = g x) : mvd f alts = mvd g alts := by
  unfold mvd
  refine List.map_congr_left fun l hl => ?_
  rw [List.map_congr_left (h l hl)]
/-- Tables that agree at the needed states make the same. -/
theorem num_eq {a : Au} (h : a.ok = true) {tl tl2 : List Int} (he : ∀ q, reachB a q = true → tl.getD q 0 = tl2.getD q 0) : numA a (reachL a) tl = numA a (reachL a) tl2 := by
  unfold numA
  rw [he _ (reach_start a)]
  congr 1
  refine List.map_congr_left fun q hq => List.map_congr_left fun alts hal => ?_
  rw [mvd_congr fun l hl x hx => ?_]
  unfold toL
  rw [he _ (reach_step (q := q) (List.mem_filter.1 hq).2 (mem_needs rfl hal hl hx))]
theorem tab_at {a : Au} {q : Nat} (hq : q < a.moves.length) : ((List.range a.moves.length).map fun q => (cntB (reachB a) q : Int)).getD q 0 = cntB (reachB a) q := by
  rw [List.getD_eq_getElem?_getD, List.getElem?_map, List.getElem?_range hq]
  rfl
theorem cntB_at (p : Nat → Bool) : ∀ (n i : Nat) (h : i < ((List.range n).filter p).length), cntB p (((List.range n).filter p)[i]) = i := by
  intro n
  induction n with
  | zero => intro i h; simp at h
  | succ n ih =>
    intro i h
    have e : (List.range (n + 1)).filter p = (List.range n).filter p ++ (if p n then [n] else []) := by
      rw [List.range_succ, List.filter_append]
      congr 1
      cases hp : p n <;> simp [hp]
    by_cases hi : i < ((List.range n).filter p).length
    · have : ((List.range (n + 1)).filter p)[i] = ((List.range n).filter p)[i] := by
        simp only [e]
        rw [List.getElem_append_left hi]
      rw [this, ih i hi]
    · cases hp : p n
      · rw [e, hp] at h
        simp at h
        omega
      · rw [e, hp] at h
        have hie : i = ((List.range n).filter p).length := by simp at h; omega
        have : ((List.range (n + 1)).filter p)[i]'(by rw [e, hp]; exact h) = n := by
          simp only [e, hp, if_true]
          rw [List.getElem_append_right (by omega)]
          simp
        rw [this, hie]
        rfl
end Go.Proofs.YtjpdmncafacmaaaGreatDoor
end
/- The reference's Many ends. -/
section
set_option linter.unusedVariables false
set_option linter.unusedSimpArgs false
namespace Go.Proofs.YtjpdmncafacmaaaGreatDoor
open Go.RowKit

/-- An automaton's lists are not too long. -/
def shortA (a : Au) : Prop := a.moves.length ≤ 1000 ∧ ∀ row ∈ a.moves, row.length ≤ 1000 ∧ ∀ alts ∈ row, alts.length ≤ 1000
theorem ok_short {a : Au} (h : a.ok = true) : shortA a := by
  have h1 := ok_rows h
  refine ⟨by omega, fun row hr => ⟨by have := (h1.2 row hr).1; omega, fun alts ha => by have := ((h1.2 row hr).2 alts ha).1; omega⟩⟩
set_option maxRecDepth 100000 in
set_option maxHeartbeats 1000000 in
theorem many_calls (a : Au) (hsh : shortA a) (w : World) (r m : Value) (ha : rdO AuR w a [r, .int .i64 a.start, m]) :
    Calls Tryz.prog 11 #[.agg #[r, .int .i64 a.start, m]] w fun e w' => ∃ b, e = .returned (.bool b) ∧ Grew w w' := by
  obtain ⟨hR, hM, hs1, hs2⟩ := AuR.parts ha
  obtain ⟨A, c, rfl, hc, hlm⟩ := hR.val
  obtain ⟨B, d, rfl, hd, hlm2⟩ := hM.val
  have HM := Lib.hid hM
  have HSH := Lib.hid hsh
  have hml := hsh.1
  have hf1 : Grew w (w.alloc (.cells #[.slice A a.ranks.length c, .int .i64 a.start, .slice B a.moves.length d] 25)) := grew_alloc _ _
  obtain ⟨xa0, xa1, xa2⟩ := (ThreeAt.new w (.slice A a.ranks.length c) (.int .i64 a.start) (.slice B a.moves.length d) 25).cells
  obtain ⟨w1, hw1⟩ : ∃ w1, w1 = w.alloc (.cells #[.slice A a.ranks.length c, .int .i64 a.start, .slice B a.moves.length d] 25) := ⟨_, rfl⟩
  rw [← hw1] at hf1
  have HW1 := Lib.hid hw1
  clear ha hM hsh hw1
  go_enter Tryz.func11, Tryz.ntmps11
  go_wp2_with fail
  rw [← HW1.out]
  clear xa0 xa1 xa2
  go_loopw [11] (fun i wr => ∃ k : Nat, k ≤ a.moves.length ∧ i = .int .i64 k ∧ wr = w1) (fun i _ => a.moves.length - (intOf i).toNat)
  case atStart => exact ⟨0, Nat.zero_le _, rfl, rfl⟩
  case round =>
    obtain ⟨k, hk, rfl, rfl⟩ := hrel
    by_cases hlt : k < a.moves.length
    · obtain ⟨b, o, p0, rfl, hb, hp0', hpt⟩ := HM.out.at1 k hlt
      have hp0 := frm_cell hf1.1 hp0'
      have HRS := Lib.hid (HSH.out.2 _ (List.getElem_mem hlt))
      generalize a.moves[k] = row at *
      have hRow := row_val hpt
      obtain ⟨A2, c2, rfl, hc2, hm2⟩ := hRow.val
      have HRow := Lib.hid hRow
      have hrl := HRS.out.1
      clear hp0' hpt hRow
      go_wp2_with fail
      go_loopw [5, 17] (fun z i wr' => ∃ (j n : Nat), j ≤ row.length ∧ z = .int .i64 n ∧ i = .int .i64 j ∧ n ≤ 1000 * j ∧ wr' = wr) (fun _ i _ => row.length - (intOf i).toNat)
      case atStart => exact ⟨0, 0, Nat.zero_le _, rfl, rfl, by omega, rfl⟩
      case round =>
        obtain ⟨j, n, hj, rfl, rfl, hn, rfl⟩ := hrel
        by_cases hltj : j < row.length
        · obtain ⟨b3, o3, q0, rfl, hb3, hq0', hqt⟩ := HRow.out.at1 j hltj
          have hq0 := frm_cell hf1.1 hq0'
          have hal := HRS.out.2 _ (List.getElem_mem hltj)
          generalize row[j] = alts at *
          obtain ⟨A3, c3, rfl, hc3, hm3⟩ := (row_val hqt).val
          clear hq0' hqt
          go_wp2_with fail
          exact ⟨⟨j + 1, n + alts.length, by omega, by go_num, by go_num, by omega, trivial⟩, by simp [intOf]; omega⟩
        · obtain rfl : j = row.length := by omega
          by_cases hg : n > 24
          · have hgt : (n : Int) > 24 := by omega
            go_wp2_with fail
            exact bodyPost_ret (results_tmp rfl _ _ _) rfl ⟨true, rfl, hf1⟩
          · have hgt : ¬ (n : Int) > 24 := by omega
            go_wp2_with fail
            exact ⟨⟨k + 1, by omega, by go_num, trivial⟩, by simp [intOf]; omega⟩
    · go_wp2_with fail
      exact bodyPost_ret (results_tmp rfl _ _ _) rfl ⟨false, rfl, hf1⟩
end Go.Proofs.YtjpdmncafacmaaaGreatDoor
end
/- What Plain and Reach make is a valid automaton. -/
section
set_option linter.unusedVariables false
set_option linter.unusedSimpArgs false
namespace Go.Proofs.YtjpdmncafacmaaaGreatDoor
open Go.RowKit

theorem symOk_of {n r : Int} {l : List (List Nd)} (h1 : l.length ≤ 12) (h2 : Rises (cmpL Nd.cmp) l) (h3 : ∀ x ∈ l, x.length ≤ 24 ∧ Rises Nd.cmp x ∧ ∀ y ∈ x, 0 ≤ y.1 ∧ y.1 < r ∧ 0 ≤ y.2 ∧ y.2 < n) : symOk n (r, l) = true := by
  unfold symOk
  simp only [Bool.and_eq_true, decide_eq_true_eq, List.all_eq_true]
  refine ⟨⟨h1, fun x hx => ?_⟩, (rise_iff ord_alt _).2 h2⟩
  obtain ⟨q1, q2, q3⟩ := h3 x hx
  unfold altOk
  simp only [Bool.and_eq_true, decide_eq_true_eq, Bool.not_eq_true']
  refine ⟨⟨q1, List.any_eq_false.2 fun y hy => ?_⟩, (rise_iff ord_nd _).2 q2⟩
  have := q3 y hy
  simp only [badNeed, Bool.or_eq_true, decide_eq_true_eq, not_or]
  omega
theorem ok_of {a : Au} (h1 : ranksOk a.ranks = true) (h2 : 1 ≤ a.moves.length ∧ a.moves.length ≤ 6) (h3 : 0 ≤ a.start ∧ a.start < a.moves.length)
    (h4 : ∀ m ∈ a.moves, m.length = a.ranks.length ∧ ∀ f (hf : f < m.length) (hr : f < a.ranks.length), symOk a.n (a.ranks[f], m[f]) = true) : a.ok = true := by
  unfold Au.ok
  simp only [Bool.and_eq_true, decide_eq_true_eq, List.all_eq_true]
  refine ⟨⟨⟨h1, by unfold Au.n; omega⟩, by unfold Au.n; omega⟩, fun m hm => ?_⟩
  obtain ⟨q1, q2⟩ := h4 m hm
  unfold ruleOk
  simp only [Bool.and_eq_true, decide_eq_true_eq, List.all_eq_true]
  refine ⟨q1, fun p hp => ?_⟩
  obtain ⟨i, hi, rfl⟩ := List.getElem_of_mem hp
  simp only [List.length_zip] at hi
  rw [List.getElem_zip]
  exact q2 i (by omega) (by omega)
theorem smallest_sub (s : List (List Nd)) : (smallest s).Sublist s := by
  have h : (List.range s.length).map (fun i => s.getD i []) = s := by
    refine List.ext_getElem (by simp) fun i h1 h2 => ?_
    simp [h2]
  unfold smallest smallTo
  conv => rhs; rw [← h]
  exact List.filter_sublist.map _
theorem plain_ok {a : Au} (h : a.ok = true) : (plainA a).ok = true := by
  obtain ⟨h1, h2, h3, h4, h5, h6⟩ := ok_parts h
  have hn : (plainA a).moves.length = a.moves.length := by unfold plainA plainM; simp
  refine ok_of h1 (by rw [hn]; omega) (by rw [hn]; show 0 ≤ a.start ∧ a.start < _; omega) fun m hm => ?_
  obtain ⟨row, hrow, rfl⟩ := List.mem_map.1 hm
  obtain ⟨q1, q2⟩ := h6 row hrow
  refine ⟨(List.length_map _).trans q1, fun f hf hr => ?_⟩
  have hf' : f < row.length := by simpa using hf
  obtain ⟨p1, p2, p3⟩ := symOk_parts (q2 f hf' hr)
  rw [List.getElem_map]
  have hs := smallest_sub row[f]
  refine symOk_of (Nat.le_trans hs.length_le p1) (((rise_iff ord_alt _).1 p2).sublist hs) fun x hx => ?_
  obtain ⟨r1, r2, r3⟩ := p3 x (hs.subset hx)
  refine ⟨r1, (rise_iff ord_nd _).1 r2, fun y hy => ?_⟩
  have := r3 y hy
  show 0 ≤ y.1 ∧ y.1 < a.ranks[f] ∧ 0 ≤ y.2 ∧ y.2 < ((plainA a).moves.length : Int)
  rw [hn]
  exact this
theorem plain_zero (a : Au) : (plainE a = 0 → (plainV a).okR = true) ∧ (plainE a ≠ 0 → plainV a = Au.zero) := by
  unfold plainE plainV
  cases h : a.ok
  · exact ⟨fun e => by simp at e, fun _ => rfl⟩
  · refine ⟨fun _ => ?_, fun e => by simp at e⟩
    rw [← ok_eq]
    exact plain_ok h
theorem cntB_succ (p : Nat → Bool) (q : Nat) : cntB p (q + 1) = cntB p q + if p q then 1 else 0 := by
  unfold cntB
  rw [List.range_succ, List.filter_append, List.length_append]
  congr 1
  cases h : p q <;> simp [h]
theorem cntB_mono (p : Nat → Bool) {i j : Nat} (h : i ≤ j) : cntB p i ≤ cntB p j := by
  induction h with
  | refl => exact Nat.le_refl _
  | step _ ih => rw [cntB_succ]; omega
theorem cntB_lt (p : Nat → Bool) {q n : Nat} (h : p q = true) (hq : q < n) : cntB p q < cntB p n := by
  have h1 := cntB_succ p q
  rw [h] at h1
  have := cntB_mono p (show q + 1 ≤ n by omega)
  simp at h1
  omega
theorem reach_ok {a : Au} (h : a.ok = true) : (reachA a).ok = true := by
  obtain ⟨h1, h2, h3, h4, h5, h6⟩ := ok_parts h
  have hn : (reachA a).moves.length = cntB (reachB a) a.moves.length := by
    unfold reachA numA reachL cntB
    simp
  have hle : cntB (reachB a) a.moves.length ≤ a.moves.length := by
    unfold cntB
    exact Nat.le_trans (List.length_filter_le _ _) (by simp)
  have hst := cntB_lt (reachB a) (reach_start a) h5
  refine ok_of h1 (by rw [hn]; omega) ?_ fun m hm => ?_
  · rw [hn]
    show 0 ≤ ((List.range a.moves.length).map fun q => (cntB (reachB a) q : Int)).getD a.start.toNat 0 ∧ ((List.range a.moves.length).map fun q => (cntB (reachB a) q : Int)).getD a.start.toNat 0 < _
    rw [tab_at h5]
    omega
  · obtain ⟨q, hq, rfl⟩ := List.mem_map.1 hm
    obtain ⟨hq1, hq2⟩ := List.mem_filter.1 hq
    have hq1 := List.mem_range.1 hq1
    have hrow : a.moves.getD q [] = a.moves[q] := by simp [hq1]
    obtain ⟨q1, q2⟩ := h6 _ (List.getElem_mem hq1)
    simp only [hrow]
    refine ⟨(List.length_map _).trans q1, fun f hf hr => ?_⟩
    have hf' : f < (a.moves[q]).length := by simpa using hf
    obtain ⟨p1, p2, p3⟩ := symOk_parts (q2 f hf' hr)
    rw [List.getElem_map]
    refine symOk_of (Nat.le_trans (rmv_len (toL ((List.range a.moves.length).map fun q => (cntB (reachB a) q : Int))) _) p1) (setL_rises ord_alt _) fun x hx => ?_
    obtain ⟨l, hl, rfl⟩ := List.mem_map.1 ((setL_mem ord_alt _ _).1 hx)
    obtain ⟨r1, r2, r3⟩ := p3 l hl
    refine ⟨Nat.le_trans (ndSet_len _) (by simpa using r1), setL_rises ord_nd _, fun y hy => ?_⟩
    obtain ⟨z, hz, rfl⟩ := List.mem_map.1 ((setL_mem ord_nd _ _).1 hy)
    have h9 := r3 z hz
    have hz2 : reachB a z.2.toNat = true := reach_step hq2 (mem_needs hrow (List.getElem_mem hf') hl hz)
    have hz3 := reach_lt h hz2
    have hz4 := cntB_lt (reachB a) hz2 hz3
    show 0 ≤ z.1 ∧ z.1 < a.ranks[f] ∧ 0 ≤ ((List.range a.moves.length).map fun q => (cntB (reachB a) q : Int)).getD z.2.toNat 0 ∧ ((List.range a.moves.length).map fun q => (cntB (reachB a) q : Int)).getD z.2.toNat 0 < ((reachA a).moves.length : Int)
    rw [hn, tab_at hz3]
    omega
theorem reach_zero (a : Au) : (reachE a = 0 → (reachV a).okR = true) ∧ (reachE a ≠ 0 → reachV a = Au.zero) := by
  unfold reachE reachV
  cases h : a.ok
  · exact ⟨fun e => by simp at e, fun _ => rfl⟩
  · refine ⟨fun _ => ?_, fun e => by simp at e⟩
    rw [← ok_eq]
    exact reach_ok h
end Go.Proofs.YtjpdmncafacmaaaGreatDoor
end
/- Merge, plainly: classes of states, refined until they stay; the reference's rounds come to the same. -/
section
set_option linter.unusedVariables false
set_option linter.unusedSimpArgs false
namespace Go.Proofs.YtjpdmncafacmaaaGreatDoor
open Go.RowKit

/-! ### Rows under a table of classes -/
def rowC (a : Au) (tl : List Int) (q : Nat) : List (List (List Nd)) := (a.moves.getD q []).map fun alts => altSet (mvd (toL tl) alts)
/-- Changing once more what was changed already. -/
theorem alt_again (f g h : Nd → Nd) {alts : List (List Nd)} (hf : ∀ l ∈ alts, ∀ x ∈ l, h x = g (f x)) : altSet (mvd h alts) = altSet (mvd g (altSet (mvd f alts))) := by
  refine rises_unique ord_alt (setL_rises ord_alt _) (setL_rises ord_alt _) fun y => ?_
  have e : ∀ l ∈ alts, ndSet (l.map h) = ndSet ((ndSet (l.map f)).map g) := fun l hl => by
    refine rises_unique ord_nd (setL_rises ord_nd _) (setL_rises ord_nd _) fun z => ?_
    unfold ndSet
    rw [setL_mem ord_nd, setL_mem ord_nd, List.mem_map, List.mem_map]
    constructor
    · rintro ⟨x, hx, rfl⟩
      exact ⟨f x, (setL_mem ord_nd _ _).2 (List.mem_map.2 ⟨x, hx, rfl⟩), (hf l hl x hx).symm⟩
    · rintro ⟨x, hx, rfl⟩
      obtain ⟨x', hx', rfl⟩ := List.mem_map.1 ((setL_mem ord_nd _ _).1 hx)
      exact ⟨x', hx', hf l hl x' hx'⟩
  unfold altSet mvd
  rw [setL_mem ord_alt, setL_mem ord_alt, List.mem_map, List.mem_map]
  constructor
  · rintro ⟨l, hl, rfl⟩
    exact ⟨ndSet (l.map f), (setL_mem ord_alt _ _).2 (List.mem_map.2 ⟨l, hl, rfl⟩), (e l hl).symm⟩
  · rintro ⟨l, hl, rfl⟩
    obtain ⟨l', hl', rfl⟩ := List.mem_map.1 ((setL_mem ord_alt _ _).1 hl)
    exact ⟨l', hl', e l' hl'⟩
/-- Tables that tell the same states apart. -/
def EqC (n : Nat) (tl tl' : List Int) : Prop := ∀ p q, p < n → q < n → (tl.getD p 0 = tl.getD q 0 ↔ tl'.getD p 0 = tl'.getD q 0)
theorem EqC.symm {n : Nat} {tl tl' : List Int} (h : EqC n tl tl') : EqC n tl' tl := fun p q hp hq => (h p q hp hq).symm
open Classical in
/-- The change from one table's classes to another's. -/
noncomputable def chg (n : Nat) (tl tl' : List Int) (x : Nd) : Nd := (x.1, if h : ∃ p, p < n ∧ tl.getD p 0 = x.2 then tl'.getD h.choose 0 else 0)
theorem chg_at {n : Nat} {tl tl' : List Int} (h : EqC n tl tl') {x : Nd} (hx : x.2.toNat < n) : toL tl' x = chg n tl tl' (toL tl x) := by
  have he : ∃ p, p < n ∧ tl.getD p 0 = (toL tl x).2 := ⟨x.2.toNat, hx, rfl⟩
  unfold chg
  rw [dif_pos he]
  obtain ⟨h1, h2⟩ := he.choose_spec
  unfold toL at *
  exact Prod.ext rfl ((h _ _ hx h1).1 h2.symm)
theorem row_chg {a : Au} (hok : a.ok = true) {tl tl' : List Int} (h : EqC a.moves.length tl tl') (q : Nat) : rowC a tl' q = (rowC a tl q).map fun alts => altSet (mvd (chg a.moves.length tl tl') alts) := by
  unfold rowC
  rw [List.map_map]
  refine List.map_congr_left fun alts hal => ?_
  refine alt_again _ _ _ fun l hl x hx => chg_at h ?_
  exact needs_lt hok (mem_needs (q := q) rfl hal hl hx)
def simC (a : Au) (tl : List Int) (p q : Nat) : Bool := decide (tl.getD p 0 = tl.getD q 0) && decide (rowC a tl p = rowC a tl q)
theorem simC_iff {a : Au} {tl : List Int} {p q : Nat} : simC a tl p q = true ↔ tl.getD p 0 = tl.getD q 0 ∧ rowC a tl p = rowC a tl q := by
  unfold simC
  rw [Bool.and_eq_true, decide_eq_true_iff, decide_eq_true_iff]
theorem simC_refl (a : Au) (tl : List Int) (q : Nat) : simC a tl q q = true := simC_iff.2 ⟨rfl, rfl⟩
theorem simC_symm {a : Au} {tl : List Int} {p q : Nat} (h : simC a tl p q = true) : simC a tl q p = true := simC_iff.2 ⟨(simC_iff.1 h).1.symm, (simC_iff.1 h).2.symm⟩
theorem simC_trans {a : Au} {tl : List Int} {p q r : Nat} (h : simC a tl p q = true) (h' : simC a tl q r = true) : simC a tl p r = true :=
  simC_iff.2 ⟨(simC_iff.1 h).1.trans (simC_iff.1 h').1, (simC_iff.1 h).2.trans (simC_iff.1 h').2⟩
theorem simC_eqC {a : Au} (hok : a.ok = true) {tl tl' : List Int} (h : EqC a.moves.length tl tl') {p q : Nat} (hp : p < a.moves.length) (hq : q < a.moves.length) : simC a tl p q = simC a tl' p q := by
  have one : ∀ {tl tl' : List Int}, EqC a.moves.length tl tl' → simC a tl p q = true → simC a tl' p q = true := fun {tl tl'} h hs => by
    obtain ⟨h1, h2⟩ := simC_iff.1 hs
    exact simC_iff.2 ⟨(h p q hp hq).1 h1, by rw [row_chg hok h, row_chg hok h, h2]⟩
  cases h1 : simC a tl p q
  · cases h2 : simC a tl' p q
    · rfl
    · rw [one h.symm h2] at h1; cases h1
  · exact (one h h1).symm
/-- The first state of a state's class. -/
def fstC (a : Au) (tl : List Int) (q : Nat) : Nat := ((List.range (q + 1)).find? fun p => simC a tl p q).getD q
theorem fst_spec (a : Au) (tl : List Int) (q : Nat) : fstC a tl q ≤ q ∧ simC a tl (fstC a tl q) q = true ∧ ∀ p, p < fstC a tl q → simC a tl p q = false := by
  unfold fstC
  cases h : (List.range (q + 1)).find? fun p => simC a tl p q with
  | none =>
    rw [List.find?_eq_none] at h
    have := h q (List.mem_range.2 (by omega))
    rw [simC_refl] at this
    exact absurd rfl this
  | some p =>
    rw [List.find?_range_eq_some] at h
    obtain ⟨h1, h2, h3⟩ := h
    have h2 := List.mem_range.1 h2
    exact ⟨by show p ≤ q; omega, h1, fun j hj => by simpa using h3 j hj⟩
theorem fst_eq {a : Au} {tl : List Int} {p q : Nat} (h : simC a tl p q = true) : fstC a tl p = fstC a tl q := by
  obtain ⟨p1, p2, p3⟩ := fst_spec a tl p
  obtain ⟨q1, q2, q3⟩ := fst_spec a tl q
  rcases Nat.lt_trichotomy (fstC a tl p) (fstC a tl q) with hl | hl | hl
  · have := q3 _ hl
    rw [simC_trans p2 h] at this
    cases this
  · exact hl
  · have := p3 _ hl
    rw [simC_trans q2 (simC_symm h)] at this
    cases this
theorem fst_iff {a : Au} {tl : List Int} {p q : Nat} : fstC a tl p = fstC a tl q ↔ simC a tl p q = true := by
  refine ⟨fun h => ?_, fst_eq⟩
  have h1 := (fst_spec a tl p).2.1
  have h2 := (fst_spec a tl q).2.1
  rw [h] at h1
  exact simC_trans (simC_symm h1) h2
theorem fst_fst (a : Au) (tl : List Int) (q : Nat) : fstC a tl (fstC a tl q) = fstC a tl q := fst_eq (fst_spec a tl q).2.1
theorem fst_eqC {a : Au} (hok : a.ok = true) {tl tl' : List Int} (h : EqC a.moves.length tl tl') {q : Nat} (hq : q < a.moves.length) : fstC a tl q = fstC a tl' q := by
  have hl := fst_spec a tl q
  have hl' := fst_spec a tl' q
  rcases Nat.lt_trichotomy (fstC a tl q) (fstC a tl' q) with h1 | h1 | h1
  · have := hl'.2.2 _ h1
    rw [← simC_eqC hok h (by omega) hq, hl.2.1] at this
    cases this
  · exact h1
  · have := hl.2.2 _ h1
    rw [simC_eqC hok h (by omega) hq, hl'.2.1] at this
    cases this

/-! ### The rounds -/
def tabI (n : Nat) (f : Nat → Nat) : List Int := (List.range n).map fun q => (f q : Int)
theorem tabI_at {n : Nat} (f : Nat → Nat) {q : Nat} (h : q < n) : (tabI n f).getD q 0 = f q := by unfold tabI; simp [h]
theorem tabI_len (n : Nat) (f : Nat → Nat) : (tabI n f).length = n := by unfold tabI; simp
theorem tabI_congr {n : Nat} {f g : Nat → Nat} (h : ∀ q, q < n → f q = g q) : tabI n f = tabI n g := by
  unfold tabI
  exact List.map_congr_left fun q hq => by rw [h q (List.mem_range.1 hq)]
/-- The states' first ones, by rounds. -/
def refC (a : Au) : Nat → Nat → Nat
  | 0 => fun _ => 0
  | k + 1 => fstC a (tabI a.moves.length (refC a k))
/-- The first ones' count ahead of a state. -/
def isF (f : Nat → Nat) (q : Nat) : Bool := f q == q
def numF (f : Nat → Nat) (q : Nat) : Nat := cntB (isF f) (f q)
structure CanC (n : Nat) (f : Nat → Nat) : Prop where
  le : ∀ q, f q ≤ q
  idem : ∀ q, q < n → f (f q) = f q
theorem can_ref (a : Au) : ∀ k, CanC a.moves.length (refC a k)
  | 0 => ⟨fun q => Nat.zero_le _, fun q _ => rfl⟩
  | k + 1 => ⟨fun q => (fst_spec a _ q).1, fun q _ => fst_fst a _ q⟩
theorem num_iff {n : Nat} {f : Nat → Nat} (h : CanC n f) {p q : Nat} (hp : p < n) (hq : q < n) : numF f p = numF f q ↔ f p = f q := by
  refine ⟨fun he => ?_, fun he => by unfold numF; rw [he]⟩
  have h1 : isF f (f p) = true := by unfold isF; rw [h.idem p hp]; simp
  have h2 : isF f (f q) = true := by unfold isF; rw [h.idem q hq]; simp
  unfold numF at he
  rcases Nat.lt_trichotomy (f p) (f q) with hl | hl | hl
  · have := cntB_lt (isF f) h1 hl; omega
  · exact hl
  · have := cntB_lt (isF f) h2 hl; omega
theorem num_eqC (a : Au) {f : Nat → Nat} (h : CanC a.moves.length f) : EqC a.moves.length (tabI a.moves.length f) (tabI a.moves.length (numF f)) := fun p q hp hq => by
  rw [tabI_at _ hp, tabI_at _ hq, tabI_at _ hp, tabI_at _ hq]
  have := num_iff h hp hq
  omega
/-- mix's classes, by rounds. -/
def mixC (a : Au) (k : Nat) : List Int := tabI a.moves.length (numF (refC a k))
/-- A round of mix. -/
theorem mix_fst {a : Au} (hok : a.ok = true) (k : Nat) {q : Nat} (hq : q < a.moves.length) : fstC a (mixC a k) q = refC a (k + 1) q :=
  (fst_eqC hok (num_eqC a (can_ref a k)) hq).symm
theorem mixC_zero (a : Au) : mixC a 0 = List.replicate a.moves.length 0 := by
  unfold mixC tabI
  rw [show (fun q => ((numF (refC a 0) q : Nat) : Int)) = fun _ => (0 : Int) from funext fun q => by unfold numF refC cntB; simp]
  rw [List.map_const']
  simp
/-- How many classes there are. -/
def cntC (a : Au) (k : Nat) : Nat := cntB (isF (refC a k)) a.moves.length
theorem cntC_zero {a : Au} (h : 1 ≤ a.moves.length) : cntC a 0 = 1 := by
  unfold cntC
  have : ∀ n, 1 ≤ n → cntB (isF (refC a 0)) n = 1 := by
    intro n hn
    induction n with
    | zero => omega
    | succ n ih =>
      rw [cntB_succ]
      by_cases h0 : n = 0
      · subst h0; simp [cntB, isF, refC]
      · rw [ih (by omega)]
        have : isF (refC a 0) n = false := by unfold isF refC; simp; omega
        rw [this]
        simp
  exact this _ h
/-- The classes grow finer. -/
theorem ref_finer {a : Au} (k : Nat) {p q : Nat} (hp : p < a.moves.length) (hq : q < a.moves.length) (h : refC a (k + 1) p = refC a (k + 1) q) : refC a k p = refC a k q := by
  have h1 := (simC_iff.1 (fst_iff.1 h)).1
  rw [tabI_at _ hp, tabI_at _ hq] at h1
  omega
theorem isF_finer {a : Au} (k : Nat) {q : Nat} (hq : q < a.moves.length) (h : isF (refC a k) q = true) : isF (refC a (k + 1)) q = true := by
  unfold isF at h ⊢
  have h1 : refC a k q = q := by simpa using h
  have hle := (can_ref a (k + 1)).le q
  have h2 := ref_finer k (show refC a (k + 1) q < a.moves.length by omega) hq ((can_ref a (k + 1)).idem q hq)
  have h3 := (can_ref a k).le (refC a (k + 1) q)
  simp
  omega
theorem cntB_sub {p p' : Nat → Bool} : ∀ n, (∀ q, q < n → p q = true → p' q = true) → cntB p n ≤ cntB p' n ∧ (cntB p n = cntB p' n → ∀ q, q < n → p' q = true → p q = true)
  | 0, _ => ⟨Nat.le_refl _, fun _ q h => absurd h (Nat.not_lt_zero _)⟩
  | n + 1, h => by
    obtain ⟨h1, h2⟩ := cntB_sub n fun q hq => h q (by omega)
    have h3 := h n (by omega)
    rw [cntB_succ, cntB_succ]
    cases hp : p n <;> cases hp' : p' n <;> simp [hp, hp'] at h3 ⊢
    · refine ⟨h1, fun e q hq hq' => ?_⟩
      by_cases e2 : q = n
      · subst e2; rw [hp'] at hq'; cases hq'
      · exact h2 e q (by omega) hq'
    · refine ⟨by omega, fun e => by omega⟩
    · refine ⟨h1, fun e q hq hq' => ?_⟩
      by_cases e2 : q = n
      · subst e2; exact hp
      · exact h2 e q (by omega) hq'
/-- If there are no more classes, they are the same. -/
theorem ref_same {a : Au} {k : Nat} (h : cntC a (k + 1) = cntC a k) : ∀ q, q < a.moves.length → refC a (k + 1) q = refC a k q := by
  have hs := (cntB_sub (p := isF (refC a k)) (p' := isF (refC a (k + 1))) a.moves.length fun q hq => isF_finer k hq).2 h.symm
  intro q hq
  have hle := (can_ref a (k + 1)).le q
  have hid := (can_ref a (k + 1)).idem q hq
  have hlt : refC a (k + 1) q < a.moves.length := by omega
  have h1 := hs _ hlt (by unfold isF; rw [hid]; simp)
  unfold isF at h1
  have h2 : refC a k (refC a (k + 1) q) = refC a (k + 1) q := by simpa using h1
  rw [← h2]
  exact ref_finer k hlt hq hid
theorem ref_next {a : Au} {j k : Nat} (h : ∀ q, q < a.moves.length → refC a j q = refC a k q) : ∀ q, refC a (j + 1) q = refC a (k + 1) q := by
  intro q
  show fstC a (tabI a.moves.length (refC a j)) q = fstC a (tabI a.moves.length (refC a k)) q
  rw [tabI_congr h]
theorem ref_stay {a : Au} {k : Nat} (h : cntC a (k + 1) = cntC a k) : ∀ d q, q < a.moves.length → refC a (k + d) q = refC a k q
  | 0, q, _ => rfl
  | d + 1, q, hq => by
    have := ref_next (ref_stay h d) q
    exact this.trans (ref_same h q hq)
theorem cnt_grow {a : Au} (hn : 1 ≤ a.moves.length) {k : Nat} (h : ∀ j, j < k → cntC a (j + 1) ≠ cntC a j) : k + 1 ≤ cntC a k := by
  induction k with
  | zero => rw [cntC_zero hn]; omega
  | succ k ih =>
    have h1 := ih fun j hj => h j (by omega)
    have h2 := h k (by omega)
    have h3 := (cntB_sub (p := isF (refC a k)) (p' := isF (refC a (k + 1))) a.moves.length fun q hq => isF_finer k hq).1
    unfold cntC at *
    omega
theorem cntC_le (a : Au) (k : Nat) : cntC a k ≤ a.moves.length := by
  unfold cntC cntB
  exact Nat.le_trans (List.length_filter_le _ _) (by simp)
/-- Where mix stops, the reference has the same classes at its end. -/
theorem ref_end {a : Au} (hn : 1 ≤ a.moves.length) {k : Nat} (h : ∀ j, j < k → cntC a (j + 1) ≠ cntC a j) (he : cntC a (k + 1) = cntC a k) : ∀ q, q < a.moves.length → refC a a.moves.length q = refC a (k + 1) q := by
  have h1 := cnt_grow hn h
  have h2 := cntC_le a k
  intro q hq
  obtain ⟨d, hd⟩ : ∃ d, a.moves.length = k + d := ⟨a.moves.length - k, by omega⟩
  have h3 := ref_stay he d q hq
  rw [← hd] at h3
  rw [h3]
  exact (ref_stay he 1 q hq).symm

/-! ### The automaton -/
def frsL (a : Au) (f : Nat → Nat) : List Nat := (List.range a.moves.length).filter (isF f)
/-- Merge of a plain automaton. -/
def mergeF (a : Au) (f : Nat → Nat) : Au := numA a (frsL a f) (tabI a.moves.length (numF f))
def mergeA (a : Au) : Au := mergeF a (refC a a.moves.length)
theorem merge_end {a : Au} (hn : 1 ≤ a.moves.length) {k : Nat} (h : ∀ j, j < k → cntC a (j + 1) ≠ cntC a j) (he : cntC a (k + 1) = cntC a k) : mergeA a = mergeF a (refC a (k + 1)) := by
  have hq := ref_end hn h he
  unfold mergeA mergeF
  have hi : ∀ q, q < a.moves.length → isF (refC a a.moves.length) q = isF (refC a (k + 1)) q := fun q h => by unfold isF; rw [hq q h]
  have h1 : frsL a (refC a a.moves.length) = frsL a (refC a (k + 1)) := List.filter_congr fun q h => hi q (List.mem_range.1 h)
  have h2 : tabI a.moves.length (numF (refC a a.moves.length)) = tabI a.moves.length (numF (refC a (k + 1))) := tabI_congr fun q h => by
    unfold numF
    rw [hq q h]
    have hle := (can_ref a (k + 1)).le q
    unfold cntB
    rw [List.filter_congr fun p hp => hi p (by have := List.mem_range.1 hp; omega)]
  rw [h1, h2]
theorem mergeF_ok {a : Au} (h : a.ok = true) {f : Nat → Nat} (hf : CanC a.moves.length f) : (mergeF a f).ok = true := by
  obtain ⟨h1, h2, h3, h4, h5, h6⟩ := ok_parts h
  have hn : (mergeF a f).moves.length = cntB (isF f) a.moves.length := by
    unfold mergeF numA frsL cntB
    simp
  have hle : cntB (isF f) a.moves.length ≤ a.moves.length := by
    unfold cntB
    exact Nat.le_trans (List.length_filter_le _ _) (by simp)
  have hlt : ∀ q, q < a.moves.length → numF f q < cntB (isF f) a.moves.length := fun q hq => by
    have := hf.le q
    exact cntB_lt (isF f) (by unfold isF; rw [hf.idem q hq]; simp) (by omega)
  have hst := hlt _ h5
  refine ok_of h1 (by rw [hn]; omega) ?_ fun m hm => ?_
  · rw [hn]
    show 0 ≤ (tabI a.moves.length (numF f)).getD a.start.toNat 0 ∧ (tabI a.moves.length (numF f)).getD a.start.toNat 0 < _
    rw [tabI_at _ h5]
    omega
  · obtain ⟨q, hq, rfl⟩ := List.mem_map.1 hm
    have hq1 := List.mem_range.1 (List.mem_filter.1 hq).1
    have hrow : a.moves.getD q [] = a.moves[q] := by simp [hq1]
    obtain ⟨q1, q2⟩ := h6 _ (List.getElem_mem hq1)
    simp only [hrow]
    refine ⟨(List.length_map _).trans q1, fun s hs hr => ?_⟩
    have hs' : s < (a.moves[q]).length := by simpa using hs
    obtain ⟨p1, p2, p3⟩ := symOk_parts (q2 s hs' hr)
    rw [List.getElem_map]
    refine symOk_of (Nat.le_trans (rmv_len (toL (tabI a.moves.length (numF f))) _) p1) (setL_rises ord_alt _) fun x hx => ?_
    obtain ⟨l, hl, rfl⟩ := List.mem_map.1 ((setL_mem ord_alt _ _).1 hx)
    obtain ⟨r1, r2, r3⟩ := p3 l hl
    refine ⟨Nat.le_trans (ndSet_len _) (by simpa using r1), setL_rises ord_nd _, fun y hy => ?_⟩
    obtain ⟨z, hz, rfl⟩ := List.mem_map.1 ((setL_mem ord_nd _ _).1 hy)
    have h9 := r3 z hz
    have hz3 : z.2.toNat < a.moves.length := by unfold Au.n at h9; omega
    have hz4 := hlt _ hz3
    show 0 ≤ z.1 ∧ z.1 < a.ranks[s] ∧ 0 ≤ (tabI a.moves.length (numF f)).getD z.2.toNat 0 ∧ (tabI a.moves.length (numF f)).getD z.2.toNat 0 < ((mergeF a f).moves.length : Int)
    rw [hn, tabI_at _ hz3]
    omega
/-- mix's list of first states. -/
theorem frs_step {n : Nat} {f : Nat → Nat} (hf : CanC n f) {q : Nat} (hq : q < n) : (numF f q = cntB (isF f) q ↔ isF f q = true) := by
  constructor
  · intro h
    unfold isF
    have hle := hf.le q
    by_cases e : f q = q
    · simp [e]
    · exfalso
      have := cntB_lt (isF f) (q := f q) (n := q) (by unfold isF; rw [hf.idem q hq]; simp) (by omega)
      unfold numF at h
      omega
  · intro h
    unfold isF at h
    have : f q = q := by simpa using h
    unfold numF
    rw [this]
noncomputable def mergeE (a : Au) : Int := if a.ok then 0 else 10
noncomputable def mergeV (a : Au) : Au := if a.ok then mergeA (plainA a) else Au.zero
theorem merge_zero (a : Au) : (mergeE a = 0 → (mergeV a).okR = true) ∧ (mergeE a ≠ 0 → mergeV a = Au.zero) := by
  unfold mergeE mergeV
  cases h : a.ok
  · exact ⟨fun e => by simp at e, fun _ => rfl⟩
  · refine ⟨fun _ => ?_, fun e => by simp at e⟩
    rw [← ok_eq]
    exact mergeF_ok (plain_ok h) (can_ref _ _)
end Go.Proofs.YtjpdmncafacmaaaGreatDoor
end
/- strings.Builder's writers, with the builder's own buffer told. -/
section
set_option linter.unusedVariables false
set_option linter.unusedSimpArgs false
namespace Go.Proofs.YtjpdmncafacmaaaGreatDoor
open Go.RowKit

theorem size_builder : (Tryz.prog.info? 125).map (·.size) = some 2 := by kernel_rfl
theorem lies_builder : liesAt Tryz.prog Tryz.prog.depth 125 (2 / Tryz.prog.cellsOf 125) 0 125 1 = true := by kernel_rfl
theorem info_byte : (Tryz.prog.info? 5).map (fun i => (i.zero, i.size, i.bytes)) = some (some (.int .u8 0), 1, 1) := by kernel_rfl

set_option maxRecDepth 100000 in
theorem copy_fresh (b : Nat) (w : World) (h0 : w.cell? ⟨b, 0, none⟩ = some (.pointer none)) (hsh : w.shape? b = some (125, 2)) (hfz : w.frozen? ⟨b, 0, none⟩ = false) :
    Calls Tryz.prog 118 #[.pointer (some ⟨b, 0, none⟩)] w fun e w' => e = .returned (.tuple #[]) ∧ w' = w.setCell ⟨b, 0, none⟩ (.pointer (some ⟨b, 0, none⟩)) := by
  obtain ⟨j, hj, hjs⟩ := Option.map_eq_some_iff.1 size_builder
  go_enter Tryz.func118, Tryz.ntmps118
  go_wp2
  rw [Lib.run_to_unsafe w ⟨b, 0, none⟩ Tryz.underlying122 Tryz.underlying170 hj (by rw [hjs]; decide) hsh (Nat.zero_lt_succ 1)]
  simp only [Result.andThen]
  rw [Oper.upon_value]
  go_wp2
  rw [run_callFunc_extern Tryz.func141 (by kernel_rfl) (by kernel_rfl) (by kernel_rfl) (e := Extern.AbiNoEscape.same) (by kernel_rfl)]
  rw [Lib.run_noEscape]
  simp only [Result.andThen]
  rw [Oper.upon_value]
  go_wp2
  rw [Lib.run_from_unsafe w ⟨b, 0, none⟩ Tryz.underlying170 Tryz.underlying122 hj hsh lies_builder]
  simp only [Result.andThen]
  rw [Oper.upon_value]
  go_wp2
  go_end0
  exact ⟨rfl, rfl⟩

set_option maxRecDepth 100000 in
theorem copy_used (b : Nat) (w : World) (h0 : w.cell? ⟨b, 0, none⟩ = some (.pointer (some ⟨b, 0, none⟩))) :
    Calls Tryz.prog 118 #[.pointer (some ⟨b, 0, none⟩)] w fun e w' => e = .returned (.tuple #[]) ∧ w' = w := by
  obtain ⟨j, hj, _⟩ := Option.map_eq_some_iff.1 size_builder
  go_enter Tryz.func118, Tryz.ntmps118
  go_wp2
  rw [Lib.run_neq_ptr_same w _ Tryz.underlying122 hj]
  go_wp2
  go_end0
  exact ⟨rfl, rfl⟩

/-- A builder in block `b`, its buffer being `v`: these bytes. -/
def BV (w : World) (B b : Nat) (v : Value) (l : List UInt8) : Prop :=
  B ≤ b ∧ ∃ p, (p = .pointer none ∨ p = .pointer (some ⟨b, 0, none⟩)) ∧ w.heap[b]? = some (.cells #[p, v] 125 (0, 0)) ∧ w.ownsRowF B 5 1 v l.length (Lib.byteCells l) ∧ v.ownBlock ≠ some b
/-- From a world on, all blocks but the builder's and its buffer are as they were; the buffer is the same or new. -/
def FK (w w' : World) (b : Nat) (v v' : Value) : Prop :=
  w.drawn ≤ w'.drawn ∧ w'.os = w.os ∧ w'.tape = w.tape ∧ w'.output = w.output ∧ w.heap.size ≤ w'.heap.size ∧ (∀ k, k < w.heap.size → k ≠ b → some k ≠ v.ownBlock → w'.heap[k]? = w.heap[k]?) ∧
  (v'.ownBlock = v.ownBlock ∨ ∃ g, w.heap.size ≤ g ∧ v'.ownBlock = some g)
theorem FK.refl (w : World) (b : Nat) (v : Value) : FK w w b v v := ⟨Nat.le_refl _, rfl, rfl, rfl, Nat.le_refl _, fun _ _ _ _ => rfl, .inl rfl⟩
theorem FK.trans {w w1 w2 : World} {b : Nat} {v v1 v2 : Value} (h : FK w w1 b v v1) (h' : FK w1 w2 b v1 v2) : FK w w2 b v v2 := by
  obtain ⟨a0, a1, a2, a3, a4, a5, a6⟩ := h
  obtain ⟨b0, b1, b2, b3, b4, b5, b6⟩ := h'
  refine ⟨Nat.le_trans a0 b0, b1.trans a1, b2.trans a2, b3.trans a3, Nat.le_trans a4 b4, fun k hk hb hv => ?_, ?_⟩
  · refine (b5 k (by omega) hb ?_).trans (a5 k hk hb hv)
    rcases a6 with e | ⟨g, hg, e⟩
    · rw [e]; exact hv
    · rw [e]
      intro e2
      injection e2 with e2
      omega
  · rcases b6 with e | ⟨g, hg, e⟩
    · rw [e]; exact a6
    · exact .inr ⟨g, by omega, e⟩
theorem FK.frm {w w1 w2 : World} {b : Nat} {v v1 : Value} (h : FK w w1 b v v1) (h' : Grew w1 w2) : FK w w2 b v v1 :=
  h.trans ⟨h'.2, h'.1.os, h'.1.tape, h'.1.output, h'.1.size, fun k hk _ _ => h'.1.block k hk (by simp), .inl rfl⟩
/-- Blocks above the builder and its buffer are kept. -/
theorem FK.keep {w w' : World} {b : Nat} {v v' : Value} (h : FK w w' b v v') {k : Nat} (hk : k < w.heap.size) (hb : k ≠ b) (hv : some k ≠ v.ownBlock) : w'.heap[k]? = w.heap[k]? := h.2.2.2.2.2.1 k hk hb hv
theorem FK.size {w w' : World} {b : Nat} {v v' : Value} (h : FK w w' b v v') : w.heap.size ≤ w'.heap.size := h.2.2.2.2.1
theorem BV.frm {w w' : World} {B b : Nat} {v : Value} {l : List UInt8} (h : BV w B b v l) (hf : w.grownBy w' none) : BV w' B b v l := by
  obtain ⟨hB, p, hp, hb, hown, hne⟩ := h
  have hlt : b < w.heap.size := (Array.getElem?_eq_some_iff.1 hb).1
  exact ⟨hB, p, hp, (frm_lt hf b hlt).trans hb, hown.kept hf (by cases hv : v.ownBlock <;> simp), hne⟩
theorem BV.lt {w : World} {B b : Nat} {v : Value} {l : List UInt8} (h : BV w B b v l) : b < w.heap.size := by
  obtain ⟨hB, p, hp, hb, hown, hne⟩ := h
  exact (Array.getElem?_eq_some_iff.1 hb).1
theorem BV.buf {w : World} {B b : Nat} {v : Value} {l : List UInt8} (h : BV w B b v l) : ∀ g, v.ownBlock = some g → B ≤ g ∧ g < w.heap.size := by
  obtain ⟨hB, p, hp, hb, hown, hne⟩ := h
  exact fun g hg => hown.lt g hg
theorem BV.is {w : World} {B b : Nat} {v : Value} {l : List UInt8} (h : BV w B b v l) : Lib.IsBuilderF 125 5 B b (Lib.byteCells l) w := by
  obtain ⟨hB, p, hp, hb, hown, hne⟩ := h
  have hown' : w.ownsRowF B 5 1 v (Lib.byteCells l).length (Lib.byteCells l) := by rw [Lib.byteCells_length]; exact hown
  rcases hp with rfl | rfl
  · exact .inl ⟨hB, v, hb, hown', hne⟩
  · exact .inr ⟨hB, v, hb, hown', hne⟩
theorem BV.new (w : World) {B : Nat} (hB : B ≤ w.heap.size) : BV (w.alloc (.cells #[.pointer none, .slice none 0 0] 125)) B w.heap.size (.slice none 0 0) [] :=
  ⟨hB, _, .inl rfl, TwoAt.new _ _ _ _, World.ownsRowF_nil _ _ _ _, by simp [Value.ownBlock]⟩
theorem copy_calls (B b : Nat) (v : Value) (l : List UInt8) (w : World) (h : BV w B b v l) :
    Calls Tryz.prog 118 #[.pointer (some ⟨b, 0, none⟩)] w fun e w' => e = .returned (.tuple #[]) ∧ FK w w' b v v ∧ w'.heap[b]? = some (.cells #[.pointer (some ⟨b, 0, none⟩), v] 125 (0, 0)) ∧ w'.ownsRowF B 5 1 v l.length (Lib.byteCells l) := by
  obtain ⟨hB, p, hp, hb, hown, hne⟩ := h
  rcases hp with rfl | rfl
  · refine (copy_fresh b w (by rw [Lib.cell_of_heap hb]; rfl) (by simp [World.shape?, hb]) (by simp [World.frozen?, hb])).mono ?_
    rintro e w' ⟨rfl, rfl⟩
    refine ⟨rfl, ⟨Nat.le_refl _, rfl, rfl, rfl, by simp, fun k _ hk _ => Below.heap_setCell _ _ _ _ (by show k ≠ b; exact hk), .inl rfl⟩, by simp [World.setCell, Array.getElem?_modify, hb], ?_⟩
    exact hown.kept (row := some b) ⟨rfl, rfl, rfl, by simp [World.setCell], fun k _ hk => Below.heap_setCell _ _ _ _ (fun e => hk (by simp [e]))⟩ (Or.inr hne)
  · refine (copy_used b w (by rw [Lib.cell_of_heap hb]; rfl)).mono ?_
    rintro e w' ⟨rfl, rfl⟩
    exact ⟨rfl, FK.refl _ _ _, hb, hown⟩
/-- What an append to the buffer leaves: where it lies, and what was drawn. -/
def Placed (w w' : World) (v v' : Value) : Prop := (v'.ownBlock = v.ownBlock ∨ ∃ g, w.heap.size ≤ g ∧ v'.ownBlock = some g) ∧ w.drawn ≤ w'.drawn
theorem app_byte {w : World} {B n : Nat} {v : Value} {xs : List Value} (hown : w.ownsRowF B 5 1 v n xs) (ty : TypeId) {g0 : Nat} {c : Value} (hc : w.cell? ⟨g0, 0, none⟩ = some c) (h1 : c.oneCell' = true) (hn : n + 1 ≤ 140737488355328) (hB : B ≤ w.heap.size) :
    ∃ v' w', (Builtin.append_ #[123, 123] ty #[v, .slice (some ⟨g0, 0, none⟩) 1 1]).run Tryz.prog w = .ok v' w' ∧ w'.ownsRowF B 5 1 v' (n + 1) (xs ++ [c]) ∧ w.grownBy w' v.ownBlock ∧ Placed w w' v v' ∧ ∃ g cap, v' = .slice (some ⟨g, 0, none⟩) (n + 1) cap := by
  obtain ⟨i, hi, hz, hsz, hby⟩ := info_parts info_byte
  have hcs : ∀ j u, [c][j]? = some u → w.cell? ((⟨g0, 0, none⟩ : Addr).add j) = some u := fun j u hj => by
    match j, hj with
    | 0, hj =>
      simp at hj
      subst hj
      rw [addr_add]
      exact hc
  obtain ⟨v', w', hr, h2, h3, h4⟩ := run_append_ownF (P := Tryz.prog) (w := w) B 123 ty 5 i (.int .u8 0) 1 1 Tryz.underlying123 hi hz hsz hby rfl (by decide) v n xs hown ⟨g0, 0, none⟩ 1 1 [c] rfl hcs (by simpa using h1) (by unfold maxLen; omega) (by omega) hB
  refine ⟨v', w', hr, h2, h3, ?_, ?_⟩
  · rcases hown.2 with ⟨rfl, h0⟩ | ⟨g, cap, cur, fz, rfl, hbg, hg, hfz, hnc, hcm, hcs2, htake⟩
    · have hr2 := run_append_nil (P := Tryz.prog) w 123 ty 5 i (.int .u8 0) Tryz.underlying123 hi hz ⟨g0, 0, none⟩ 1 1 [c] (by rw [hsz]; rfl) hcs (by omega) (by omega) (by rw [hby]; omega)
      rw [hr2] at hr
      injection hr with e1 e2
      subst e1 e2
      exact ⟨.inr ⟨_, Nat.le_refl _, rfl⟩, Nat.le_succ _⟩
    · by_cases hroom : n + 1 ≤ cap
      · have hr2 := run_append_roomF (P := Tryz.prog) w 123 ty 5 i Tryz.underlying123 hi g n cap cur fz hg (by rw [hsz]; exact hfz) ⟨g0, 0, none⟩ 1 1 [c] (by rw [hsz]; rfl) hcs (by simpa using h1) hroom (by rw [hsz, hcs2]; simp; omega)
        rw [hr2] at hr
        injection hr with e1 e2
        subst e1 e2
        exact ⟨.inl rfl, Nat.le_refl _⟩
      · have holds : ∀ j u, xs[j]? = some u → w.cell? ((⟨g, 0, none⟩ : Addr).add j) = some u := hown.cells (g := g) rfl
        have hr2 := run_append_grow (P := Tryz.prog) w 123 ty 5 i (.int .u8 0) Tryz.underlying123 hi hz ⟨g, 0, none⟩ n cap xs (by rw [hown.1, hsz]) holds ⟨g0, 0, none⟩ 1 1 [c] (by rw [hsz]; rfl) hcs (by omega) (by omega) (growslice_fits (by omega) (by rw [hby]; omega))
        rw [hr2] at hr
        injection hr with e1 e2
        subst e1 e2
        exact ⟨.inr ⟨_, Nat.le_refl _, rfl⟩, Nat.le_succ _⟩
  · rcases h2.2 with ⟨_, h0⟩ | ⟨g, cap, cur, fz, hv, _⟩
    · omega
    · exact ⟨g, cap, hv⟩
theorem app_text {w : World} {B n : Nat} {v : Value} {xs : List Value} (hown : w.ownsRowF B 5 1 v n xs) (ty : TypeId) (s : ByteArray) (h0 : 0 < s.size) (hn : n + s.size ≤ 140737488355328) (hB : B ≤ w.heap.size) :
    ∃ v' w', (Builtin.append_ #[123, 9] ty #[v, .string s]).run Tryz.prog w = .ok v' w' ∧ w'.ownsRowF B 5 1 v' (n + s.size) (xs ++ Lib.strCells s) ∧ w.grownBy w' v.ownBlock ∧ Placed w w' v v' ∧ ∃ g cap, v' = .slice (some ⟨g, 0, none⟩) (n + s.size) cap := by
  obtain ⟨i, hi, hz, hsz, hby⟩ := info_parts info_byte
  obtain ⟨v', w', hr, h2, h3, h4⟩ := Lib.run_append_own_stringF (P := Tryz.prog) (w := w) B 123 9 ty 5 i Tryz.underlying123 Tryz.underlying9 hi hz hsz hby v n xs hown s (by unfold maxLen; omega) hn hB
  refine ⟨v', w', hr, h2, h3, ?_, ?_⟩
  · rcases hown.2 with ⟨rfl, h00⟩ | ⟨g, cap, cur, fz, rfl, hbg, hg, hfz, hnc, hcm, hcs2, htake⟩
    · have hr2 := run_append_nil_string (P := Tryz.prog) w 123 9 ty 5 i (.int .u8 0) Tryz.underlying123 Tryz.underlying9 hi hz s h0 (by omega) (by rw [hby]; omega)
      rw [hr2] at hr
      injection hr with e1 e2
      subst e1 e2
      exact ⟨.inr ⟨_, Nat.le_refl _, rfl⟩, Nat.le_succ _⟩
    · by_cases hroom : n + s.size ≤ cap
      · have hr2 := Lib.run_append_room_stringF (P := Tryz.prog) w 123 9 ty 5 i Tryz.underlying123 Tryz.underlying9 hi hsz g n cap cur fz hg (by simpa using hfz) s hroom (by omega)
        rw [hr2] at hr
        injection hr with e1 e2
        subst e1 e2
        exact ⟨.inl rfl, Nat.le_refl _⟩
      · have holds : ∀ j u, xs[j]? = some u → w.cell? ((⟨g, 0, none⟩ : Addr).add j) = some u := hown.cells (g := g) rfl
        have hr2 := Lib.run_append_grow_string (P := Tryz.prog) w 123 9 ty 5 i (.int .u8 0) Tryz.underlying123 Tryz.underlying9 hi hz ⟨g, 0, none⟩ n cap xs (by rw [hown.1, hsz]) holds s (by omega) (by omega) (by rw [hby]; exact growslice_fits (by omega) (by omega))
        rw [hr2] at hr
        injection hr with e1 e2
        subst e1 e2
        exact ⟨.inr ⟨_, Nat.le_refl _, rfl⟩, Nat.le_succ _⟩
  · rcases h2.2 with ⟨_, h00⟩ | ⟨g, cap, cur, fz, hv, _⟩
    · omega
    · exact ⟨g, cap, hv⟩
theorem append_str {P : Program} {ops : Array Oper} {rest : List Oper} {o : Oper} {a : Act} {w : World} {Q : Exit → Act → World → Prop} (s x : Operand) {t u : TypeId} {v sl v' : Value} {w' : World}
    (hgd : o.guard = none) (ho : o.op = .call { callee := .builtin .append, args := #[s, x], argTypes := #[t, u] }) (hs : a.eval s = v) (hx : a.eval x = sl)
    (hrun : (Builtin.append_ #[t, u] o.type #[v, sl]).run P w = .ok v' w') (h : wpList P ops Q rest (a.put o.dst v') w') : wpList P ops Q (o :: rest) a w := by
  refine wpList_plain hgd fun K hK => ?_
  unfold Oper.wp execOp
  simp only [ho, resolve, invoke, builtin, Sem.run_bind, Sem.run_pure, Result.andThen_ok, List.map_toArray, List.map_cons, List.map_nil, hs, hx, hrun]
  exact hK _ _ h
/-- The builder behind an append and the store of its buffer. -/
theorem bv_put {w1 w0 w2 : World} {B b : Nat} {v v' : Value} {l' : List UInt8} (hB : B ≤ b) (hb : w1.heap[b]? = some (.cells #[.pointer (some ⟨b, 0, none⟩), v] 125 (0, 0))) (hne : v.ownBlock ≠ some b) (h10 : Grew w1 w0)
    (hown : w2.ownsRowF B 5 1 v' l'.length (Lib.byteCells l')) (hg : w0.grownBy w2 v.ownBlock) (hp : Placed w0 w2 v v') :
    w2.cell? ⟨b, 0, none⟩ = some (.pointer (some ⟨b, 0, none⟩)) ∧ w2.cell? ⟨b, 1, none⟩ = some v ∧ w2.frozen? ⟨b, 1, none⟩ = false ∧ BV (w2.setCell ⟨b, 1, none⟩ v') B b v' l' ∧ FK w1 (w2.setCell ⟨b, 1, none⟩ v') b v v' := by
  have hlt : b < w1.heap.size := (Array.getElem?_eq_some_iff.1 hb).1
  have hs1 := h10.1.size
  have hb2 : w2.heap[b]? = some (.cells #[.pointer (some ⟨b, 0, none⟩), v] 125 (0, 0)) := by
    rw [hg.block b (by omega) (fun e => hne e.symm), frm_lt h10.1 b hlt]
    exact hb
  have hne' : v'.ownBlock ≠ some b := Lib.ownBlock_neF hown hb2 (by decide)
  refine ⟨by rw [Lib.cell_of_heap hb2]; rfl, by rw [Lib.cell_of_heap hb2]; rfl, by simp [World.frozen?, hb2], ⟨hB, _, .inr rfl, ?_, ?_, hne'⟩, ?_⟩
  · simp [World.setCell, Array.getElem?_modify, hb2]
  · exact hown.kept (row := some b) ⟨rfl, rfl, rfl, by simp [World.setCell], fun k _ hk => Below.heap_setCell _ _ _ _ (fun e => hk (by simp [e]))⟩ (Or.inr hne')
  · refine ⟨Nat.le_trans h10.2 hp.2, hg.os.trans h10.1.os, hg.tape.trans h10.1.tape, hg.output.trans h10.1.output, by have := hg.size; simp; omega, fun k hk hkb hkv => ?_, ?_⟩
    · rw [Below.heap_setCell _ _ _ _ (by show k ≠ b; exact hkb), hg.block k (by omega) hkv, frm_lt h10.1 k hk]
    · rcases hp.1 with e | ⟨g, h1, h2⟩
      · exact .inl e
      · exact .inr ⟨g, by omega, h2⟩
set_option maxHeartbeats 1000000 in
set_option maxRecDepth 100000 in
theorem bv_byte {w : World} {B b : Nat} {v : Value} {l : List UInt8} (h : BV w B b v l) (c : UInt8) (q : Int) (hq : q = c.toNat) (hlen : l.length + 1 ≤ 140737488355328) (hBw : B ≤ w.heap.size) :
    Calls Tryz.prog 91 #[.pointer (some ⟨b, 0, none⟩), .int .u8 q] w fun e w' => e = .returned .nilIface ∧ ∃ v', BV w' B b v' (l ++ [c]) ∧ FK w w' b v v' := by
  have HC := Lib.hid (copy_calls B b v l w h)
  obtain ⟨hB, p, hp, hb, hown, hne⟩ := h
  have HQ := Lib.hid hq
  clear hown hb hp hq
  go_enter Tryz.func91, Tryz.ntmps91
  go_wp2_with fail
  refine HC.out.mono ?_
  rintro e w1 ⟨rfl, hk1, hbk, hown⟩
  have c0 : w1.cell? ⟨b, 0, none⟩ = some (.pointer (some ⟨b, 0, none⟩)) := by rw [Lib.cell_of_heap hbk]; rfl
  have c1 : w1.cell? ⟨b, 1, none⟩ = some v := by rw [Lib.cell_of_heap hbk]; rfl
  have hs1 := hk1.size
  have htw := OneAt.new w1 (.int .u8 q) 5
  obtain ⟨v', w2, hrun, ho2, hg2, hp2, g, cap, rfl⟩ := app_byte (hown.alloc (.cells #[.int .u8 q] 5)) 123 htw.cell rfl hlen (by simp; omega)
  have ho3 : w2.ownsRowF B 5 1 (.slice (some ⟨g, 0, none⟩) (l.length + 1) cap) (l ++ [c]).length (Lib.byteCells (l ++ [c])) := by
    rw [Lib.byteCells_append, List.length_append]
    simpa [Lib.byteCells, HQ.out] using ho2
  obtain ⟨d0, d1, f1, hbv, hfk⟩ := bv_put hB hbk hne (grew_alloc w1 _) ho3 hg2 hp2
  have HBV := Lib.hid hbv
  have HFK := Lib.hid (hk1.trans hfk)
  dsimp only
  repeat ((fail_if_success at_builtin); first | go_values | go_skip | go_guarded | go_step | go_upon)
  refine append_list _ _ rfl rfl rfl rfl hrun ?_
  clear hrun ho2 ho3 hbv hfk hown
  go_wp2_with fail
  go_ret
  exact ⟨rfl, _, HBV.out, HFK.out⟩
set_option maxHeartbeats 1000000 in
set_option maxRecDepth 100000 in
theorem bv_text {w : World} {B b : Nat} {v : Value} {l : List UInt8} (h : BV w B b v l) (s : List UInt8) (h0 : 0 < s.length) (hlen : l.length + s.length ≤ 140737488355328) (hBw : B ≤ w.heap.size) :
    Calls Tryz.prog 89 #[.pointer (some ⟨b, 0, none⟩), .string ⟨s.toArray⟩] w fun e w' => e = .returned (.tuple #[.int .i64 s.length, .nilIface]) ∧ ∃ v', BV w' B b v' (l ++ s) ∧ FK w w' b v v' := by
  have hs : (⟨s.toArray⟩ : ByteArray).size = s.length := by
    show s.toArray.size = _
    simp
  have HC := Lib.hid (copy_calls B b v l w h)
  obtain ⟨hB, p, hp, hb, hown, hne⟩ := h
  clear hown hb hp
  have hsc : Lib.strCells ⟨s.toArray⟩ = Lib.byteCells s := rfl
  obtain ⟨sb, hsb⟩ : ∃ sb : ByteArray, sb = ⟨s.toArray⟩ := ⟨_, rfl⟩
  rw [← hsb] at hs hsc ⊢
  clear hsb
  go_enter Tryz.func89, Tryz.ntmps89
  go_wp2_with fail
  refine HC.out.mono ?_
  rintro e w1 ⟨rfl, hk1, hbk, hown⟩
  have c0 : w1.cell? ⟨b, 0, none⟩ = some (.pointer (some ⟨b, 0, none⟩)) := by rw [Lib.cell_of_heap hbk]; rfl
  have c1 : w1.cell? ⟨b, 1, none⟩ = some v := by rw [Lib.cell_of_heap hbk]; rfl
  have hs1 := hk1.size
  obtain ⟨v', w2, hrun, ho2, hg2, hp2, g, cap, rfl⟩ := app_text hown 123 sb (by omega) (by omega) (by omega)
  have ho3 : w2.ownsRowF B 5 1 (.slice (some ⟨g, 0, none⟩) (l.length + sb.size) cap) (l ++ s).length (Lib.byteCells (l ++ s)) := by
    rw [Lib.byteCells_append, List.length_append, ← hsc, ← hs]
    exact ho2
  obtain ⟨d0, d1, f1, hbv, hfk⟩ := bv_put hB hbk hne (grew_refl w1) ho3 hg2 hp2
  have HBV := Lib.hid hbv
  have HFK := Lib.hid (hk1.trans hfk)
  have HS := Lib.hid hs
  dsimp only
  repeat ((fail_if_success at_builtin); first | go_values | go_skip | go_guarded | go_step | go_upon)
  refine append_str _ _ rfl rfl rfl rfl hrun ?_
  clear hrun ho2 ho3 hbv hfk hown hs
  go_wp2_with fail
  go_ret2
  exact ⟨by rw [HS.out]; rfl, _, HBV.out, HFK.out⟩
/-- The text. -/
theorem bv_string {w : World} {B b : Nat} {v : Value} {l : List UInt8} (h : BV w B b v l) (hBw : B ≤ w.heap.size) :
    Calls Tryz.prog 94 #[.pointer (some ⟨b, 0, none⟩)] w fun e w' => e = .returned (.string ⟨l.toArray⟩) ∧ Below B w w' := by
  refine (Tryz.Builder_String_any_k B b l w h.is hBw).mono ?_
  rintro e w' ⟨rfl, _, hw, _⟩
  exact ⟨rfl, hw⟩
end Go.Proofs.YtjpdmncafacmaaaGreatDoor
end
/- The face of a state, plainly: a text that tells the classes and the alternatives. -/
section
set_option linter.unusedVariables false
set_option linter.unusedSimpArgs false
namespace Go.Proofs.YtjpdmncafacmaaaGreatDoor
open Go.RowKit

def needT (x : Nd) : List UInt8 := Lib.decDigits x.1.toNat ++ 46 :: (Lib.decDigits x.2.toNat ++ [32])
def altTx (l : List Nd) : List UInt8 := 40 :: (l.flatMap needT ++ [41])
def symTx (alts : List (List Nd)) : List UInt8 := 47 :: alts.flatMap altTx
def faceL (c : Nat) (rows : List (List (List Nd))) : List UInt8 := Lib.decDigits c ++ rows.flatMap symTx
theorem dec_one (i : Nat) (h : i < 10) : Lib.decDigits i = [UInt8.ofNat (48 + i)] := by
  rw [Lib.decDigits, dif_pos h]
theorem dec_lt (i : Nat) (h : i < 10) : (Lib.decDigits i).length = 1 := by rw [dec_one i h]; rfl
theorem digit_inj : ∀ i, i < 10 → ∀ j, j < 10 → UInt8.ofNat (48 + i) = UInt8.ofNat (48 + j) → i = j := by decide
theorem digit_ne41 : ∀ i, i < 10 → UInt8.ofNat (48 + i) ≠ 41 := by decide
def okT (x : Nd) : Prop := (0 ≤ x.1 ∧ x.1 < 10) ∧ 0 ≤ x.2 ∧ x.2 < 10
theorem needT_pre {x y : Nd} (hx : okT x) (hy : okT y) {u v : List UInt8} (h : needT x ++ u = needT y ++ v) : x = y ∧ u = v := by
  obtain ⟨x1, x2⟩ := x
  obtain ⟨y1, y2⟩ := y
  obtain ⟨⟨h1, h2⟩, h3, h4⟩ := hx
  obtain ⟨⟨h5, h6⟩, h7, h8⟩ := hy
  simp only at h1 h2 h3 h4 h5 h6 h7 h8
  unfold needT at h
  simp only at h
  rw [dec_one x1.toNat (by omega), dec_one x2.toNat (by omega), dec_one y1.toNat (by omega), dec_one y2.toNat (by omega)] at h
  simp only [List.cons_append, List.nil_append, List.cons.injEq, true_and] at h
  obtain ⟨e1, e2, e3⟩ := h
  have := digit_inj _ (by omega) _ (by omega) e1
  have := digit_inj _ (by omega) _ (by omega) e2
  exact ⟨Prod.ext (by show x1 = y1; omega) (by show x2 = y2; omega), e3⟩
theorem needs_pre : ∀ (xs ys : List Nd), (∀ x ∈ xs, okT x) → (∀ y ∈ ys, okT y) → ∀ u v : List UInt8, xs.flatMap needT ++ 41 :: u = ys.flatMap needT ++ 41 :: v → xs = ys ∧ u = v
  | [], [], _, _, u, v, h => by simpa using h
  | [], y :: ys, _, hy, u, v, h => by
    exfalso
    have h5 := hy y (by simp)
    unfold okT at h5
    simp only [List.flatMap_nil, List.nil_append, List.flatMap_cons, needT] at h
    rw [dec_one y.1.toNat (by omega)] at h
    simp only [List.cons_append, List.nil_append, List.cons.injEq] at h
    exact digit_ne41 _ (by omega) h.1.symm
  | x :: xs, [], hx, _, u, v, h => by
    exfalso
    have h5 := hx x (by simp)
    unfold okT at h5
    simp only [List.flatMap_nil, List.nil_append, List.flatMap_cons, needT] at h
    rw [dec_one x.1.toNat (by omega)] at h
    simp only [List.cons_append, List.nil_append, List.cons.injEq] at h
    exact digit_ne41 _ (by omega) h.1
  | x :: xs, y :: ys, hx, hy, u, v, h => by
    simp only [List.flatMap_cons, List.append_assoc] at h
    obtain ⟨e1, e2⟩ := needT_pre (hx x (by simp)) (hy y (by simp)) h
    obtain ⟨e3, e4⟩ := needs_pre xs ys (fun z hz => hx z (by simp [hz])) (fun z hz => hy z (by simp [hz])) u v e2
    exact ⟨by rw [e1, e3], e4⟩
/-- Nothing, or a slash. -/
def endT (u : List UInt8) : Prop := u = [] ∨ ∃ r, u = 47 :: r
theorem alts_pre : ∀ (xs ys : List (List Nd)), (∀ l ∈ xs, ∀ x ∈ l, okT x) → (∀ l ∈ ys, ∀ x ∈ l, okT x) → ∀ u v : List UInt8, endT u → endT v → xs.flatMap altTx ++ u = ys.flatMap altTx ++ v → xs = ys ∧ u = v
  | [], [], _, _, u, v, _, _, h => by simpa using h
  | [], y :: ys, _, hy, u, v, hu, _, h => by
    exfalso
    simp only [List.flatMap_nil, List.nil_append, List.flatMap_cons, altTx, List.cons_append] at h
    rcases hu with rfl | ⟨r, rfl⟩
    · cases h
    · injection h with h _
      revert h
      decide
  | x :: xs, [], hx, _, u, v, _, hv, h => by
    exfalso
    simp only [List.flatMap_nil, List.nil_append, List.flatMap_cons, altTx, List.cons_append] at h
    rcases hv with rfl | ⟨r, rfl⟩
    · cases h
    · injection h with h _
      revert h
      decide
  | x :: xs, y :: ys, hx, hy, u, v, hu, hv, h => by
    simp only [List.flatMap_cons, altTx, List.cons_append, List.append_assoc, List.cons.injEq, true_and, List.nil_append] at h
    obtain ⟨e1, e2⟩ := needs_pre x y (hx x (by simp)) (hy y (by simp)) _ _ h
    obtain ⟨e3, e4⟩ := alts_pre xs ys (fun z hz => hx z (by simp [hz])) (fun z hz => hy z (by simp [hz])) u v hu hv e2
    exact ⟨by rw [e1, e3], e4⟩
theorem syms_end (rows : List (List (List Nd))) : endT (rows.flatMap symTx) := by
  cases rows with
  | nil => exact .inl rfl
  | cons r rows => exact .inr ⟨r.flatMap altTx ++ rows.flatMap symTx, by simp only [List.flatMap_cons, symTx, List.cons_append]⟩
theorem syms_inj : ∀ (xs ys : List (List (List Nd))), (∀ a ∈ xs, ∀ l ∈ a, ∀ x ∈ l, okT x) → (∀ a ∈ ys, ∀ l ∈ a, ∀ x ∈ l, okT x) → xs.flatMap symTx = ys.flatMap symTx → xs = ys
  | [], [], _, _, _ => rfl
  | [], y :: ys, _, _, h => by simp [symTx] at h
  | x :: xs, [], _, _, h => by simp [symTx] at h
  | x :: xs, y :: ys, hx, hy, h => by
    simp only [List.flatMap_cons, symTx, List.cons_append, List.cons.injEq, true_and] at h
    obtain ⟨e1, e2⟩ := alts_pre x y (hx x (by simp)) (hy y (by simp)) _ _ (syms_end xs) (syms_end ys) h
    rw [e1, syms_inj xs ys (fun z hz => hx z (by simp [hz])) (fun z hz => hy z (by simp [hz])) e2]
theorem face_inj {c c' : Nat} {rows rows' : List (List (List Nd))} (hc : c < 10) (hc' : c' < 10) (hx : ∀ a ∈ rows, ∀ l ∈ a, ∀ x ∈ l, okT x) (hy : ∀ a ∈ rows', ∀ l ∈ a, ∀ x ∈ l, okT x) (h : faceL c rows = faceL c' rows') : c = c' ∧ rows = rows' := by
  unfold faceL at h
  rw [dec_one c hc, dec_one c' hc'] at h
  simp only [List.cons_append, List.nil_append, List.cons.injEq] at h
  exact ⟨digit_inj _ hc _ hc' h.1, syms_inj _ _ hx hy h.2⟩
/-- How long it is. -/
theorem flat_len {α : Type} (f : α → List UInt8) (m : Nat) : ∀ l : List α, (∀ x ∈ l, (f x).length ≤ m) → (l.flatMap f).length ≤ l.length * m
  | [], _ => by simp
  | x :: l, h => by
    have h1 := h x (by simp)
    have h2 := flat_len f m l fun y hy => h y (by simp [hy])
    simp only [List.flatMap_cons, List.length_append, List.length_cons, Nat.add_mul, Nat.one_mul]
    omega
end Go.Proofs.YtjpdmncafacmaaaGreatDoor
end
/- numbered's closure: a need's state by a table. -/
section
set_option linter.unusedVariables false
set_option linter.unusedSimpArgs false
namespace Go.Proofs.YtjpdmncafacmaaaGreatDoor
open Go.RowKit

set_option maxRecDepth 20000 in
theorem numD_calls (x : Nd) (tl : List Int) (w : World) (g : Nat) (v : Value) (hg : w.cell? ⟨g, 0, none⟩ = some v) (hv : SlO w 1 (rdO IntR) tl v) (h1 : 0 ≤ x.2) (h2 : x.2 < tl.length) :
    Calls Tryz.prog 95 #[.agg #[.int .i64 x.1, .int .i64 x.2], .pointer (some ⟨g, 0, none⟩)] w (RetD w (.agg #[.int .i64 (toL tl x).1, .int .i64 (toL tl x).2])) := by
  have hlt := World.block_lt_of_cell? _ _ hg
  have hl : g < w.heap.size := by simpa using hlt
  have hx : x.2.toNat < tl.length := by omega
  obtain ⟨A, c, rfl, hc, hm⟩ := hv.val
  obtain ⟨b, o, p0, rfl, hb, hp0, hpt⟩ := hv.at1 x.2.toNat hx
  obtain ⟨hpv, _⟩ := hpt
  simp only [List.cons.injEq, and_true] at hpv
  subst hpv
  have he : Hid ((toL tl x).2 = tl[x.2.toNat]) := by unfold Hid toL; simp [hx]
  have he1 : Hid ((toL tl x).1 = x.1) := rfl
  generalize toL tl x = y at *
  generalize tl[x.2.toNat] = z at *
  have hb' : b < w.heap.size := hb
  have hp1 := frm_cell (grew_then_alloc (grew_alloc w (.cells #[.int .i64 x.1, .int .i64 x.2] 80)) (.cells #[.int .i64 0, .int .i64 0] 80)).1 hp0
  have hg1 := frm_cell (grew_then_alloc (grew_alloc w (.cells #[.int .i64 x.1, .int .i64 x.2] 80)) (.cells #[.int .i64 0, .int .i64 0] 80)).1 hg
  have hG := grew_then_alloc (grew_alloc w (.cells #[.int .i64 x.1, .int .i64 x.2] 80)) (.cells #[.int .i64 0, .int .i64 0] 80)
  clear hv
  go_enter Tryz.func95, Tryz.ntmps95
  go_wp2_with fail
  have hx2 := (TwoAt.new w (.int .i64 x.1) (.int .i64 x.2) 80).frm (frm_alloc _ (.cells #[.int .i64 0, .int .i64 0] 80))
  have hz2 := TwoAt.new (w.alloc (.cells #[.int .i64 x.1, .int .i64 x.2] 80)) (.int .i64 0) (.int .i64 0) 80
  rw [World.size_alloc] at hz2
  obtain ⟨w2, hw2⟩ : ∃ w2, w2 = (w.alloc (.cells #[.int .i64 x.1, .int .i64 x.2] 80)).alloc (.cells #[.int .i64 0, .int .i64 0] 80) := ⟨_, rfl⟩
  rw [← hw2] at hx2 hz2 hp1 hg1 hG ⊢
  clear hw2
  obtain ⟨x0, x1, _, _⟩ := hx2.cells
  obtain ⟨z0, z1, zf0, zf1⟩ := hz2.cells
  go_still_tail 8, (by kernel_rfl)
  go_wp2_with fail
  refine bodyPost_ret (v := .agg #[.int .i64 x.1, .int .i64 z]) (by simp [results, Tryz.results95, go_sem, z0, z1, zf0, zf1]) rfl ⟨by rw [he.out, he1.out], ?_⟩
  exact grew_trans (grew_set_new (grew_set_new hG (by omega) _ _) (by omega) _ _) (grew_drew _)
end Go.Proofs.YtjpdmncafacmaaaGreatDoor
end
/- mix's numbered: the given states, in the given order, states changed by a table. -/
section
set_option linter.unusedVariables false
set_option linter.unusedSimpArgs false
namespace Go.Proofs.YtjpdmncafacmaaaGreatDoor
open Go.RowKit

theorem mvd_small {tl : List Int} {alts : List (List Nd)} (h : ∀ l ∈ alts, ∀ x ∈ l, (0 ≤ x.1 ∧ x.1 < 4) ∧ 0 ≤ x.2 ∧ x.2 < tl.length) (htb : ∀ t ∈ tl, 0 ≤ t ∧ t ≤ 63) : ∀ l ∈ mvd (toL tl) alts, ∀ x ∈ l, Nd.small x := by
  intro l hl x hx
  obtain ⟨l', hl', rfl⟩ := List.mem_map.1 hl
  obtain ⟨x', hx', rfl⟩ := List.mem_map.1 ((setL_mem ord_nd _ _).1 hx)
  obtain ⟨h1, h2, h3⟩ := h l' hl' x' hx'
  have hlt : x'.2.toNat < tl.length := by omega
  have h4 := htb _ (List.getElem_mem hlt)
  unfold Nd.small toL
  rw [List.getD_eq_getElem?_getD, List.getElem?_eq_getElem hlt, Option.getD_some]
  show (0 ≤ x'.1 ∧ x'.1 ≤ 63) ∧ 0 ≤ tl[x'.2.toNat] ∧ tl[x'.2.toNat] ≤ 63
  omega
def rowQ (a : Au) (tl : List Int) (q : Nat) : List (List (List Nd)) := (a.moves.getD q []).map fun alts => altSet (mvd (toL tl) alts)
def altT (tl : List Int) (alts : List (List Nd)) : List (List Nd) := altSet (mvd (toL tl) alts)
theorem altT_len (tl : List Int) (alts : List (List Nd)) : (altT tl alts).length ≤ alts.length := rmv_len (toL tl) alts
set_option maxRecDepth 100000 in
set_option maxHeartbeats 4000000 in
theorem numbered_calls (a : Au) (hok : a.ok = true) (qs : List Nat) (hqs : ∀ q ∈ qs, q < a.moves.length) (hql : qs.length ≤ 6) (tl : List Int) (htl : tl.length = a.moves.length) (htb : ∀ t ∈ tl, 0 ≤ t ∧ t ≤ 63) (w : World) (r m u v : Value)
    (ha : rdO AuR w a [r, .int .i64 a.start, m]) (hu : SlO w 1 (rdO IntR) (qs.map fun q : Nat => (q : Int)) u) (hv : SlO w 1 (rdO IntR) tl v) :
    Calls Tryz.prog 54 #[.agg #[r, .int .i64 a.start, m], u, v] w fun e w' => ∃ r m, e = .returned (.agg #[r, .int .i64 (numA a qs tl).start, m]) ∧ Grew w w' ∧ WR AuR (Fresh w w') w' (numA a qs tl) [r, .int .i64 (numA a qs tl).start, m] := by
  obtain ⟨hR, hM, hs1, hs2⟩ := AuR.parts ha
  obtain ⟨A, c, rfl, hc, hlm⟩ := hR.val
  obtain ⟨B, d, rfl, hd, hlm2⟩ := hM.val
  obtain ⟨C, cu, rfl, hcu, hlu⟩ := hu.val
  obtain ⟨D, ct, rfl, hct, hlt⟩ := hv.val
  obtain ⟨_, hm1, hm6, hst0, hst1, _⟩ := ok_parts hok
  have hstl : a.start.toNat < tl.length := by omega
  obtain ⟨bt, ot, p0, rfl, hbt, hp0, hpt⟩ := hv.at1 a.start.toNat hstl
  obtain ⟨hpv, hst2, hst3⟩ := hpt
  simp only [List.cons.injEq, and_true] at hpv
  subst hpv
  have hste : Hid ((numA a qs tl).start = tl[a.start.toNat]) := by unfold Hid numA; simp [hstl]
  have hstb := htb _ (List.getElem_mem hstl)
  rw [List.length_map] at hcu hlu
  rw [List.length_map]
  obtain ⟨w2, hw2⟩ : ∃ w2, w2 = ((w.alloc (.cells #[.slice A a.ranks.length c, .int .i64 a.start, .slice B a.moves.length d] 25)).alloc (.cells #[.slice (some ⟨bt, ot, none⟩) tl.length ct] 22)).alloc (.cells #[.slice none 0 0, .int .i64 0, .slice none 0 0] 25) := ⟨_, rfl⟩
  have hG2 : Grew w w2 := by rw [hw2]; exact grew_then_alloc (grew_then_alloc (grew_alloc _ _) _) _
  have xa : ThreeAt w2 w.heap.size (.slice A a.ranks.length c) (.int .i64 a.start) (.slice B a.moves.length d) 25 := by
    rw [hw2]; exact ((ThreeAt.new w _ _ _ _).frm (frm_alloc _ _)).frm (frm_alloc _ _)
  have xv : OneAt w2 (w.heap.size + 1) (.slice (some ⟨bt, ot, none⟩) tl.length ct) 22 := by
    have h := OneAt.new (w.alloc (.cells #[.slice A a.ranks.length c, .int .i64 a.start, .slice B a.moves.length d] 25)) (.slice (some ⟨bt, ot, none⟩) tl.length ct) 22
    rw [World.size_alloc] at h
    rw [hw2]; exact h.frm_of (frm_alloc _ _)
  have xo : ThreeAt w2 (w.heap.size + 2) (.slice none 0 0) (.int .i64 0) (.slice none 0 0) 25 := by
    have h := ThreeAt.new ((w.alloc (.cells #[.slice A a.ranks.length c, .int .i64 a.start, .slice B a.moves.length d] 25)).alloc (.cells #[.slice (some ⟨bt, ot, none⟩) tl.length ct] 22)) (.slice none 0 0) (.int .i64 0) (.slice none 0 0) 25
    rw [World.size_alloc, World.size_alloc] at h
    rw [hw2]; exact h
  have hs2' := xo.lt
  have hxv0 := xv.cell
  have hxp := frm_cell hG2.1 hp0
  have HQS := Lib.hid hqs
  have HTB := Lib.hid htb
  have HOK := Lib.hid hok
  have HV := Lib.hid hv
  have HU := Lib.hid hu
  have HM := Lib.hid hM
  have hlr := (ranksOk_parts (ok_parts hok).1).1
  generalize tl[a.start.toNat] = st at *
  have HW2 := Lib.hid hw2
  have is0 : (0 : Int) ≤ a.start := hst0
  have is1 : a.start < tl.length := by omega
  have HTL := Lib.hid htl
  clear ha hqs htb hok hv hu hM htl hstl
  go_enter Tryz.func54, Tryz.ntmps54
  go_wp2_with fail
  rw [← HW2.out]
  clear hw2
  go_cut [7] (fun s5 wx => ∃ g, s5 = .pointer (some ⟨g, 0, none⟩) ∧ JMid w2 g a.ranks st wx)
  case first =>
    obtain ⟨xa0, xa1, xa2⟩ := xa.cells
    have HK0 : Hid (∀ wx, wx = w2.drew → (Grew w2 wx ∧ wx.cell? ⟨w.heap.size, 0, none⟩ = some (.slice A a.ranks.length c) ∧ wx.cell? ⟨w.heap.size, 1, none⟩ = some (.int .i64 a.start) ∧ wx.cell? ⟨w.heap.size + 1, 0, none⟩ = some (.slice (some ⟨bt, ot, none⟩) tl.length ct) ∧ wx.cell? ⟨bt, ot + a.start.toNat, none⟩ = some (.int .i64 st))) := by
      rintro wx rfl
      exact ⟨grew_drew _, xa0, xa1, hxv0, hxp⟩
    have hks : ∀ v1 v2 : World, Grew v1 v2 → (Grew w2 v1 ∧ v1.cell? ⟨w.heap.size, 0, none⟩ = some (.slice A a.ranks.length c) ∧ v1.cell? ⟨w.heap.size, 1, none⟩ = some (.int .i64 a.start) ∧ v1.cell? ⟨w.heap.size + 1, 0, none⟩ = some (.slice (some ⟨bt, ot, none⟩) tl.length ct) ∧ v1.cell? ⟨bt, ot + a.start.toNat, none⟩ = some (.int .i64 st)) → (Grew w2 v2 ∧ v2.cell? ⟨w.heap.size, 0, none⟩ = some (.slice A a.ranks.length c) ∧ v2.cell? ⟨w.heap.size, 1, none⟩ = some (.int .i64 a.start) ∧ v2.cell? ⟨w.heap.size + 1, 0, none⟩ = some (.slice (some ⟨bt, ot, none⟩) tl.length ct) ∧ v2.cell? ⟨bt, ot + a.start.toNat, none⟩ = some (.int .i64 st)) :=
      fun v1 v2 hf h => ⟨grew_trans h.1 hf, frm_cell hf.1 h.2.1, frm_cell hf.1 h.2.2.1, frm_cell hf.1 h.2.2.2.1, frm_cell hf.1 h.2.2.2.2⟩
    have HKA : Hid (∀ (v1 : World) (o : Obj), (Grew w2 v1 ∧ v1.cell? ⟨w.heap.size, 0, none⟩ = some (.slice A a.ranks.length c) ∧ v1.cell? ⟨w.heap.size, 1, none⟩ = some (.int .i64 a.start) ∧ v1.cell? ⟨w.heap.size + 1, 0, none⟩ = some (.slice (some ⟨bt, ot, none⟩) tl.length ct) ∧ v1.cell? ⟨bt, ot + a.start.toNat, none⟩ = some (.int .i64 st)) → (Grew w2 (v1.alloc o) ∧ (v1.alloc o).cell? ⟨w.heap.size, 0, none⟩ = some (.slice A a.ranks.length c) ∧ (v1.alloc o).cell? ⟨w.heap.size, 1, none⟩ = some (.int .i64 a.start) ∧ (v1.alloc o).cell? ⟨w.heap.size + 1, 0, none⟩ = some (.slice (some ⟨bt, ot, none⟩) tl.length ct) ∧ (v1.alloc o).cell? ⟨bt, ot + a.start.toNat, none⟩ = some (.int .i64 st))) := fun v1 o h => hks _ _ (grew_alloc _ _) h
    have HKC : Hid (∀ (v1 : World) (g o : Nat) (x : Value), w2.heap.size ≤ g → (Grew w2 v1 ∧ v1.cell? ⟨w.heap.size, 0, none⟩ = some (.slice A a.ranks.length c) ∧ v1.cell? ⟨w.heap.size, 1, none⟩ = some (.int .i64 a.start) ∧ v1.cell? ⟨w.heap.size + 1, 0, none⟩ = some (.slice (some ⟨bt, ot, none⟩) tl.length ct) ∧ v1.cell? ⟨bt, ot + a.start.toNat, none⟩ = some (.int .i64 st)) → (Grew w2 (v1.setCell ⟨g, o, none⟩ x) ∧ (v1.setCell ⟨g, o, none⟩ x).cell? ⟨w.heap.size, 0, none⟩ = some (.slice A a.ranks.length c) ∧ (v1.setCell ⟨g, o, none⟩ x).cell? ⟨w.heap.size, 1, none⟩ = some (.int .i64 a.start) ∧ (v1.setCell ⟨g, o, none⟩ x).cell? ⟨w.heap.size + 1, 0, none⟩ = some (.slice (some ⟨bt, ot, none⟩) tl.length ct) ∧ (v1.setCell ⟨g, o, none⟩ x).cell? ⟨bt, ot + a.start.toNat, none⟩ = some (.int .i64 st))) := by
      intro v1 g o x hg h
      refine ⟨grew_set_new h.1 hg _ _, ?_, ?_, ?_, ?_⟩
      · rw [World.cell?_setCell_other _ _ _ _ (by intro e; injection e with e; omega)]; exact h.2.1
      · rw [World.cell?_setCell_other _ _ _ _ (by intro e; injection e with e; omega)]; exact h.2.2.1
      · rw [World.cell?_setCell_other _ _ _ _ (by intro e; injection e with e; omega)]; exact h.2.2.2.1
      · have hbt' : bt < w.heap.size := hbt
        rw [World.cell?_setCell_other _ _ _ _ (by intro e; injection e with e; omega)]; exact h.2.2.2.2
    have HK := Lib.hid hks
    have HC : Hid (∀ wx, Grew w2 wx → Calls Tryz.prog 41 #[.slice A a.ranks.length c] wx fun e w' => ∃ u, e = .returned u ∧ Grew wx w' ∧ Own IntR w' wx.heap.size 3 1 (fun _ => True) u a.ranks) := fun wx hg => cloneI_calls a.ranks wx _ (hR.frm (grew_trans hG2 hg).1 (stays_rd moves_int)) (by omega)
    clear hks
    go_region_held3 (fun wx => (Grew w2 wx ∧ wx.cell? ⟨w.heap.size, 0, none⟩ = some (.slice A a.ranks.length c) ∧ wx.cell? ⟨w.heap.size, 1, none⟩ = some (.int .i64 a.start) ∧ wx.cell? ⟨w.heap.size + 1, 0, none⟩ = some (.slice (some ⟨bt, ot, none⟩) tl.length ct) ∧ wx.cell? ⟨bt, ot + a.start.toNat, none⟩ = some (.int .i64 st))) (first | exact HK0.out _ rfl | exact HK.out _ _ (by assumption) (by assumption) | exact HKA.out _ _ (by assumption) | exact HKC.out _ _ _ _ (by omega) (HKC.out _ _ _ _ (by omega) (HKC.out _ _ _ _ (by omega) (by assumption)))) ((go_at_call 41; refine (HC.out _ (And.left (by assumption))).mono ?_; rintro e v5 ⟨u5, rfl, hg5, ho5⟩; obtain ⟨Au5, cu5, rfl, hcu5⟩ := ho5.val; obtain ⟨hcc5, hcf5⟩ := grew_cells hg5; have hS5 := HK.out _ _ hg5 (by assumption)))
    · go_wp2_with fail
      go_meet
      case rel => exact ⟨_, rfl, JMid.one (grew_drew _) hg5 ho5 hlr⟩
    · go_wp2_with fail
      go_meet
      case rel => exact ⟨_, rfl, JMid.two (grew_trans (grew_alloc _ _) (grew_drew _)) (Nat.le_refl _) (ThreeAt.new _ _ _ _ _) hg5 ho5 hlr⟩
  case rest =>
    obtain ⟨g, rfl, r5, hG5, hg4, hO5, hR5⟩ := hcut
    obtain ⟨Ar, cr, hr5⟩ : ∃ Ar cr, r5 = .slice Ar a.ranks.length cr := by
      obtain ⟨v', hve, hsl⟩ := id hR5
      obtain ⟨A9, c9, rfl, _⟩ := hsl.val
      simp only [List.cons.injEq, and_true] at hve
      exact ⟨_, _, hve⟩
    subst hr5
    have hgs : g < wc.heap.size := hO5.1.lt
    have hGw5 : Grew w wc := grew_trans hG2 hG5
    have hws : w.heap.size + 2 < g := by omega
    have HR5 := Lib.hid hR5
    have HGW5 := Lib.hid hGw5
    have hs5 := hGw5.1.size
    have hb5 : Hid (∀ wr, GrewG g wc.heap.size wc wr → ∀ b, b < w.heap.size → wr.heap[b]? = w.heap[b]?) := fun wr h b hb => (h.block b (by omega) (by omega)).trans (frm_lt HGW5.out.1 b hb)
    have HXA : Hid (∀ wr, GrewG g wc.heap.size wc wr → ThreeAt wr w.heap.size (.slice A a.ranks.length c) (.int .i64 a.start) (.slice B a.moves.length d) 25 ∧ wr.cell? ⟨w.heap.size + 1, 0, none⟩ = some (.slice (some ⟨bt, ot, none⟩) tl.length ct)) := fun wr h =>
      ⟨(xa.frm hG5.1).move (h.block _ (by omega) (by omega)), (xv.frm_of hG5.1).move (h.block _ (by omega) (by omega)) |>.cell⟩
    have hsl5 := xo.frm hG5.1
    have HXO := Lib.hid hsl5
    clear hR5 hGw5 hsl5 hxp hxv0
    go_wp2_with fail
    go_loopw [24] (fun i wr => ∃ k : Nat, k ≤ qs.length ∧ i = .int .i64 k ∧ GrewG g wc.heap.size wc wr ∧ ∃ mv, OutAt wr g wc.heap.size (.slice Ar a.ranks.length cr) st mv ((qs.take k).map (rowQ a tl))) (fun i _ => qs.length - (intOf i).toNat)
    case atStart => exact ⟨0, Nat.zero_le _, rfl, .refl _ _ _, _, hO5⟩
    case round =>
      obtain ⟨k, hk, rfl, hfr, mv, hO⟩ := hrel
      by_cases hlt : k < qs.length
      · have hSr := hb5.out wr hfr
        have hUr := HU.out.move (S' := fun b => b < w.heap.size) (w' := wr) (r' := IntR (fun b => b < w.heap.size) wr) (fun b hb => hb) hSr (fun x _ cs h => h)
        obtain ⟨b8, o8, p8, rfl, hb8, hp8, hpt8⟩ := hUr.at1 k (by simpa using hlt)
        obtain ⟨hpv8, _⟩ := hpt8
        simp only [List.cons.injEq, and_true, List.getElem_map] at hpv8
        subst hpv8
        have hq := HQS.out _ (List.getElem_mem hlt)
        have HT : Hid ((qs.take (k + 1)).map (rowQ a tl) = (qs.take k).map (rowQ a tl) ++ [rowQ a tl qs[k]]) := by
          unfold Hid
          rw [List.take_succ_eq_append_getElem hlt, List.map_append]
          rfl
        have HL := Lib.hid (show ((qs.take k).map (rowQ a tl)).length = k by rw [List.length_map, List.length_take]; omega)
        generalize qs[k] = q at *
        have hMr := HM.out.move (S' := fun b => b < w.heap.size) (w' := wr) (r' := RuleR (fun b => b < w.heap.size) wr) (fun b hb => hb) hSr (fun x _ cs h => moves_rule _ _ _ _ _ _ (fun b hb => hb) hSr h)
        obtain ⟨b, o, p0, rfl, hb, hp0', hpt⟩ := hMr.at1 q hq
        have HRQ : Hid (rowQ a tl q = (a.moves[q]).map (altT tl)) := by unfold Hid rowQ; rw [show a.moves.getD q [] = a.moves[q] by simp [hq]]; rfl
        have HR := Lib.hid ((ok_rows HOK.out).2 _ (List.getElem_mem hq))
        have HS := Lib.hid (ok_state HOK.out _ (List.getElem_mem hq))
        have hrl := HR.out.1
        clear hMr hSr hUr
        generalize a.moves[q] = row at *
        obtain ⟨v2, hve2, hRow⟩ := hpt
        obtain rfl : p0 = v2 := by simpa using hve2
        obtain ⟨A2, c2, rfl, hc2, hm2⟩ := hRow.val
        clear hve2
        have HO := Lib.hid hO
        have hlg := hO.1.lt
        have hgn := hO.2.1
        have hnw := hO.2.2.1
        have HRow := Lib.hid hRow
        have HFR := Lib.hid hfr
        obtain ⟨⟨xa0, xa1, xa2⟩, hxv1⟩ : _ ∧ _ := ⟨(HXA.out wr hfr).1.cells, (HXA.out wr hfr).2⟩
        have iq0 : (0 : Int) ≤ (q : Int) := by omega
        have iq1 : (q : Int) < a.moves.length := by omega
        clear hO hRow hfr
        go_wp2_with fail
        obtain ⟨wo, hwo⟩ : ∃ wo : World, wo = wr := ⟨_, rfl⟩
        subst hwo
        go_loopw [10, 34] (fun u i wq => ∃ j : Nat, j ≤ row.length ∧ i = .int .i64 j ∧ Grew wo wq ∧ Own (WR AltsR) wq wo.heap.size 50 1 (fun b => wo.heap.size ≤ b) u ((row.take j).map (altT tl))) (fun _ i _ => row.length - (intOf i).toNat)
        case atStart => exact ⟨0, Nat.zero_le _, rfl, grew_refl _, Own.nil _ _ _ _ _ _⟩
        case round =>
          obtain ⟨j, hj, rfl, hfq, hQ⟩ := hrel
          obtain ⟨Aq, cq, he, hcq⟩ := hQ.val
          have hlj : ((row.take j).map (altT tl)).length = j := by rw [List.length_map, List.length_take]; omega
          rw [hlj] at he hcq
          subst he
          have hsq := hfq.1.size
          by_cases hltj : j < row.length
          · have hSq : ∀ b, b < w.heap.size → wr.heap[b]? = wo.heap[b]? := fun b hb => frm_lt hfq.1 b (by omega)
            have hRq := HRow.out.move (S' := fun b => b < w.heap.size) (w' := wr) (r' := AltsR (fun b => b < w.heap.size) wr) (fun b hb => hb) hSq (fun x _ cs h => moves_alts _ _ _ _ _ _ (fun b hb => hb) hSq h)
            obtain ⟨b3, o3, q0, rfl, hb3, hq0, hqt⟩ := hRq.at1 j hltj
            have HT2 : Hid ((row.take (j + 1)).map (altT tl) = (row.take j).map (altT tl) ++ [altT tl row[j]]) := by
              unfold Hid
              rw [List.take_succ_eq_append_getElem hltj, List.map_append]
              rfl
            have HAl2 := Lib.hid (HR.out.2 _ (List.getElem_mem hltj))
            have HAS := Lib.hid (HS.out _ (List.getElem_mem hltj))
            clear hRq hSq
            generalize row[j] = alts at *
            obtain ⟨v3, hve3, hAl⟩ := id hqt
            obtain rfl : q0 = v3 := by simpa using hve3
            obtain ⟨A3, c3, rfl, hc3, hm3⟩ := hAl.val
            have hal1 := HAl2.out.1
            have HBD : Hid (∀ l ∈ alts, ∀ x ∈ l, (0 ≤ x.1 ∧ x.1 < 4) ∧ 0 ≤ x.2 ∧ x.2 < tl.length) := fun l hl x hx => by
              have h1 := (HAl2.out.2 l hl).2 x hx
              have h2 := HAS.out l hl x hx
              have h3 := HTL.out
              omega
            have hxw : wr.cell? ⟨w.heap.size + 1, 0, none⟩ = some (.slice (some ⟨bt, ot, none⟩) tl.length ct) := frm_cell hfq.1 hxv1
            have HSW : Hid (SlO wr 1 (rdO IntR) tl (.slice (some ⟨bt, ot, none⟩) tl.length ct)) := by
              have h := HV.out.move (S' := fun b => b < wr.heap.size) (w' := wr) (r' := IntR (fun b => b < wr.heap.size) wr) (fun b hb => by have hb' : b < w.heap.size := hb; omega) (fun b hb => (frm_lt hfq.1 b (by have hb' : b < w.heap.size := hb; omega)).trans (hb5.out wo HFR.out b hb)) (fun x _ cs h => h)
              exact h
            have HMV := Lib.hid (moved_calls alts (toL tl) 95 #[.pointer (some ⟨w.heap.size + 1, 0, none⟩)] wr (.slice A3 alts.length c3) (enters_of Tryz.func95 (by kernel_rfl) rfl) (fun l hl x hx => by
                have hbd := HBD.out l hl x hx
                refine ⟨fun w' hw' => numD_calls x tl w' _ _ (frm_cell hw'.1 hxw) (HSW.out.frm hw'.1 (stays_rd moves_int)) hbd.2.1 hbd.2.2, ?_⟩
                have hlx : x.2.toNat < tl.length := by omega
                have h4 := HTB.out _ (List.getElem_mem hlx)
                have he : (toL tl x).2 = tl[x.2.toNat] := by unfold toL; simp [hlx]
                have he1 : (toL tl x).1 = x.1 := rfl
                unfold Nd.small
                rw [he, he1]
                omega)
              (moves_alts _ _ _ _ _ _ (fun b hb => by omega) (fun _ _ => rfl) hqt) (by omega) (fun l hl => Nat.le_trans (HAl2.out.2 l hl).1 (by omega)))
            have HQ := Lib.hid hQ
            have HLJ := Lib.hid hlj
            have HFQ := Lib.hid hfq
            clear hQ hlj hqt hAl hve3 hfq
            go_wp2_with fail
            refine HMV.out.mono ?_
            rintro e w4 ⟨u4, rfl, hf4, hO4⟩
            have hlmv : (mvd (toL tl) alts).length = alts.length := by unfold mvd; rw [List.length_map]
            have hlt4 := hO4.lt
            have HON := Lib.hid (once_calls (mvd (toL tl) alts) (mvd_small HBD.out HTB.out) (by rw [hlmv]; omega) w4 u4 hO4)
            obtain ⟨A4, c4, rfl, hc4⟩ := hO4.val
            have HLT4 := Lib.hid hlt4
            have HLMV := Lib.hid hlmv
            clear hO4 hlt4 hlmv
            generalize (mvd (toL tl) alts).length = ln at *
            dsimp only
            go_wp2_with fail
            refine HON.out.mono ?_
            rintro e w5 ⟨A5, c5, rfl, hg5', hr5⟩
            have hf5 : Grew wr w5 := grew_own hf4 (fun b hb => (HLT4.out b hb).1) hg5'.1 hg5'.2
            have hWa : WR AltsR (fun b => wr.heap.size ≤ b ∧ b < w5.heap.size) w5 (altT tl alts) [.slice A5 (altSet (mvd (toL tl) alts)).length c5] := by
              refine moves_WR moves_alts _ _ _ _ _ _ (fun b hb => ?_) (fun _ _ => rfl) hr5
              rcases hb with hb | hb
              · exact ⟨hb.1, Nat.lt_of_lt_of_le hb.2.1 hg5'.1.size⟩
              · have := HLT4.out b hb.symm
                exact ⟨this.1, by have h2 := hg5'.1.size; omega⟩
            have hat := altT_len tl alts
            have hate : (altSet (mvd (toL tl) alts)).length = (altT tl alts).length := rfl
            rw [hate] at hWa ⊢
            have HWA := Lib.hid hWa
            clear hWa hr5
            generalize (altT tl alts).length = ln5 at *
            dsimp only
            repeat ((fail_if_success at_builtin); first | go_values | go_skip | go_guarded | go_step | go_upon)
            have hf6 : Grew wr (w5.alloc (.cells #[.slice A5 ln5 c5] 50)) := grew_then_alloc hf5 _
            have hO5 := HQ.out.kept (moves_WR moves_alts) hf6.1 (ownNone _) (by simp)
            have htw := OneAt.new w5 (.slice A5 ln5 c5) 50
            have hlen := HLJ.out
            have hs6 := hf6.1.size
            have hs55 := hf5.1.size
            have hltO := HQ.out.lt
            refine Own.app1 (moves_WR moves_alts) elem_alts hO5 rfl _ _ rfl rfl rfl (altT tl alts) [.slice A5 ln5 c5] rfl (one_at htw) ?_ ?_ (by rw [hlen]; omega) (by omega) (by omega) ?_
            · intro u hu
              simp at hu
              subst hu
              rfl
            · refine moves_WR moves_alts _ _ _ _ _ _ (fun b hb => ⟨by omega, by simp; omega, fun e => ?_⟩) (fun b hb => Below.heap_alloc _ _ _ (by omega)) HWA.out
              have := (hltO b e.symm).2
              omega
            intro v7 w7 hO7 hg7 hp7
            have hfr7 : Grew wo w7 := grew_own (grew_trans HFQ.out hf6) (fun b hb => (hltO b hb).1) hg7.1 hg7.2
            rw [← HT2.out] at hO7
            obtain ⟨A7, c7, he7, hcc7⟩ := hO7.val
            have HO7 := Lib.hid hO7
            clear hO7 hO5 htw hltO
            have hl7 : ((row.take (j + 1)).map (altT tl)).length = j + 1 := by rw [List.length_map, List.length_take]; omega
            rw [hl7] at he7
            clear hl7
            subst he7
            go_wp2_with fail
            exact ⟨⟨j + 1, by omega, by go_num, hfr7, HO7.out⟩, by simp [intOf]; omega⟩
          · obtain rfl : j = row.length := by omega
            rw [List.take_length] at hQ
            have hO1 := HO.out.grew hfq
            obtain ⟨hc0, hc1, hc2'⟩ := hO1.1.cells
            have hfz := hO1.1.free 2
            obtain ⟨Am, cm, hme, hmc⟩ := hO1.2.2.2.val
            rw [HL.out] at hme hmc
            subst hme
            have hlm2 : (row.map (altT tl)).length = row.length := by simp
            have hWq := hQ.slW moves_alts (by omega) (S := fun b => wo.heap.size ≤ b ∧ b < wr.heap.size) (fun b h1 h2 => ⟨h1, h2⟩) (fun b hb => hQ.lt b hb)
            rw [← HRQ.out] at hWq
            have HWq := Lib.hid hWq
            have HO1 := Lib.hid hO1
            clear hWq hQ hO1 hlj
            repeat ((fail_if_success at_builtin); first | go_values | go_skip | go_guarded | go_step | go_upon)
            have hf5 : Grew wr (wr.alloc (.cells #[.slice Aq row.length cq] 49)) := grew_alloc _ _
            have hO5 := (HO1.out.grew hf5)
            have htw := OneAt.new wr (.slice Aq row.length cq) 49
            have hlen := HL.out
            have hltO := hO5.2.2.2.lt
            have hltO1 := HO1.out.2.2.2.lt
            refine Own.app1 (moves_WR moves_rule) elem_rule hO5.2.2.2 rfl _ _ rfl rfl rfl (rowQ a tl q) [.slice Aq row.length cq] rfl (one_at htw) ?_ ?_ (by rw [hlen]; omega) (by omega) (by simp; omega) ?_
            · intro u hu
              simp at hu
              subst hu
              rfl
            · refine moves_WR moves_rule _ _ _ _ _ _ (fun b hb => ⟨by omega, by simp; omega, fun e => ?_⟩) (fun b hb => Below.heap_alloc _ _ _ (by omega)) HWq.out
              have hO2 := HO.out.2.2.2.lt b e.symm
              omega
            intro v7 w7 hO7 hg7 hp7
            rw [← HT.out] at hO7
            have hT7 : ThreeAt w7 g (.slice Ar a.ranks.length cr) (.int .i64 st) (.slice Am k cm) 25 := hO5.1.move (hg7.1.block g (by simp; omega) (fun e => by have := (hltO g e.symm).1; omega))
            have hG7 : GrewG g wc.heap.size wo w7 := (GrewG.of (grew_trans hfq hf5) (by omega)).trans (.ofR hg7 (by simp; omega) (fun b hb => by have := (hltO b hb).1; omega))
            obtain ⟨A7, c7, he7, hcc7⟩ := hO7.val
            rw [show ((qs.take (k + 1)).map (rowQ a tl)).length = k + 1 by rw [List.length_map, List.length_take]; omega] at he7
            have hT8 := hT7.set2 v7
            have hO8 := hO7.kept (moves_WR moves_rule) (w' := w7.setCell ⟨g, 2, none⟩ v7) (row := some g) (frm_set (frm_refl _ _) _ _) (.inr fun e => by have := (hO7.lt g e).1; omega) (fun b hb e => by injection e with e; omega)
            have HG8 := Lib.hid (HFR.out.trans (hG7.set 2 v7))
            obtain ⟨hd0, hd1, hd2⟩ := hT7.cells
            have hfz7 := hT7.free 2
            have HO8 := Lib.hid (show OutAt (w7.setCell ⟨g, 2, none⟩ v7) g wc.heap.size (.slice Ar a.ranks.length cr) st v7 ((qs.take (k + 1)).map (rowQ a tl)) from ⟨hT8, hgn, by have := hg7.1.size; simp at this ⊢; omega, hO8⟩)
            clear hO7 hO5 htw hltO hO8 hT8 hT7 hG7
            subst he7
            go_wp2_with fail
            exact ⟨⟨k + 1, by omega, by go_num, HG8.out, _, HO8.out⟩, by simp [intOf]; omega⟩
      · obtain rfl : k = qs.length := by omega
        rw [List.take_length] at hO
        have hlx : (qs.map (rowQ a tl)).length = qs.length := by simp
        obtain ⟨Am, cm, hme, hmc⟩ := hO.2.2.2.val
        rw [hlx] at hme hmc
        subst hme
        have hgn := hO.2.1
        have hnw := hO.2.2.1
        have hGw : Grew w wr := GrewG.grew HGW5.out (by omega) (by omega) hfr
        have hxo9 : ThreeAt wr (w.heap.size + 2) (.slice none 0 0) (.int .i64 0) (.slice none 0 0) 25 := HXO.out.move (hfr.block _ (by omega) (by omega))
        have hsl9 := hO.2.2.2.slW moves_rule (S := fun q => w2.heap.size ≤ q ∧ q < wr.heap.size) (by rw [hlx]; omega) (fun q h1 h2 => ⟨by have := hG5.1.size; omega, h2⟩) (fun q hq => by have := hO.2.2.2.lt q hq; have := hG5.1.size; omega)
        have hrk9 : WR (RowS 1 IntR) (fun q => w2.heap.size ≤ q ∧ q < wr.heap.size) wr a.ranks [.slice Ar a.ranks.length cr] :=
          moves_WR (moves_row moves_int) _ _ _ _ _ _ (fun q hq => ⟨hq.1, by have := hq.2.1; omega⟩) (fun q hq => hfr.block q hq.2.1 hq.2.2) HR5.out
        have HAU : Hid (WR AuR (fun q => w2.heap.size ≤ q ∧ q < wr.heap.size) wr (numA a qs tl) [.slice Ar a.ranks.length cr, .int .i64 st, .slice Am qs.length cm]) :=
          ⟨.slice Ar a.ranks.length cr, _, by rw [hste.out], hrk9, hsl9, by rw [hste.out]; omega, by rw [hste.out]; omega⟩
        obtain ⟨he0, he1, he2⟩ := hO.1.cells
        obtain ⟨kx0, kx1, kx2⟩ := hxo9.cells
        have kxf := hxo9.free
        have kxf0 := kxf 0
        have kxf1 := kxf 1
        have kxf2 := kxf 2
        have HGW := Lib.hid hGw
        have hszr := hGw.1.size
        clear hO hsl9 hrk9 kxf hGw hxo9
        go_wp2_with fail
        refine bodyPost_ret (v := .agg #[.slice Ar a.ranks.length cr, .int .i64 st, .slice Am qs.length cm]) (by simp [results, Tryz.results54, go_sem, kx0, kx1, kx2, kxf0, kxf1, kxf2]) rfl ⟨.slice Ar a.ranks.length cr, .slice Am qs.length cm, ?_, ?_, ?_⟩
        · rw [hste.out]
        · exact grew_set_new (grew_set_new (grew_set_new HGW.out (by omega) _ _) (by omega) _ _) (by omega) _ _
        · rw [hste.out]
          refine moves_WR moves_au _ _ _ _ _ _ (fun q hq => ⟨by omega, by simp; omega⟩) (fun q hq => ?_) HAU.out
          rw [Below.heap_setCell _ _ _ _ (by show q ≠ w.heap.size + 2; omega), Below.heap_setCell _ _ _ _ (by show q ≠ w.heap.size + 2; omega), Below.heap_setCell _ _ _ _ (by show q ≠ w.heap.size + 2; omega)]
end Go.Proofs.YtjpdmncafacmaaaGreatDoor
end
/- mix's face, walked. -/
section
set_option linter.unusedVariables false
set_option linter.unusedSimpArgs false
namespace Go.Proofs.YtjpdmncafacmaaaGreatDoor
open Go.RowKit

def bs (l : List UInt8) : ByteArray := ⟨l.toArray⟩
theorem bs_append (a b : List UInt8) : bs a ++ bs b = bs (a ++ b) := by
  apply ByteArray.ext
  simp [bs]
theorem needT_bs (x : Nd) : bs (Lib.decDigits x.1.toNat) ++ bs [46] ++ bs (Lib.decDigits x.2.toNat) ++ bs [32] = bs (needT x) := by
  rw [bs_append, bs_append, bs_append]
  unfold needT
  simp
theorem itoa_bs (i : Nat) (hi : i < 100) (w : World) : Calls Tryz.prog 90 #[.int .i64 i] w fun e w' => e = .returned (.string (bs (Lib.decDigits i))) ∧ w' = w := Tryz.strconv_Itoa_small i hi w
theorem text_bs {w : World} {B b : Nat} {v : Value} {l : List UInt8} (h : BV w B b v l) (s : List UInt8) (h0 : 0 < s.length) (hlen : l.length + s.length ≤ 140737488355328) (hBw : B ≤ w.heap.size) :
    Calls Tryz.prog 89 #[.pointer (some ⟨b, 0, none⟩), .string (bs s)] w fun e w' => e = .returned (.tuple #[.int .i64 s.length, .nilIface]) ∧ ∃ v', BV w' B b v' (l ++ s) ∧ FK w w' b v v' := bv_text h s h0 hlen hBw
/-- Rows under a table. -/
def rowT (tl : List Int) (row : List (List (List Nd))) : List (List (List Nd)) := row.map (altT tl)
/-- From a world on, a builder and its text. -/
structure FS (w w1 : World) (b : Nat) (l : List UInt8) (wr : World) (v : Value) : Prop where
  bv : BV wr w.heap.size b v l
  fk : FK w1 wr b (.slice none 0 0) v
theorem FS.grew {w w1 wr w' : World} {b : Nat} {l : List UInt8} {v : Value} (h : FS w w1 b l wr v) (hf : Grew wr w') : FS w w1 b l w' v := ⟨h.bv.frm hf.1, h.fk.frm hf⟩
theorem FS.step {w w1 wr w' : World} {b : Nat} {l l' : List UInt8} {v v' : Value} (h : FS w w1 b l wr v) (hb : BV w' w.heap.size b v' l') (hf : FK wr w' b v v') : FS w w1 b l' w' v' := ⟨hb, h.fk.trans hf⟩
/-- What is older than the builder is as it was. -/
theorem FS.old {w w1 wr : World} {b : Nat} {l : List UInt8} {v : Value} (h : FS w w1 b l wr v) (h1 : Grew w w1) (hb : w.heap.size ≤ b) : Grew w wr := by
  obtain ⟨a0, a1, a2, a3, a4, a5, a6⟩ := h.fk
  refine ⟨⟨a1.trans h1.1.os, a2.trans h1.1.tape, a3.trans h1.1.output, Nat.le_trans h1.1.size a4, fun k hk _ => ?_⟩, Nat.le_trans h1.2 a0⟩
  rw [a5 k (Nat.lt_of_lt_of_le hk h1.1.size) (by omega) (by simp [Value.ownBlock])]
  exact frm_lt h1.1 k hk
set_option maxRecDepth 100000 in
set_option maxHeartbeats 4000000 in
theorem face_calls (cls : Nat) (hcls : cls < 10) (row : List (List (List Nd))) (tl : List Int) (F : Nat) (cb : Array Value) (w : World) (v : Value) (eg : ∀ args w, (callFunc F args).run Tryz.prog w = .ok (.enter F args) w)
    (hF : ∀ alts ∈ row, ∀ l ∈ alts, ∀ x ∈ l, NdFn F cb w (toL tl) x ∧ okT (toL tl x)) (hv : rdO RuleR w row [v]) (hb0 : row.length ≤ 24) (hb1 : ∀ alts ∈ row, alts.length ≤ 12) (hb2 : ∀ alts ∈ row, ∀ l ∈ alts, l.length ≤ 24) :
    Calls Tryz.prog 52 #[.int .i64 cls, v, .func (.func F) #[] cb] w fun e w' => e = .returned (.string (bs (faceL cls (rowT tl row)))) ∧ w.grownBy w' none := by
  have hR := RowS.sl hv
  obtain ⟨A, c, rfl, hc, hm⟩ := hR.val
  have HF := Lib.hid hF
  have HR := Lib.hid hR
  have HB1 := Lib.hid hb1
  have HB2 := Lib.hid hb2
  have HD : Hid ((Lib.decDigits cls).length = 1) := dec_lt cls hcls
  obtain ⟨w1, hw1⟩ : ∃ w1, w1 = w.alloc (.cells #[.pointer none, .slice none 0 0] 125) := ⟨_, rfl⟩
  have hG1 : Grew w w1 := by rw [hw1]; exact grew_alloc _ _
  have hBV1 : BV w1 w.heap.size w.heap.size (.slice none 0 0) [] := by rw [hw1]; exact BV.new w (Nat.le_refl _)
  have hFS1 : FS w w1 w.heap.size [] w1 (.slice none 0 0) := ⟨hBV1, FK.refl _ _ _⟩
  have HI := Lib.hid (itoa_bs cls (by omega) w1)
  have HT1 := Lib.hid (text_bs hBV1 (Lib.decDigits cls) (by rw [HD.out]; omega) (by rw [HD.out]; simp) hG1.1.size)
  have HFS1 := Lib.hid hFS1
  have HW1 := Lib.hid hw1
  rw [hw1] at HI
  have hrl := hb0
  clear hw1 hFS1 hBV1 hF hv hR hb1 hb2
  go_enter Tryz.func52, Tryz.ntmps52
  go_wp2_with fail
  refine HI.out.mono ?_
  rw [← HW1.out]
  rintro e w1 ⟨rfl, rfl⟩
  dsimp only
  go_wp2_with fail
  refine HT1.out.mono ?_
  rintro e w2 ⟨rfl, v2, hbv2, hfk2⟩
  have HFS2 := Lib.hid (HFS1.out.step hbv2 hfk2)
  rw [List.nil_append] at HFS2
  clear hbv2 hfk2
  dsimp only
  go_wp2_with fail
  go_loopw [19] (fun i wr => ∃ (k : Nat) (vb : Value), k ≤ row.length ∧ i = .int .i64 k ∧ Hid (FS w w1 w.heap.size (Lib.decDigits cls ++ (rowT tl (row.take k)).flatMap symTx) wr vb) ∧ (Lib.decDigits cls ++ (rowT tl (row.take k)).flatMap symTx).length ≤ 2 + 2000 * k) (fun i _ => row.length - (intOf i).toNat)
  case atStart => exact ⟨0, v2, Nat.zero_le _, rfl, by unfold Hid; simpa [rowT] using HFS2.out, by simp [rowT, HD.out]⟩
  case round =>
    obtain ⟨k, vb, hk, rfl, HFS, hlen⟩ := hrel
    have HLEN := Lib.hid hlen
    clear hlen
    by_cases hlt : k < row.length
    · have hGr : Grew w wr := HFS.out.old hG1 (Nat.le_refl _)
      obtain ⟨b0, o, p0, rfl, hb0', hp0', hpt⟩ := HR.out.at1 k hlt
      have hp0 := frm_cell hGr.1 hp0'
      have HLT : Hid (Lib.decDigits cls ++ (rowT tl (row.take (k + 1))).flatMap symTx = Lib.decDigits cls ++ (rowT tl (row.take k)).flatMap symTx ++ [47] ++ (altT tl row[k]).flatMap altTx) := by
        unfold Hid rowT
        rw [List.take_succ_eq_append_getElem hlt, List.map_append, List.flatMap_append]
        simp [symTx]
      have HFl := Lib.hid (HF.out _ (List.getElem_mem hlt))
      have hal1 := HB1.out _ (List.getElem_mem hlt)
      have HAL2 := Lib.hid (HB2.out _ (List.getElem_mem hlt))
      generalize row[k] = alts at *
      obtain ⟨v3, hve3, hAl⟩ := id hpt
      obtain rfl : p0 = v3 := by simpa using hve3
      obtain ⟨A3, c3, rfl, hc3, hm3⟩ := hAl.val
      have hszr := hGr.1.size
      generalize hL0 : Lib.decDigits cls ++ (rowT tl (row.take k)).flatMap symTx = l0 at *
      have hl0 := HLEN.out
      have HBY := Lib.hid (bv_byte HFS.out.bv 47 47 rfl (by omega) hszr)
      have HPT := Lib.hid hpt
      clear hAl hve3 hpt hp0' hL0
      go_wp2_with fail
      refine HBY.out.mono ?_
      rintro e w4 ⟨rfl, v4, hbv4, hfk4⟩
      have HFS4 := Lib.hid (HFS.out.step hbv4 hfk4)
      have hG4 : Grew w w4 := HFS4.out.old hG1 (Nat.le_refl _)
      have HMV := Lib.hid (moved_calls alts (toL tl) F cb w4 (.slice A3 alts.length c3) eg (fun l hl x hx => by
          obtain ⟨q1, q2⟩ := HFl.out l hl x hx
          refine ⟨fun w' hw' => q1 w' (grew_trans hG4 hw'), ?_⟩
          unfold okT at q2
          unfold Nd.small
          omega) (rdO_frm moves_alts hG4.1 HPT.out) (by omega) (fun l hl => Nat.le_trans (HAL2.out l hl) (by omega)))
      clear hbv4 hfk4
      dsimp only
      go_wp2_with fail
      refine HMV.out.mono ?_
      rintro e w5 ⟨u5, rfl, hf5, hO5⟩
      have hlmv : (mvd (toL tl) alts).length = alts.length := by unfold mvd; rw [List.length_map]
      have hlt5 := hO5.lt
      have hsmall : ∀ l ∈ mvd (toL tl) alts, ∀ x ∈ l, okT x := fun l hl x hx => by
        obtain ⟨l', hl', rfl⟩ := List.mem_map.1 hl
        obtain ⟨x', hx', rfl⟩ := List.mem_map.1 ((setL_mem ord_nd _ _).1 hx)
        exact (HFl.out l' hl' x' hx').2
      have hmax : ∀ l ∈ mvd (toL tl) alts, l.length ≤ 24 := fun l hl => by
        obtain ⟨l', hl', rfl⟩ := List.mem_map.1 hl
        have := HAL2.out l' hl'
        have h2 := ndSet_len (l'.map (toL tl))
        rw [List.length_map] at h2
        omega
      have HON := Lib.hid (once_calls (mvd (toL tl) alts) (fun l hl x hx => by
          have := hsmall l hl x hx
          unfold okT at this
          unfold Nd.small
          omega) (by rw [hlmv]; omega) w5 u5 hO5)
      obtain ⟨A5, c5, rfl, hc5⟩ := hO5.val
      have HLT5 := Lib.hid hlt5
      have hln : (mvd (toL tl) alts).length ≤ 12 := by rw [hlmv]; exact hal1
      have hmem : ∀ l ∈ altT tl alts, l ∈ mvd (toL tl) alts := fun l hl => (setL_mem ord_alt _ _).1 hl
      have HSM : Hid (∀ l ∈ altT tl alts, ∀ x ∈ l, okT x) := fun l hl => hsmall l (hmem l hl)
      have HMX : Hid (∀ l ∈ altT tl alts, l.length ≤ 24) := fun l hl => hmax l (hmem l hl)
      clear hO5 hlt5 hlmv hsmall hmax hmem
      generalize (mvd (toL tl) alts).length = ln at *
      dsimp only
      go_wp2_with fail
      refine HON.out.mono ?_
      rintro e w6 ⟨A6, c6, rfl, hg6', hr6⟩
      have hf6 : Grew w4 w6 := grew_own hf5 (fun b hb => (HLT5.out b hb).1) hg6'.1 hg6'.2
      have HFS6 := Lib.hid (HFS4.out.grew hf6)
      have hRS : AltsR (fun q => w4.heap.size ≤ q ∧ q < w6.heap.size) w6 (altT tl alts) [.slice A6 (altSet (mvd (toL tl) alts)).length c6] := by
        refine moves_alts _ _ _ _ _ _ (fun q hq => ?_) (fun _ _ => rfl) (WR.rd moves_alts hr6)
        rcases hq with hq | hq
        · exact ⟨hq.1, Nat.lt_of_lt_of_le hq.2.1 hg6'.1.size⟩
        · have := HLT5.out q hq.symm
          exact ⟨this.1, by have h2 := hg6'.1.size; omega⟩
      have hate : (altSet (mvd (toL tl) alts)).length = (altT tl alts).length := rfl
      have hat := altT_len tl alts
      rw [hate] at hRS ⊢
      have HRS := Lib.hid (row_val hRS)
      have hv4 : Hid (∀ q, w4.heap.size ≤ q → q < w6.heap.size → q ≠ w.heap.size ∧ some q ≠ v4.ownBlock) := fun q h1 h2 => by
        have h3 := HFS4.out.bv.lt
        refine ⟨by omega, fun e => ?_⟩
        have := (HFS4.out.bv.buf q e.symm).2
        omega
      have ha12 : (altT tl alts).length ≤ 12 := by omega
      clear hr6 hRS hg6' hate hat
      generalize altT tl alts = rs at *
      dsimp only
      go_wp2_with fail
      go_loopw [29] (fun i wz => ∃ (j : Nat) (vj : Value), j ≤ rs.length ∧ i = .int .i64 j ∧ Hid (FK w6 wz w.heap.size v4 vj) ∧ Hid (FS w w1 w.heap.size (l0 ++ [47] ++ (rs.take j).flatMap altTx) wz vj) ∧ (l0 ++ [47] ++ (rs.take j).flatMap altTx).length ≤ l0.length + 1 + 100 * j) (fun i _ => rs.length - (intOf i).toNat)
      case atStart => exact ⟨0, v4, Nat.zero_le _, rfl, FK.refl _ _ _, by unfold Hid; simpa using HFS6.out, by simp⟩
      case round =>
        obtain ⟨j, vj, hj, rfl, HFK, HFJ, hlj⟩ := hrel
        have HLJ := Lib.hid hlj
        clear hlj
        by_cases hltj : j < rs.length
        · obtain ⟨b4, o4, p4, rfl, hb4, hp4', hpt4⟩ := HRS.out.at1 j hltj
          have hkeep : Hid (∀ wq vq, FK w6 wq w.heap.size v4 vq → ∀ q, (w4.heap.size ≤ q ∧ q < w6.heap.size) → wq.heap[q]? = w6.heap[q]?) := fun wq vq hq q h => hq.keep h.2 (hv4.out q h.1 h.2).1 (hv4.out q h.1 h.2).2
          have hp4 : wr.cell? ⟨b4, o4 + j, none⟩ = some p4 := (World.cell?_of_block (hkeep.out wr vj HFK.out b4 hb4)).trans hp4'
          have HLT4 : Hid (l0 ++ [47] ++ (rs.take (j + 1)).flatMap altTx = l0 ++ [47] ++ (rs.take j).flatMap altTx ++ [40] ++ (rs[j]).flatMap needT ++ [41]) := by
            unfold Hid
            rw [List.take_succ_eq_append_getElem hltj, List.flatMap_append]
            simp [altTx]
          have HSMl := Lib.hid (HSM.out _ (List.getElem_mem hltj))
          have hl24 := HMX.out _ (List.getElem_mem hltj)
          generalize rs[j] = l at *
          have hL := row_val hpt4
          obtain ⟨A7, c7, rfl, hc7, hm7⟩ := hL.val
          have HL := Lib.hid hL
          have hlj := HLJ.out
          generalize hlq : l0 ++ [47] ++ (rs.take j).flatMap altTx = lq at *
          have hszj : w.heap.size ≤ wr.heap.size := (HFJ.out.old hG1 (Nat.le_refl _)).1.size
          have HBY4 := Lib.hid (bv_byte HFJ.out.bv 40 40 rfl (by omega) hszj)
          clear hpt4 hL hp4' hlq
          go_wp2_with fail
          refine HBY4.out.mono ?_
          rintro e w8 ⟨rfl, v8, hbv8, hfk8⟩
          have HFS8 := Lib.hid (HFJ.out.step hbv8 hfk8)
          have HFK8 := Lib.hid (HFK.out.trans hfk8)
          clear hbv8 hfk8
          dsimp only
          go_wp2_with fail
          go_loopw [36] (fun i wz => ∃ (p : Nat) (vp : Value), p ≤ l.length ∧ i = .int .i64 p ∧ Hid (FK w6 wz w.heap.size v4 vp) ∧ Hid (FS w w1 w.heap.size (lq ++ [40] ++ (l.take p).flatMap needT) wz vp) ∧ (lq ++ [40] ++ (l.take p).flatMap needT).length ≤ lq.length + 1 + 4 * p) (fun i _ => l.length - (intOf i).toNat)
          case atStart => exact ⟨0, v8, Nat.zero_le _, rfl, HFK8.out, by unfold Hid; simpa using HFS8.out, by simp⟩
          case round =>
            obtain ⟨p, vp, hp, rfl, HFKp, HFSp, hlp⟩ := hrel
            have HLP := Lib.hid hlp
            clear hlp
            by_cases hltp : p < l.length
            · obtain ⟨b5, o5, y0, y1, rfl, hb5, hy0', hy1', hyt⟩ := HL.out.at2 p hltp
              obtain ⟨hyv, _⟩ := hyt
              simp only [List.cons.injEq, and_true] at hyv
              obtain ⟨rfl, rfl⟩ := hyv
              have hmv5 : wr.cell? ⟨b5, o5 + p * 2, none⟩ = w6.cell? ⟨b5, o5 + p * 2, none⟩ := World.cell?_of_block (hkeep.out wr vp HFKp.out b5 hb5)
              have hmv6 : wr.cell? ⟨b5, o5 + p * 2 + 1, none⟩ = w6.cell? ⟨b5, o5 + p * 2 + 1, none⟩ := World.cell?_of_block (hkeep.out wr vp HFKp.out b5 hb5)
              have hy0 := hmv5.trans hy0'
              have hy1 := hmv6.trans hy1'
              have HLTp : Hid (lq ++ [40] ++ (l.take (p + 1)).flatMap needT = lq ++ [40] ++ (l.take p).flatMap needT ++ needT l[p]) := by
                unfold Hid
                rw [List.take_succ_eq_append_getElem hltp, List.flatMap_append]
                simp
              have hok := HSMl.out _ (List.getElem_mem hltp)
              clear hy0' hy1' hmv5 hmv6
              generalize l[p] = x at *
              obtain ⟨x1, x2⟩ := x
              obtain ⟨⟨hx1, hx2⟩, hx3, hx4⟩ := hok
              simp only at hx1 hx2 hx3 hx4 hy0 hy1
              obtain ⟨kd, rfl⟩ : ∃ kd : Nat, x1 = kd := ⟨x1.toNat, by omega⟩
              obtain ⟨st, rfl⟩ : ∃ st : Nat, x2 = st := ⟨x2.toNat, by omega⟩
              have hkd : kd < 10 := by omega
              have hst : st < 10 := by omega
              have hnb := needT_bs ((kd : Int), (st : Int))
              simp only [Int.toNat_natCast] at hnb
              have hnl : (needT ((kd : Int), (st : Int))).length = 4 := by
                unfold needT
                simp only [Int.toNat_natCast]
                rw [dec_one kd hkd, dec_one st hst]
                rfl
              have hlpp := HLP.out
              generalize hlx : lq ++ [40] ++ (l.take p).flatMap needT = lx at *
              have hga : Grew wr (wr.alloc (.cells #[.int .i64 kd, .int .i64 st] 80)) := grew_alloc _ _
              obtain ⟨x0, x1', _, _⟩ := (TwoAt.new wr (.int .i64 kd) (.int .i64 st) 80).cells
              have HFSa := Lib.hid (HFSp.out.grew hga)
              have HFKa := Lib.hid (HFKp.out.frm hga)
              have HI1 : Hid (∀ wx, Calls Tryz.prog 90 #[.int .i64 kd] wx fun e w' => e = .returned (.string (bs (Lib.decDigits kd))) ∧ w' = wx) := fun wx => itoa_bs kd (by omega) wx
              have HI2 : Hid (∀ wx, Calls Tryz.prog 90 #[.int .i64 st] wx fun e w' => e = .returned (.string (bs (Lib.decDigits st))) ∧ w' = wx) := fun wx => itoa_bs st (by omega) wx
              have HWT : Hid (∀ wx, Grew (wr.alloc (.cells #[.int .i64 kd, .int .i64 st] 80)) wx → Calls Tryz.prog 89 #[.pointer (some ⟨w.heap.size, 0, none⟩), .string (bs (needT ((kd : Int), (st : Int))))] wx fun e w' => e = .returned (.tuple #[.int .i64 (needT ((kd : Int), (st : Int))).length, .nilIface]) ∧ (w'.cell? ⟨wr.heap.size, 0, none⟩ = some (.int .i64 kd) ∧ w'.cell? ⟨wr.heap.size, 1, none⟩ = some (.int .i64 st)) ∧ ∃ v', Hid (FK w6 w' w.heap.size v4 v') ∧ Hid (FS w w1 w.heap.size (lx ++ needT ((kd : Int), (st : Int))) w' v')) := fun wx hx => by
                have h1 := HFSa.out.grew hx
                refine (text_bs h1.bv (needT ((kd : Int), (st : Int))) (by rw [hnl]; omega) (by rw [hnl]; omega) (h1.old hG1 (Nat.le_refl _)).1.size).mono ?_
                rintro e w' ⟨rfl, v', hb, hf⟩
                have hkp : w'.heap[wr.heap.size]? = wx.heap[wr.heap.size]? := hf.keep (by have := hx.1.size; simp at this; omega) (by have := HFSp.out.bv.lt; omega) (fun e => by have := (HFSp.out.bv.buf _ e.symm).2; omega)
                exact ⟨rfl, ⟨(World.cell?_of_block hkp).trans (frm_cell hx.1 x0), (World.cell?_of_block hkp).trans (frm_cell hx.1 x1')⟩, v', (HFKa.out.frm hx).trans hf, h1.step hb hf⟩
              have hnb2 : bs (Lib.decDigits kd) ++ ({ data := #[46] } : ByteArray) ++ bs (Lib.decDigits st) ++ ({ data := #[32] } : ByteArray) = bs (needT ((kd : Int), (st : Int))) := hnb
              rw [← hnb2] at HWT
              have hX : (bs (Lib.decDigits kd)).size = 1 := by rw [dec_one kd hkd]; rfl
              have hY : (bs (Lib.decDigits st)).size = 1 := by rw [dec_one st hst]; rfl
              have hX1 : (bs (Lib.decDigits kd)).size ≤ 1 := by omega
              have hY1 : (bs (Lib.decDigits st)).size ≤ 1 := by omega
              have hc1 : ¬ 9223372036854775807 < (bs (Lib.decDigits kd)).size + 1 := by omega
              have hc2 : ¬ 9223372036854775807 < (bs (Lib.decDigits kd)).size + 1 + (bs (Lib.decDigits st)).size := by omega
              have hc3 : ¬ 9223372036854775807 < (bs (Lib.decDigits kd)).size + 1 + (bs (Lib.decDigits st)).size + 1 := by omega
              clear hnb2 hX hY
              generalize bs (Lib.decDigits kd) = X at *
              generalize bs (Lib.decDigits st) = Y at *
              have HNL := Lib.hid hnl
              have HK0 : Hid (Grew (wr.alloc (.cells #[.int .i64 kd, .int .i64 st] 80)) (wr.alloc (.cells #[.int .i64 kd, .int .i64 st] 80)).drew ∧ (wr.alloc (.cells #[.int .i64 kd, .int .i64 st] 80)).drew.cell? ⟨wr.heap.size, 0, none⟩ = some (.int .i64 kd) ∧ (wr.alloc (.cells #[.int .i64 kd, .int .i64 st] 80)).drew.cell? ⟨wr.heap.size, 1, none⟩ = some (.int .i64 st)) := ⟨grew_drew _, x0, x1'⟩
              clear hnb hnl hx1 hx2 hx3 hx4
              go_wp2_with fail
              go_region_law (first | (go_simp; go_at_call 90; (with_reducible refine (HI1.out _).mono ?_); rintro e v5 ⟨rfl, rfl⟩; dsimp only) | (go_simp; go_at_call 90; (with_reducible refine (HI2.out _).mono ?_); rintro e v6 ⟨rfl, rfl⟩; dsimp only) | (go_simp; go_at_call 89; (with_reducible refine (HWT.out _ HK0.out.1).mono ?_); rintro e v7 ⟨rfl, hcc7, v9, hfk9, hfs9⟩; dsimp only))
              all_goals
                have HE9 : Hid (FS w w1 w.heap.size (lq ++ [40] ++ (l.take (p + 1)).flatMap needT) v7 v9) := by
                  unfold Hid
                  rw [HLTp.out]
                  exact hfs9.out
                have HL9 : Hid ((lq ++ [40] ++ (l.take (p + 1)).flatMap needT).length ≤ lq.length + 1 + 4 * (p + 1)) := by
                  unfold Hid
                  rw [HLTp.out, List.length_append, HNL.out]
                  omega
                clear hcc7
                go_wp2_with fail
                exact ⟨⟨p + 1, v9, by omega, by go_num, hfk9, HE9, HL9.out⟩, by simp [intOf]; omega⟩
            · obtain rfl : p = l.length := by omega
              rw [List.take_length] at HFSp HLP
              have hl9 := HLP.out
              have HBY9 := Lib.hid (bv_byte HFSp.out.bv 41 41 rfl (by omega) (HFSp.out.old hG1 (Nat.le_refl _)).1.size)
              go_wp2_with fail
              refine HBY9.out.mono ?_
              rintro e w9 ⟨rfl, v9, hbv9, hfk9⟩
              have HFK9 := Lib.hid (HFKp.out.trans hfk9)
              have HE9 : Hid (FS w w1 w.heap.size (l0 ++ [47] ++ (rs.take (j + 1)).flatMap altTx) w9 v9) := by
                unfold Hid
                rw [HLT4.out]
                exact HFSp.out.step hbv9 hfk9
              have HL9 : Hid ((l0 ++ [47] ++ (rs.take (j + 1)).flatMap altTx).length ≤ l0.length + 1 + 100 * (j + 1)) := by
                unfold Hid
                rw [HLT4.out, List.length_append]
                simp only [List.length_singleton]
                omega
              clear hbv9 hfk9
              dsimp only
              go_wp2_with fail
              exact ⟨⟨j + 1, v9, by omega, by go_num, HFK9, HE9, HL9.out⟩, by simp [intOf]; omega⟩
        · obtain rfl : j = rs.length := by omega
          rw [List.take_length] at HFJ HLJ
          have HE9 : Hid (FS w w1 w.heap.size (Lib.decDigits cls ++ (rowT tl (row.take (k + 1))).flatMap symTx) wr vj) := by
            unfold Hid
            rw [HLT.out]
            exact HFJ.out
          have HL9 : Hid ((Lib.decDigits cls ++ (rowT tl (row.take (k + 1))).flatMap symTx).length ≤ 2 + 2000 * (k + 1)) := by
            unfold Hid
            rw [HLT.out]
            have := HLJ.out
            omega
          go_wp2_with fail
          exact ⟨⟨k + 1, vj, by omega, by go_num, HE9, HL9.out⟩, by simp [intOf]; omega⟩
    · obtain rfl : k = row.length := by omega
      rw [List.take_length] at HFS
      have hGr : Grew w wr := HFS.out.old hG1 (Nat.le_refl _)
      have HST := Lib.hid (bv_string HFS.out.bv hGr.1.size)
      go_wp2_with fail
      refine HST.out.mono ?_
      rintro e w9 ⟨rfl, hb9⟩
      dsimp only
      go_wp2_with fail
      refine bodyPost_ret (results_tmp rfl _ _ _) rfl ⟨rfl, ⟨hb9.os.trans hGr.1.os, hb9.tape.trans hGr.1.tape, hb9.output.trans hGr.1.output, Nat.le_trans hGr.1.size hb9.size, fun q hq _ => (hb9.block q hq).trans (frm_lt hGr.1 q hq)⟩⟩
end Go.Proofs.YtjpdmncafacmaaaGreatDoor
end
/- The call's own maps from texts to numbers. -/
section
set_option linter.unusedVariables false
set_option linter.unusedSimpArgs false
namespace Go.Proofs.YtjpdmncafacmaaaGreatDoor
open Go.RowKit Go.Maps Go.WideMaps

theorem txtKey : Keyed Tryz.prog 9 := string_keyed Tryz.underlying9
theorem key_txt (l : List UInt8) (h : l.length ≤ 100000) : keyOf Tryz.prog 9 (.string ⟨l.toArray⟩) = some (.string l) := by
  have hs : (⟨l.toArray⟩ : ByteArray).size ≤ maxLen := by
    show l.toArray.size ≤ _
    simp only [List.size_toArray, maxLen]
    omega
  have := keyOf_string_mk (P := Tryz.prog) Tryz.underlying9 hs
  simpa using this
noncomputable abbrev numR : Value → Option (DataW Unit × List MemPlace) := plainElem Tryz.prog 3
theorem num_wf {n : Nat} (h : n < 2 ^ 62) : (Lit.int .i64 (n : Int)).wf = true := by
  simp [Lit.wf, IntKind.min, IntKind.max, IntKind.signed, IntKind.bits]
  omega
theorem numR_mk {n : Nat} (h : n < 2 ^ 62) : numR (.int .i64 (n : Int)) = some (.lit (.int .i64 (n : Int)), []) := plainElem_int Tryz.underlying3 (num_wf h)
/-- Block `b` is a map of `n` texts that holds `f`. -/
def MapS (w : World) (b n : Nat) (f : List UInt8 → Option Nat) : Prop :=
  ∃ D : DataW Unit, w.ownsMap Tryz.prog 9 numR b n D ∧ Tidy D ∧ size D = n ∧ (∀ s m, f s = some m → m < 2 ^ 62) ∧ ∀ s : List UInt8, (f s = none → has D (.string s) = false) ∧ ∀ m, f s = some m → has D (.string s) = true ∧ ∀ z, D.atKey (.string s) z = .lit (.int .i64 (m : Int))
theorem MapS.frm {w w' : World} {b n : Nat} {f : List UInt8 → Option Nat} {row : Option Nat} (h : MapS w b n f) (hg : w.grownBy w' row) (hne : some b ≠ row) : MapS w' b n f := by
  obtain ⟨D, h, hh⟩ := h
  exact ⟨D, h.kept hg hne, hh⟩
theorem MapS.lt {w : World} {b n : Nat} {f : List UInt8 → Option Nat} (h : MapS w b n f) : b < w.heap.size := by
  obtain ⟨D, h, hh⟩ := h
  exact h.lt
theorem MapS.made (w : World) : MapS (w.alloc (.map #[] 0)) w.heap.size 0 (fun _ => none) :=
  ⟨.map [], World.ownsMap_made _ _ _ _, tidy_empty, rfl, fun s m h => (by cases h), fun s => ⟨fun _ => rfl, fun m h => (by cases h)⟩⟩
theorem zero_num (w : World) : (zeroValue 3).run Tryz.prog w = .ok (.int .i64 0) w := by kernel_rfl
/-- 'v, ok := m[k]' -/
theorem MapS.look {w : World} {b n : Nat} {f : List UInt8 → Option Nat} (h : MapS w b n f) (l : List UInt8) (hl : l.length ≤ 100000) :
    (Instr.lookup 86 (.map (some b)) (.string ⟨l.toArray⟩) true).run Tryz.prog w = .ok (.tuple #[.int .i64 ((f l).getD 0), .bool (f l).isSome]) w := by
  obtain ⟨D, h, ht, hs, hw, hh⟩ := h
  obtain ⟨v, ps, hr, hv⟩ := h.look_ok txtKey Tryz.underlying86 (zero_num w) (numR_mk (n := 0) (by decide)) (key_txt l hl)
  obtain ⟨c, rfl, hc, _⟩ := plainElem_int_inv Tryz.underlying3 hv
  simp only [Prod.mk.injEq] at hc
  cases hf : f l with
  | none =>
    have hb := (hh l).1 hf
    rw [atKey_of_not_has hb] at hc
    have e := hc.1
    simp only [DataW.lit.injEq, Lit.int.injEq, true_and] at e
    rw [hb] at hr
    rw [hr, ← e]
    rfl
  | some m =>
    obtain ⟨hb, hat⟩ := (hh l).2 m hf
    rw [hat] at hc
    have e := hc.1
    simp only [DataW.lit.injEq, Lit.int.injEq, true_and] at e
    rw [hb] at hr
    rw [hr, ← e]
    rfl
theorem MapS.count {w : World} {b n : Nat} {f : List UInt8 → Option Nat} (h : MapS w b n f) (ty : TypeId) : (Builtin.len_ #[86] ty #[.map (some b)]).run Tryz.prog w = .ok (.int .i64 n) w := by
  obtain ⟨D, h, ht, hs, hw, hh⟩ := h
  have := h.len Tryz.underlying86 ty
  rw [hs] at this
  exact this
def putS (f : List UInt8 → Option Nat) (l : List UInt8) (m : Nat) : List UInt8 → Option Nat := fun s => if s = l then some m else f s
/-- 'm[k] = v', the key being new. -/
theorem MapS.store {w : World} {b n : Nat} {f : List UInt8 → Option Nat} (h : MapS w b n f) (hn : n < 1000) (l : List UInt8) (hl : l.length ≤ 100000) (hnew : f l = none) {m : Nat} (hm : m < 2 ^ 62) :
    ∃ w', (Instr.mapUpdate 86 (.map (some b)) (.string ⟨l.toArray⟩) (.int .i64 (m : Int))).run Tryz.prog w = .ok () w' ∧ MapS w' b (n + 1) (putS f l m) ∧ w.grownBy w' (some b) := by
  obtain ⟨D, h, ht, hs, hw, hh⟩ := h
  obtain ⟨w', hr, ho, hg⟩ := h.update txtKey Tryz.underlying86 (by unfold maxLen; omega) (key_txt l hl) (numR_mk hm)
  have hkey : WideAt.IsKeyLit (Lit.string l) := trivial
  refine ⟨w', hr, ⟨_, ho, ?_, ?_, fun s m' h' => ?_, fun s => ?_⟩, hg⟩
  · exact ht.put hkey _
  · rw [size_put ht, (hh l).1 hnew, if_neg (by simp), hs]
  · unfold putS at h'
    split at h'
    · injection h' with h'
      omega
    · exact hw s m' h'
  · unfold putS
    by_cases e : s = l
    · subst e
      rw [if_pos rfl]
      refine ⟨fun h => (by cases h), fun m' hm' => ?_⟩
      injection hm' with hm'
      subst hm'
      exact ⟨has_put_same ht.isMap hkey _, fun z => atKey_put_same ht.isMap hkey _ _⟩
    · rw [if_neg e]
      have hne : (Lit.string s) ≠ .string l := fun h => e (by injection h)
      rw [has_put_other hne]
      refine ⟨(hh s).1, fun m' hm' => ⟨((hh s).2 m' hm').1, fun z => ?_⟩⟩
      rw [atKey_put_other hne]
      exact ((hh s).2 m' hm').2 z
end Go.Proofs.YtjpdmncafacmaaaGreatDoor
end
/- A round of Merge, plainly: the map from faces to numbers. -/
section
set_option linter.unusedVariables false
set_option linter.unusedSimpArgs false
namespace Go.Proofs.YtjpdmncafacmaaaGreatDoor
open Go.RowKit

/-- The face of a state in a round. -/
def faceK (a : Au) (k q : Nat) : List UInt8 := faceL (numF (refC a k) q) (rowC a (mixC a k) q)
theorem numF_lt {n : Nat} {f : Nat → Nat} (hf : CanC n f) {q : Nat} (hq : q < n) : numF f q < n := by
  have hle := hf.le q
  have h1 := cntB_lt (isF f) (q := f q) (n := n) (by unfold isF; rw [hf.idem q hq]; simp) (by omega)
  have : cntB (isF f) n ≤ n := by
    unfold cntB
    exact Nat.le_trans (List.length_filter_le _ _) (by simp)
  unfold numF
  omega
theorem need_okT {a : Au} (hok : a.ok = true) (k : Nat) {q s : Nat} (hs : s < a.ranks.length) {l : List Nd} (hl : l ∈ a.altsAt s q) {x : Nd} (hx : x ∈ l) : okT (toL (mixC a k) x) := by
  obtain ⟨hr4, _, hsy⟩ := au_sym hok hs
  have hn6 := (ok_parts hok).2.2.1
  by_cases hq : q < a.moves.length
  · obtain ⟨_, _, _, hall⟩ := hsy q hq
    have hb := (hall l hl).2 x hx
    have hst : x.2.toNat < a.moves.length := by
      unfold Au.altsAt at hl
      by_cases hs2 : s < (a.moves.getD q []).length
      · refine needs_lt hok (mem_needs (q := q) rfl ?_ hl hx)
        rw [List.getD_eq_getElem?_getD (l := a.moves.getD q []), List.getElem?_eq_getElem hs2, Option.getD_some]
        exact List.getElem_mem hs2
      · rw [List.getD_eq_getElem?_getD (l := a.moves.getD q []), List.getElem?_eq_none (by omega)] at hl
        simp at hl
    have ht : (toL (mixC a k) x).2 = numF (refC a k) x.2.toNat := by
      show (mixC a k).getD x.2.toNat 0 = _
      exact tabI_at _ hst
    have h1 := numF_lt (can_ref a k) hst
    refine ⟨⟨hb.1.1, by show x.1 < 10; omega⟩, by rw [ht]; omega, by rw [ht]; omega⟩
  · exfalso
    unfold Au.altsAt at hl
    rw [show a.moves.getD q [] = [] by simp [List.getD, List.getElem?_eq_none (Nat.le_of_not_lt hq)]] at hl
    simp at hl
theorem row_okT {a : Au} (hok : a.ok = true) (k : Nat) {q : Nat} (hq : q < a.moves.length) : ∀ r ∈ rowC a (mixC a k) q, ∀ l ∈ r, ∀ x ∈ l, okT x := by
  intro r hr l hl x hx
  obtain ⟨alts, hal, rfl⟩ := List.mem_map.1 hr
  obtain ⟨l', hl', rfl⟩ := List.mem_map.1 ((setL_mem ord_alt _ _).1 hl)
  obtain ⟨x', hx', rfl⟩ := List.mem_map.1 ((setL_mem ord_nd _ _).1 hx)
  have hrow : a.moves.getD q [] = a.moves[q] := by simp [hq]
  rw [hrow] at hal
  obtain ⟨s, hs, rfl⟩ := List.getElem_of_mem hal
  have hlen := ((ok_parts hok).2.2.2.2.2 _ (List.getElem_mem hq)).1
  have hsr : s < a.ranks.length := by omega
  refine need_okT hok k (q := q) hsr (l := l') ?_ hx'
  unfold Au.altsAt
  rw [hrow]
  simpa [hs] using hl'
theorem face_sim {a : Au} (hok : a.ok = true) (k : Nat) {p q : Nat} (hp : p < a.moves.length) (hq : q < a.moves.length) : faceK a k p = faceK a k q ↔ simC a (mixC a k) p q = true := by
  have hn6 := (ok_parts hok).2.2.1
  have h1 := numF_lt (can_ref a k) hp
  have h2 := numF_lt (can_ref a k) hq
  rw [simC_iff, show (mixC a k).getD p 0 = (numF (refC a k) p : Int) from tabI_at _ hp, show (mixC a k).getD q 0 = (numF (refC a k) q : Int) from tabI_at _ hq]
  constructor
  · intro h
    obtain ⟨e1, e2⟩ := face_inj (by omega) (by omega) (row_okT hok k hp) (row_okT hok k hq) h
    exact ⟨by rw [e1], e2⟩
  · rintro ⟨e1, e2⟩
    unfold faceK
    rw [e2, show numF (refC a k) p = numF (refC a k) q by omega]
/-- What the map holds ahead of a state. -/
def mapK (a : Au) (k q : Nat) : List UInt8 → Option Nat := fun s => ((List.range q).find? fun p => faceK a k p == s).map (numF (refC a (k + 1)))
theorem mapK_succ (a : Au) (k q : Nat) (s : List UInt8) : mapK a k (q + 1) s = (mapK a k q s).or (if faceK a k q = s then some (numF (refC a (k + 1)) q) else none) := by
  unfold mapK
  rw [List.range_succ, List.find?_append]
  cases h : (List.range q).find? fun p => faceK a k p == s with
  | some p => rfl
  | none =>
    by_cases e : faceK a k q = s
    · rw [if_pos e]
      simp [e]
    · rw [if_neg e]
      simp [e]
theorem merge_step {a : Au} (hok : a.ok = true) (k : Nat) {q : Nat} (hq : q < a.moves.length) :
    (isF (refC a (k + 1)) q = false ∧ mapK a k q (faceK a k q) = some (numF (refC a (k + 1)) q) ∧ mapK a k (q + 1) = mapK a k q) ∨
    (isF (refC a (k + 1)) q = true ∧ mapK a k q (faceK a k q) = none ∧ mapK a k (q + 1) = putS (mapK a k q) (faceK a k q) (numF (refC a (k + 1)) q) ∧ numF (refC a (k + 1)) q = cntB (isF (refC a (k + 1))) q) := by
  have hfst : ∀ p, p < a.moves.length → fstC a (mixC a k) p = refC a (k + 1) p := fun p hp => mix_fst hok k hp
  obtain ⟨h1, h2, h3⟩ := fst_spec a (mixC a k) q
  rw [hfst q hq] at h1 h2 h3
  cases hf : (List.range q).find? fun p => faceK a k p == faceK a k q with
  | some p =>
    left
    rw [List.find?_range_eq_some] at hf
    obtain ⟨g1, g2, _⟩ := hf
    have g2 := List.mem_range.1 g2
    have hs := (face_sim hok k (show p < a.moves.length by omega) hq).1 (by simpa using g1)
    have he : refC a (k + 1) p = refC a (k + 1) q := by rw [← hfst p (by omega), ← hfst q hq]; exact fst_eq hs
    have hle := (can_ref a (k + 1)).le p
    have hv : mapK a k q (faceK a k q) = some (numF (refC a (k + 1)) q) := by
      unfold mapK
      have : (List.range q).find? (fun p => faceK a k p == faceK a k q) = some p := by
        rw [List.find?_range_eq_some]
        exact ⟨g1, List.mem_range.2 g2, by assumption⟩
      rw [this]
      show some (numF (refC a (k + 1)) p) = _
      unfold numF
      rw [he]
    refine ⟨by unfold isF; simp; omega, hv, funext fun s => ?_⟩
    rw [mapK_succ]
    by_cases e : faceK a k q = s
    · subst e
      rw [hv]
      rfl
    · rw [if_neg e]
      simp
  | none =>
    right
    have hno : ∀ p, p < q → faceK a k p ≠ faceK a k q := fun p hp e => by
      rw [List.find?_eq_none] at hf
      exact hf p (List.mem_range.2 hp) (by simpa using e)
    have hqq : refC a (k + 1) q = q := by
      by_cases e : refC a (k + 1) q = q
      · exact e
      · exact absurd ((face_sim hok k (show refC a (k + 1) q < a.moves.length by omega) hq).2 h2) (hno _ (by omega))
    have hv : mapK a k q (faceK a k q) = none := by
      unfold mapK
      rw [hf]
      rfl
    have hi : isF (refC a (k + 1)) q = true := by unfold isF; rw [hqq]; simp
    refine ⟨hi, hv, funext fun s => ?_, (frs_step (can_ref a (k + 1)) hq).2 hi⟩
    rw [mapK_succ]
    unfold putS
    by_cases e : faceK a k q = s
    · subst e
      rw [hv]
      simp
    · rw [if_neg e, if_neg (fun e2 => e e2.symm)]
      simp
theorem mapK_zero (a : Au) (k : Nat) : mapK a k 0 = fun _ => none := rfl
theorem faceK_len {a : Au} (hok : a.ok = true) (k : Nat) {q : Nat} (hq : q < a.moves.length) : (faceK a k q).length ≤ 100000 := by
  have hn6 := (ok_parts hok).2.2.1
  have h1 := numF_lt (can_ref a k) hq
  have hrow : a.moves.getD q [] = a.moves[q] := by simp [hq]
  have hlen := ((ok_parts hok).2.2.2.2.2 _ (List.getElem_mem hq)).1
  have hr24 := (ranksOk_parts (ok_parts hok).1).1
  have hokT := row_okT hok k hq
  have hrl : (rowC a (mixC a k) q).length ≤ 24 := by
    unfold rowC
    rw [List.length_map, hrow]
    omega
  have hsy : ∀ r ∈ rowC a (mixC a k) q, (symTx r).length ≤ 2000 := fun r hr => by
    have hr' := hokT r hr
    obtain ⟨alts, hal, rfl⟩ := List.mem_map.1 hr
    rw [hrow] at hal
    obtain ⟨s, hs, rfl⟩ := List.getElem_of_mem hal
    have hsr : s < a.ranks.length := by omega
    obtain ⟨_, _, hsy⟩ := au_sym hok hsr
    obtain ⟨hm, hma, h12, hall⟩ := hsy q hq
    have hal12 : (altSet (mvd (toL (mixC a k)) (a.moves[q])[s])).length ≤ 12 := by
      have h9 := altT_len (mixC a k) (a.moves[q])[s]
      unfold altT at h9
      rw [hma] at h9 ⊢
      omega
    have hl24 : ∀ l ∈ altSet (mvd (toL (mixC a k)) (a.moves[q])[s]), (altTx l).length ≤ 100 := fun l hl => by
      have hlo := hr' l hl
      obtain ⟨l', hl', rfl⟩ := List.mem_map.1 ((setL_mem ord_alt _ _).1 hl)
      have h8 := ndSet_len (l'.map (toL (mixC a k)))
      rw [List.length_map] at h8
      rw [hma] at hl'
      have h7 := (hall l' hl').1
      have h6 := flat_len needT 4 (ndSet (l'.map (toL (mixC a k)))) fun x hx => by
        have := hlo x hx
        unfold okT at this
        unfold needT
        rw [dec_one x.1.toNat (by omega), dec_one x.2.toNat (by omega)]
        exact Nat.le_refl _
      unfold altTx
      simp only [List.length_cons, List.length_append, List.length_nil]
      omega
    have h5 := flat_len altTx 100 _ hl24
    unfold symTx
    simp only [List.length_cons]
    omega
  have h4 := flat_len symTx 2000 _ hsy
  unfold faceK faceL
  rw [List.length_append, dec_lt _ (by omega)]
  have : (rowC a (mixC a k) q).length * 2000 ≤ 24 * 2000 := Nat.mul_le_mul_right _ hrl
  omega
end Go.Proofs.YtjpdmncafacmaaaGreatDoor
end
/- Merge's closure: a need's state by a table.  -/
section
set_option linter.unusedVariables false
set_option linter.unusedSimpArgs false
namespace Go.Proofs.YtjpdmncafacmaaaGreatDoor
open Go.RowKit

set_option maxRecDepth 20000 in
theorem mergeD_calls (x : Nd) (tl : List Int) (w : World) (g : Nat) (v : Value) (hg : w.cell? ⟨g, 0, none⟩ = some v) (hv : SlO w 1 (rdO IntR) tl v) (h1 : 0 ≤ x.2) (h2 : x.2 < tl.length) :
    Calls Tryz.prog 53 #[.agg #[.int .i64 x.1, .int .i64 x.2], .pointer (some ⟨g, 0, none⟩)] w (RetD w (.agg #[.int .i64 (toL tl x).1, .int .i64 (toL tl x).2])) := by
  have hlt := World.block_lt_of_cell? _ _ hg
  have hl : g < w.heap.size := by simpa using hlt
  have hx : x.2.toNat < tl.length := by omega
  obtain ⟨A, c, rfl, hc, hm⟩ := hv.val
  obtain ⟨b, o, p0, rfl, hb, hp0, hpt⟩ := hv.at1 x.2.toNat hx
  obtain ⟨hpv, _⟩ := hpt
  simp only [List.cons.injEq, and_true] at hpv
  subst hpv
  have he : Hid ((toL tl x).2 = tl[x.2.toNat]) := by unfold Hid toL; simp [hx]
  have he1 : Hid ((toL tl x).1 = x.1) := rfl
  generalize toL tl x = y at *
  generalize tl[x.2.toNat] = z at *
  have hb' : b < w.heap.size := hb
  have hp1 := frm_cell (grew_then_alloc (grew_alloc w (.cells #[.int .i64 x.1, .int .i64 x.2] 80)) (.cells #[.int .i64 0, .int .i64 0] 80)).1 hp0
  have hg1 := frm_cell (grew_then_alloc (grew_alloc w (.cells #[.int .i64 x.1, .int .i64 x.2] 80)) (.cells #[.int .i64 0, .int .i64 0] 80)).1 hg
  have hG := grew_then_alloc (grew_alloc w (.cells #[.int .i64 x.1, .int .i64 x.2] 80)) (.cells #[.int .i64 0, .int .i64 0] 80)
  clear hv
  go_enter Tryz.func53, Tryz.ntmps53
  go_wp2_with fail
  have hx2 := (TwoAt.new w (.int .i64 x.1) (.int .i64 x.2) 80).frm (frm_alloc _ (.cells #[.int .i64 0, .int .i64 0] 80))
  have hz2 := TwoAt.new (w.alloc (.cells #[.int .i64 x.1, .int .i64 x.2] 80)) (.int .i64 0) (.int .i64 0) 80
  rw [World.size_alloc] at hz2
  obtain ⟨w2, hw2⟩ : ∃ w2, w2 = (w.alloc (.cells #[.int .i64 x.1, .int .i64 x.2] 80)).alloc (.cells #[.int .i64 0, .int .i64 0] 80) := ⟨_, rfl⟩
  rw [← hw2] at hx2 hz2 hp1 hg1 hG ⊢
  clear hw2
  obtain ⟨x0, x1, _, _⟩ := hx2.cells
  obtain ⟨z0, z1, zf0, zf1⟩ := hz2.cells
  go_still_tail 8, (by kernel_rfl)
  go_wp2_with fail
  refine bodyPost_ret (v := .agg #[.int .i64 x.1, .int .i64 z]) (by simp [results, Tryz.results53, go_sem, z0, z1, zf0, zf1]) rfl ⟨by rw [he.out, he1.out], ?_⟩
  exact grew_trans (grew_set_new (grew_set_new hG (by omega) _ _) (by omega) _ _) (grew_drew _)
end Go.Proofs.YtjpdmncafacmaaaGreatDoor
end
/- mix.Merge, walked. -/
section
set_option linter.unusedVariables false
set_option linter.unusedSimpArgs false
namespace Go.Proofs.YtjpdmncafacmaaaGreatDoor
open Go.RowKit

theorem need_lt {a : Au} (hok : a.ok = true) {s q : Nat} {l : List Nd} (hl : l ∈ a.altsAt s q) {x : Nd} (hx : x ∈ l) : x.2.toNat < a.moves.length := by
  unfold Au.altsAt at hl
  by_cases hs2 : s < (a.moves.getD q []).length
  · refine needs_lt hok (mem_needs (q := q) rfl ?_ hl hx)
    rw [List.getD_eq_getElem?_getD (l := a.moves.getD q []), List.getElem?_eq_getElem hs2, Option.getD_some]
    exact List.getElem_mem hs2
  · rw [List.getD_eq_getElem?_getD (l := a.moves.getD q []), List.getElem?_eq_none (by omega)] at hl
    simp at hl
theorem OneAt.frm {w w' : World} {g : Nat} {v : Value} {T : TypeId} (h : OneAt w g v T) (hf : w.grownBy w' none) : OneAt w' g v T := h.move (frm_lt hf _ h.lt)
/-- An automaton and an error, the world's draws untold. -/
def RetF (w : World) (a : Au) (er : Int) (e : Ending) (w' : World) : Prop :=
  ∃ r m, e = .returned (.tuple #[.agg #[r, .int .i64 a.start, m], .int .i64 er]) ∧ w.grownBy w' none ∧ WR AuR (Fresh w w') w' a [r, .int .i64 a.start, m]
theorem frsL_step (n q : Nat) (f : Nat → Nat) : (List.range (q + 1)).filter (isF f) = (List.range q).filter (isF f) ++ if isF f q then [q] else [] := by
  rw [List.range_succ, List.filter_append]
  congr 1
  cases h : isF f q <;> simp [h]
theorem slices_of {S : Nat → Prop} {w : World} {V : Au} {r m : Value} (h : WR AuR S w V [r, .int .i64 V.start, m]) : ∃ A c B d, r = .slice A V.ranks.length c ∧ m = .slice B V.moves.length d := by
  obtain ⟨r', m', he, ⟨v1, h1, s1⟩, ⟨v2, h2, s2⟩, _⟩ := h
  obtain ⟨A1, c1, rfl, _⟩ := s1.val
  obtain ⟨A2, c2, rfl, _⟩ := s2.val
  simp only [List.cons.injEq, and_true, true_and] at he h1 h2
  rw [h1] at he
  rw [h2] at he
  exact ⟨_, _, _, _, he.1, he.2⟩
set_option maxRecDepth 100000 in
set_option maxHeartbeats 4000000 in
theorem merge_calls (a : Au) (w : World) (hT : Tab w) (r m : Value) (ha : rdO AuR w a [r, .int .i64 a.start, m]) :
    Calls Tryz.prog 17 #[.agg #[r, .int .i64 a.start, m]] w (RetF w (mergeV a) (mergeE a)) := by
  have HA := Lib.hid ha
  obtain ⟨w0, hw0⟩ : ∃ w0, w0 = (w.alloc (.cells #[r, .int .i64 a.start, m] 25)).alloc (.cells #[.slice none 0 0, .int .i64 0, .slice none 0 0] 25) := ⟨_, rfl⟩
  have hG0 : Grew w w0 := by rw [hw0]; exact grew_then_alloc (grew_alloc _ _) _
  have hs0 : w0.heap.size = w.heap.size + 2 := by rw [hw0]; simp
  have xa : ThreeAt w0 w.heap.size r (.int .i64 a.start) m 25 := by
    rw [hw0]; exact (ThreeAt.new w _ _ _ _).frm (frm_alloc _ _)
  have xo : ThreeAt w0 (w.heap.size + 1) (.slice none 0 0) (.int .i64 0) (.slice none 0 0) 25 := by
    have h := ThreeAt.new (w.alloc (.cells #[r, .int .i64 a.start, m] 25)) (.slice none 0 0) (.int .i64 0) (.slice none 0 0) 25
    rw [World.size_alloc] at h
    rw [hw0]; exact h
  have hP := plain_calls a w0 _ _ (rdO_frm moves_au hG0.1 ha)
  have xa' := xa
  rw [hw0] at xa' hP
  obtain ⟨ya0, ya1, ya2⟩ := xa'.cells
  have HP := Lib.hid hP
  have HW0 := Lib.hid hw0
  have HS0 := Lib.hid hs0
  clear hw0 hP xa' ha hs0
  go_enter Tryz.func17, Tryz.ntmps17
  go_wp2_with fail
  refine HP.out.mono ?_
  rw [← HW0.out]
  rintro e w1 ⟨r1, m1, rfl, hf1, hr1⟩
  obtain ⟨A, c, B, d, rfl, rfl⟩ := slices_of hr1
  have xa1 := xa.frm hf1.1
  have xo1 := xo.frm hf1.1
  have hs1 := hf1.1.size
  clear ya0 ya1 ya2
  obtain ⟨xa0, xb0, xc0⟩ := xa1.cells
  have xf0 := xa1.free 0
  have xf1 := xa1.free 1
  have xf2 := xa1.free 2
  obtain ⟨w2, hw2⟩ : ∃ w2, w2 = ((w1.setCell ⟨w.heap.size, 0, none⟩ (.slice A (plainV a).ranks.length c)).setCell ⟨w.heap.size, 1, none⟩ (.int .i64 (plainV a).start)).setCell ⟨w.heap.size, 2, none⟩ (.slice B (plainV a).moves.length d) := ⟨_, rfl⟩
  have xa2 : ThreeAt w2 w.heap.size (.slice A (plainV a).ranks.length c) (.int .i64 (plainV a).start) (.slice B (plainV a).moves.length d) 25 := by
    rw [hw2]; exact ((xa1.set0 _).set1 _).set2 _
  have hwr2 : w1.grownBy w2 (some w.heap.size) := by
    rw [hw2]; exact frm_set (frm_set (frm_set (frm_refl _ _) _ _) _ _) _ _
  have xo2 : ThreeAt w2 (w.heap.size + 1) (.slice none 0 0) (.int .i64 0) (.slice none 0 0) 25 := xo1.move (hwr2.block _ xo1.lt (by simp))
  have hG2 : w.grownBy w2 none := frm_new (frm_trans hG0.1 hf1.1) (Nat.le_refl _) hwr2
  have hs2 := hwr2.size
  dsimp only
  have HW2 := Lib.hid hw2
  clear hw2
  cases hok : a.ok with
  | false =>
    have hE : plainE a = 10 := by unfold plainE; rw [hok]; rfl
    have HM : Hid (mergeE a = 10 ∧ mergeV a = Au.zero) := by
      unfold Hid mergeE mergeV
      rw [hok]
      exact ⟨rfl, rfl⟩
    obtain ⟨xo0, xo1', xo2'⟩ := xo2.cells
    have of0 := xo2.free 0
    have of1 := xo2.free 1
    have of2 := xo2.free 2
    rw [hE]
    rw [HW2.out] at xo0 xo1' xo2' of0 of1 of2
    clear hE hok hr1
    go_wp2_with fail
    rw [← HW2.out] at xo0 xo1' xo2' of0 of1 of2 ⊢
    refine bodyPost_ret (v := .tuple #[.agg #[.slice none 0 0, .int .i64 0, .slice none 0 0], .int .i64 10]) (by simp [results, Tryz.results17, go_sem, xo0, xo1', xo2', of0, of1, of2]) rfl ⟨.slice none 0 0, .slice none 0 0, ?_, ?_, ?_⟩
    · rw [HM.out.1, HM.out.2]; rfl
    · first | exact hG2 | exact frm_set_new (frm_set_new (frm_set_new hG2 (by omega) _ _) (by omega) _ _) (by omega) _ _
    · rw [HM.out.2]
      exact au_zero _ _
  | true =>
    have hE : plainE a = 0 := by unfold plainE; rw [hok]; rfl
    have hV : plainV a = plainA a := by unfold plainV; rw [hok]; rfl
    have HM : Hid (mergeE a = 0 ∧ mergeV a = mergeA (plainA a)) := by
      unfold Hid mergeE mergeV
      rw [hok]
      exact ⟨rfl, rfl⟩
    have hbok : (plainA a).ok = true := plain_ok hok
    rw [hE]
    rw [hV] at hr1 xa2 HW2 ⊢
    clear hE hV hok
    generalize plainA a = b at *
    have hb2 : rdO AuR w2 b [.slice A b.ranks.length c, .int .i64 b.start, .slice B b.moves.length d] := by
      refine moves_au _ _ _ _ _ _ (fun q hq => ?_) (fun q hq => ?_) (WR.rd moves_au (moves_WR moves_au _ _ _ _ _ _ (fun q hq => hq) (fun _ _ => rfl) hr1))
      · exact Nat.lt_of_lt_of_le hq.2 hs2
      · have := hq.1
        exact hwr2.block q hq.2 (by intro e; injection e with e; have := HS0.out; omega)
    have HB2 := Lib.hid hb2
    have HOK := Lib.hid hbok
    have HTB : Hid (Tab w) := hT
    obtain ⟨hbR, hbM, hbs1, hbs2⟩ := AuR.parts hb2
    have HBM := Lib.hid hbM
    obtain ⟨_, hm1, hm6, hst0, hst1, hbrows⟩ := ok_parts hbok
    have hbr24 := (ranksOk_parts (ok_parts hbok).1).1
    obtain ⟨xq0, xq1, xq2⟩ := xa2.cells
    have hse : w2.heap.size = w1.heap.size := by rw [HW2.out]; simp
    obtain ⟨w3, hw3⟩ : ∃ w3, w3 = w2.alloc (.cells (Array.replicate b.moves.length (.int .i64 0)) 3) := ⟨_, rfl⟩
    have hmk := mk_ints b.moves.length (by omega) w2
    rw [← hw3, hse] at hmk
    have hG23 : Grew w2 w3 := by rw [hw3]; exact grew_alloc _ _
    have hR3 : RowV w3 w2.heap.size (.slice (some ⟨w1.heap.size, 0, none⟩) b.moves.length b.moves.length) ((mixC b 0).map intV) := by
      have h := ints_made w2 b.moves.length
      rw [← hw3, ← mixC_zero b, hse] at h
      exact RowV.made h (by omega) _ (by rw [List.length_map]; unfold mixC; rw [tabI_len])
    have hs3 : w3.heap.size = w1.heap.size + 1 := by rw [hw3]; simp [hse]
    obtain ⟨w4, hw4⟩ : ∃ w4, w4 = w3.alloc (.cells #[.slice (some ⟨w1.heap.size, 0, none⟩) b.moves.length b.moves.length] 22) := ⟨_, rfl⟩
    have hG34 : Grew w3 w4 := by rw [hw4]; exact grew_alloc _ _
    have hO4 : OneAt w4 (w1.heap.size + 1) (.slice (some ⟨w1.heap.size, 0, none⟩) b.moves.length b.moves.length) 22 := by
      have h := OneAt.new w3 (.slice (some ⟨w1.heap.size, 0, none⟩) b.moves.length b.moves.length) 22
      rw [hs3] at h
      rw [hw4]; exact h
    have hR4 := hR3.grew hG34
    have HR4 := Lib.hid hR4
    have HO4 := Lib.hid hO4
    have HG24 := Lib.hid (grew_trans hG23 hG34)
    have HW4 := Lib.hid hw4
    have hq0 : b.moves.length ≤ 1000 := by omega
    have HC0 : Hid (cntC b 0 = 1) := cntC_zero hm1
    rw [HW2.out] at xq0 xq1 xq2 hmk
    have HSE := Lib.hid hse
    clear hr1 hb2 hbR hbM hR3 hO4 hw3 hw4 hbok hR4 hse
    go_wp2_with fail
    rw [← HW4.out]
    obtain ⟨g5, hg5⟩ : ∃ g5, g5 = w1.heap.size + 1 := ⟨_, rfl⟩
    obtain ⟨n, hn⟩ : ∃ n, n = b.moves.length := ⟨_, rfl⟩
    have HG5 := Lib.hid hg5
    have HNB := Lib.hid hn
    rw [← hg5] at HO4 ⊢
    clear hg5 hn hq0 hmk xq0 xq1 xq2
    have hxa : Hid (∀ wx, w2.grownBy wx none → ThreeAt wx w.heap.size (.slice A b.ranks.length c) (.int .i64 b.start) (.slice B b.moves.length d) 25) := fun wx h => xa2.frm h
    go_loopw [6] (fun z wr => ∃ (k mn : Nat) (Cv : Option Addr) (cc : Nat), z = .int .i64 mn ∧ Hid (mn = cntC b k) ∧ mn ≤ 6 ∧ k + 1 ≤ mn ∧ w2.grownBy wr none ∧ Hid (OneAt wr g5 (.slice Cv b.moves.length cc) 22) ∧ Hid (RowV wr w1.heap.size (.slice Cv b.moves.length cc) ((mixC b k).map intV)) ∧ Hid (∀ j, j < k → cntC b (j + 1) ≠ cntC b j)) (fun z _ => 7 - (intOf z).toNat)
    case atStart =>
      have h0 : Hid (∀ j, j < 0 → cntC b (j + 1) ≠ cntC b j) := fun j hj => absurd hj (Nat.not_lt_zero _)
      refine ⟨0, 1, _, _, rfl, HC0.out.symm, by omega, by omega, HG24.out.1, HO4.out, ?_, h0⟩
      have h := HR4.out
      rw [HSE.out] at h
      exact h
    case round =>
      obtain ⟨k, mn, Cv, cc, rfl, HMN, hmn6, hkm, hfo, HOo, HRo, HJ⟩ := hrel
      obtain ⟨wo, hwo⟩ : ∃ wo : World, wo = wr := ⟨_, rfl⟩
      subst hwo
      have hmm := @run_makeMap Tryz.prog
      obtain ⟨w5, hw5⟩ : ∃ w5, w5 = wo.alloc (.map #[] 0) := ⟨_, rfl⟩
      have hG5 : Grew wo w5 := by rw [hw5]; exact grew_alloc _ _
      have hs5 : w5.heap.size = wo.heap.size + 1 := by rw [hw5]; simp
      obtain ⟨w6, hw6⟩ : ∃ w6, w6 = w5.alloc (.cells (Array.replicate b.moves.length (.int .i64 0)) 3) := ⟨_, rfl⟩
      have hmk := mk_ints b.moves.length (by omega) w5
      rw [← hw6, hs5] at hmk
      have hG56 : Grew w5 w6 := by rw [hw6]; exact grew_alloc _ _
      have hM6 : MapS w6 wo.heap.size 0 (mapK b k 0) := by
        rw [mapK_zero]
        have h := MapS.made wo
        rw [← hw5] at h
        exact h.frm hG56.1 (by simp)
      have hI6 : IntsAt w6 (wo.heap.size + 1) (tabU b.moves.length 0 (fun q => (numF (refC b (k + 1)) q : Int)) fun _ => 0) := by
        rw [tabU_zero, List.map_const', List.length_range]
        have h := ints_made w5 b.moves.length
        rw [← hw6, hs5] at h
        exact h
      have hx5 := hxa.out w5 (frm_trans hfo hG5.1)
      obtain ⟨xo5, xp5, xq5⟩ := hx5.cells
      obtain ⟨xo6, xp6, xq6⟩ := (hx5.frm hG56.1).cells
      have HM6 := Lib.hid hM6
      have HI6 := Lib.hid hI6
      have HW5 := Lib.hid hw5
      rw [hw5] at hmk xo5 xp5 xq5
      have hG6 := grew_trans hG5 hG56
      clear hw5 hw6 hM6 hI6 hx5 hs5
      go_wp2_with fail
      go_loopw [38] (fun i wq => ∃ q : Nat, q ≤ b.moves.length ∧ i = .int .i64 q ∧ wo.grownBy wq none ∧ Hid (MapS wq wo.heap.size (cntB (isF (refC b (k + 1))) q) (mapK b k q)) ∧ Hid (IntsAt wq (wo.heap.size + 1) (tabU b.moves.length q (fun q => (numF (refC b (k + 1)) q : Int)) fun _ => 0))) (fun i _ => b.moves.length - (intOf i).toNat)
      case atStart => exact ⟨0, Nat.zero_le _, rfl, hG6.1, HM6.out, HI6.out⟩
      case round =>
        obtain ⟨q, hq, rfl, hfq, HM, HI⟩ := hrel
        have hf2q := frm_trans hfo hfq
        by_cases hlt : q < b.moves.length
        · obtain ⟨b0, o0, p0, rfl, hb0, hp0', hpt⟩ := HBM.out.at1 q hlt
          have hp0 := frm_cell hf2q hp0'
          have HSTEP := Lib.hid (merge_step HOK.out k hlt)
          have HTS : Hid ((tabU b.moves.length q (fun q => (numF (refC b (k + 1)) q : Int)) fun _ => 0).set q (numF (refC b (k + 1)) q : Int) = tabU b.moves.length (q + 1) (fun q => (numF (refC b (k + 1)) q : Int)) fun _ => 0) := tabU_succ (f := fun q => (numF (refC b (k + 1)) q : Int)) hlt
          have hnf := numF_lt (can_ref b k) hlt
          have hnf1 := numF_lt (can_ref b (k + 1)) hlt
          have hrow : b.moves.getD q [] = b.moves[q] := by simp [hlt]
          have hrl := (hbrows _ (List.getElem_mem hlt)).1
          have HAT : Hid (∀ s (hs : s < (b.moves[q]).length), (b.moves[q])[s] = b.altsAt s q) := fun s hs => by
            unfold Au.altsAt
            rw [hrow]
            simp [hs]
          have HFK : Hid (faceL (numF (refC b k) q) (rowT (mixC b k) b.moves[q]) = faceK b k q) := by
            unfold Hid faceK rowC
            rw [hrow]
            rfl
          generalize b.moves[q] = row at *
          obtain ⟨A2, c2, rfl, hc2, hm2⟩ := RowS.val (rdO_frm moves_rule (frm_refl _ none) hpt)
          have hRq := HRo.out.move (w' := wr) (fun g _ hg => hfq.block g hg (by simp)) hfq.size
          obtain ⟨gc, rfl, hbg, hgl, hug, hxg⟩ := hRq.open (by rw [List.length_map]; unfold mixC; rw [tabI_len]; omega)
          have hcc := hxg q (by rw [List.length_map]; unfold mixC; rw [tabI_len]; exact hlt)
          rw [List.getElem_map] at hcc
          have hmx : (mixC b k)[q]'(by unfold mixC; rw [tabI_len]; exact hlt) = (numF (refC b k) q : Int) := by
            have h := tabI_at (n := b.moves.length) (numF (refC b k)) hlt
            unfold mixC
            rw [List.getD_eq_getElem?_getD, List.getElem?_eq_getElem (by rw [tabI_len]; exact hlt), Option.getD_some] at h
            exact h
          rw [hmx] at hcc
          unfold intV at hcc
          have hOq : OneAt wr g5 (.slice (some ⟨gc, 0, none⟩) b.moves.length cc) 22 := HOo.out.frm hfq
          have hco := hOq.cell
          have hml : (mixC b k).length = b.moves.length := by unfold mixC; rw [tabI_len]
          have hslc : SlO wr 1 (rdO IntR) (mixC b k) (.slice (some ⟨gc, 0, none⟩) b.moves.length cc) := by
            refine hRq.ints (by rw [hml]; omega) (fun x hx => ?_) (fun g _ h => h)
            obtain ⟨p, hp, rfl⟩ := List.mem_map.1 (show x ∈ (List.range b.moves.length).map fun p => (numF (refC b k) p : Int) from hx)
            have := numF_lt (can_ref b k) (List.mem_range.1 hp)
            omega
          have hFC := face_calls (numF (refC b k) q) (by omega) row (mixC b k) 53 #[.pointer (some ⟨g5, 0, none⟩)] wr (.slice A2 row.length c2) (enters_of Tryz.func53 (by kernel_rfl) rfl) (fun alts hal l hl x hx => by
              obtain ⟨s, hs, rfl⟩ := List.getElem_of_mem hal
              have hsr : s < b.ranks.length := by omega
              rw [HAT.out s hs] at hl
              obtain ⟨_, _, hsy⟩ := au_sym HOK.out hsr
              obtain ⟨_, _, _, hall⟩ := hsy q hlt
              have hbd := (hall l hl).2 x hx
              have hst := need_lt HOK.out hl hx
              refine ⟨fun w' hw' => mergeD_calls x (mixC b k) w' g5 _ (frm_cell hw'.1 hco) (hslc.frm hw'.1 (stays_rd moves_int)) hbd.2.1 (by rw [hml]; omega), need_okT HOK.out k hsr hl hx⟩)
            (rdO_frm moves_rule hf2q hpt) (by omega) (fun alts hal => by
              obtain ⟨s, hs, rfl⟩ := List.getElem_of_mem hal
              have hsr : s < b.ranks.length := by omega
              rw [HAT.out s hs]
              obtain ⟨_, _, hsy⟩ := au_sym HOK.out hsr
              exact (hsy q hlt).2.2.1) (fun alts hal l hl => by
              obtain ⟨s, hs, rfl⟩ := List.getElem_of_mem hal
              have hsr : s < b.ranks.length := by omega
              rw [HAT.out s hs] at hl
              obtain ⟨_, _, hsy⟩ := au_sym HOK.out hsr
              exact ((hsy q hlt).2.2.2 l hl).1)
          rw [HFK.out, hrl] at hFC
          have HFC := Lib.hid hFC
          have hfl := faceK_len HOK.out k hlt
          generalize faceK b k q = fk at *
          generalize numF (refC b k) q = cl at *
          have hqi : (q : Int) < b.moves.length := by omega
          clear hFC hslc hxg hug hRq hpt hp0' hOq hmx hrow
          go_wp2_with fail
          refine HFC.out.mono ?_
          rintro e w7 ⟨rfl, hf7⟩
          have hfq7 := frm_trans hfq hf7
          have HM7 := Lib.hid (HM.out.frm hf7 (by simp))
          have hI7 : IntsAt w7 (wo.heap.size + 1) (tabU b.moves.length q (fun q => (numF (refC b (k + 1)) q : Int)) fun _ => 0) := ValsAt.frm HI.out hf7
          have hlk : (Instr.lookup 86 (.map (some wo.heap.size)) (.string (bs fk)) true).run Tryz.prog w7 = .ok (.tuple #[.int .i64 ((mapK b k q fk).getD 0), .bool (mapK b k q fk).isSome]) w7 := HM7.out.look fk hfl
          have HIP := Lib.hid (fun x : Int => IntsAt.put hI7 q x)
          have hiu := ValsAt.free hI7 q
          have hcu := hI7.at (i := q) (by rw [tabU_len]; exact hlt)
          rw [tabU_at] at hcu
          have HI7 := Lib.hid hI7
          have hs7 := hfq7.size
          clear hI7
          obtain ⟨c', hc'⟩ : ∃ c', c' = numF (refC b (k + 1)) q := ⟨_, rfl⟩
          have HCP := Lib.hid hc'
          rw [← hc'] at hnf1
          have HNX : Hid (∀ w8 : World, w7.grownBy w8 (some wo.heap.size) → IntsAt w8 (wo.heap.size + 1) (tabU b.moves.length q (fun q => (numF (refC b (k + 1)) q : Int)) fun _ => 0) → IntsAt (w8.setCell ⟨wo.heap.size + 1, q, none⟩ (.int .i64 (c' : Int))) (wo.heap.size + 1) (tabU b.moves.length (q + 1) (fun q => (numF (refC b (k + 1)) q : Int)) fun _ => 0)) := fun w8 _ h => by
            have h2 := IntsAt.put h q (c' : Int)
            rw [HCP.out] at h2 ⊢
            rw [HTS.out] at h2
            exact h2
          have HCS := Lib.hid (cntB_succ (isF (refC b (k + 1))) q)
          clear hc'
          rcases HSTEP.out with ⟨i1, i2, i3⟩ | ⟨i1, i2, i3, i4⟩
          · rw [i2, ← HCP.out] at hlk
            have HE9 : Hid (MapS (w7.setCell ⟨wo.heap.size + 1, q, none⟩ (.int .i64 (c' : Int))) wo.heap.size (cntB (isF (refC b (k + 1))) (q + 1)) (mapK b k (q + 1))) := by
              unfold Hid
              rw [HCS.out, i1, i3]
              exact HM7.out.frm (row := some (wo.heap.size + 1)) (frm_set (frm_refl _ _) _ _) (by intro e; injection e with e; omega)
            have HI9 := Lib.hid (HNX.out w7 (frm_refl _ _) HI7.out)
            clear i1 i2 i3
            dsimp only
            go_wp2_with fail
            exact ⟨⟨q + 1, by omega, by go_num, frm_set_new hfq7 (by omega) _ _, HE9.out, HI9.out⟩, by simp [intOf]; omega⟩
          · rw [i2] at hlk
            obtain ⟨cn, hcn⟩ : ∃ cn, cn = cntB (isF (refC b (k + 1))) q := ⟨_, rfl⟩
            have hcc' : c' = cn := by rw [HCP.out, i4, hcn]
            have hcnn : cn ≤ 6 := by omega
            rw [← hcn] at HM7 HCS
            have hct := fun ty => HM7.out.count ty
            obtain ⟨w8, hrun8, hM8, hg8⟩ := HM7.out.store (by omega) fk hfl i2 (m := cn) (by omega)
            have hg8b : w7.grownBy w8 (some wo.heap.size) := hg8
            have hfq8 : wo.grownBy w8 none := frm_new hfq7 (Nat.le_refl _) hg8
            have hI8 : IntsAt w8 (wo.heap.size + 1) (tabU b.moves.length q (fun q => (numF (refC b (k + 1)) q : Int)) fun _ => 0) := HI7.out.move (hg8.block _ (ValsAt.lt HI7.out) (by intro e; injection e with e; omega))
            have hiu8 := ValsAt.free hI8 q
            have hcu8 := hI8.at (i := q) (by rw [tabU_len]; exact hlt)
            rw [tabU_at] at hcu8
            have HI9 := Lib.hid (HNX.out w8 hg8b hI8)
            have HE9 : Hid (MapS (w8.setCell ⟨wo.heap.size + 1, q, none⟩ (.int .i64 (c' : Int))) wo.heap.size (cntB (isF (refC b (k + 1))) (q + 1)) (mapK b k (q + 1))) := by
              unfold Hid
              rw [HCS.out, i1, i3, ← HCP.out, hcc', if_pos rfl]
              exact hM8.frm (row := some (wo.heap.size + 1)) (frm_set (frm_refl _ _) _ _) (by intro e; injection e with e; omega)
            subst hcc'
            have hs8 := hfq8.size
            clear i1 i2 i3 i4 hcn hM8 hI8 hg8 hg8b hcu hiu
            dsimp only
            repeat ((fail_if_success at_mapUpdate); first | go_values | go_skip | go_guarded | go_step | go_upon)
            refine mapUpdate_list _ _ _ rfl rfl rfl rfl rfl hrun8 ?_
            clear hrun8
            go_wp2_with fail
            exact ⟨⟨q + 1, by omega, by go_num, frm_set_new hfq8 (by omega) _ _, HE9.out, HI9.out⟩, by simp [intOf]; omega⟩
        · obtain rfl : q = b.moves.length := by omega
          have hIe : IntsAt wr (wo.heap.size + 1) (mixC b (k + 1)) := by
            have h := HI.out
            rw [tabU_end] at h
            exact h
          have hOq : OneAt wr g5 (.slice Cv b.moves.length cc) 22 := HOo.out.frm hfq
          have hg5l := HOo.out.lt
          have hoc := hOq.cell
          have hof := hOq.free
          have hct := fun ty => HM.out.count ty
          have hgw2 : w2.heap.size ≤ g5 := by rw [HG5.out, HSE.out]; omega
          obtain ⟨w8, hw8⟩ : ∃ w8, w8 = wr.setCell ⟨g5, 0, none⟩ (.slice (some ⟨wo.heap.size + 1, 0, none⟩) b.moves.length b.moves.length) := ⟨_, rfl⟩
          have hf8 : w2.grownBy w8 none := by rw [hw8]; exact frm_set_new hf2q hgw2 _ _
          have hO8 : OneAt w8 g5 (.slice (some ⟨wo.heap.size + 1, 0, none⟩) b.moves.length b.moves.length) 22 := by rw [hw8]; exact hOq.set _
          have hI8 : IntsAt w8 (wo.heap.size + 1) (mixC b (k + 1)) := by
            rw [hw8]
            exact hIe.move (Below.heap_setCell _ _ _ _ (by show wo.heap.size + 1 ≠ g5; omega))
          have hM8 : MapS w8 wo.heap.size (cntB (isF (refC b (k + 1))) b.moves.length) (mapK b k b.moves.length) := by
            rw [hw8]
            exact HM.out.frm (row := some g5) (frm_set (frm_refl _ _) _ _) (by intro e; injection e with e; omega)
          have hct8 := fun ty => hM8.count ty
          obtain ⟨m2, hm2⟩ : ∃ m2, m2 = cntB (isF (refC b (k + 1))) b.moves.length := ⟨_, rfl⟩
          rw [← hm2] at hct8
          have HM2 : Hid (m2 = cntC b (k + 1)) := hm2
          have hm26 : m2 ≤ 6 := by have := cntC_le b (k + 1); rw [← HM2.out] at this; omega
          have HW8 := Lib.hid hw8
          have HO8 := Lib.hid hO8
          have HI8 := Lib.hid hI8
          have hwo2 := hfo.size
          have hmono := (cntB_sub (p := isF (refC b k)) (p' := isF (refC b (k + 1))) b.moves.length fun q hq => isF_finer k hq).1
          have hmono2 : mn ≤ m2 := by rw [HMN.out, hm2]; exact hmono
          have hml8 : b.moves.length = (mixC b (k + 1)).length := by unfold mixC; rw [tabI_len]
          have HML8 := Lib.hid hml8
          rw [hw8] at hct8
          clear hIe hOq hw8 hO8 hI8 hM8 hm2 hmono hct hml8
          by_cases heq : m2 = mn
          · have hs1 : Hid (mergeA b = mergeF b (refC b (k + 1))) := merge_end hm1 HJ.out (by rw [← HM2.out, ← HMN.out]; exact heq)
            have hcan := can_ref b (k + 1)
            have HMX : Hid (mixC b (k + 1) = tabI b.moves.length (numF (refC b (k + 1)))) := rfl
            subst heq
            have hnum : Hid (numA b (frsL b (refC b (k + 1))) (mixC b (k + 1)) = mergeA b) := by
              unfold Hid
              rw [hs1.out]
              rfl
            clear hs1
            generalize hMXg : mixC b (k + 1) = tl at *
            generalize refC b (k + 1) = f' at *
            have hlt' : ∀ q, q < b.moves.length → numF f' q < b.moves.length := fun q hq => numF_lt hcan hq
            have hcf := hcan
            have HCAN := Lib.hid hcan
            have hca8 : w8.cell? ⟨g5, 0, none⟩ = some (.slice (some ⟨wo.heap.size + 1, 0, none⟩) b.moves.length b.moves.length) := HO8.out.cell
            rw [HW8.out] at hca8
            clear hMXg hcan hcf
            go_wp2_with fail
            rw [← HW8.out]
            go_loopw [14, 77] (fun z i wz => ∃ (q ls : Nat) (As : Option Addr) (cs : Nat), q ≤ b.moves.length ∧ i = .int .i64 q ∧ z = .slice As ls cs ∧ Hid (ls = cntB (isF f') q) ∧ ls ≤ q ∧ Grew w8 wz ∧ Hid (Own IntR wz w8.heap.size 3 1 (fun _ => True) (.slice As ls cs) (((List.range q).filter (isF f')).map fun p : Nat => (p : Int)))) (fun _ i _ => b.moves.length - (intOf i).toNat)
            case atStart => exact ⟨0, 0, none, 0, Nat.zero_le _, rfl, rfl, rfl, Nat.le_refl _, grew_refl _, Own.nil _ _ _ _ _ _⟩
            case round =>
              obtain ⟨q, ls, As, cs, hq, rfl, rfl, HLS, hlsq, hfz, HOZ⟩ := hrel
              by_cases hlt : q < b.moves.length
              · have hIz : IntsAt wr (wo.heap.size + 1) tl := ValsAt.frm HI8.out hfz.1
                have hcz := hIz.at (i := q) (by rw [← HML8.out]; exact hlt)
                have htq : tl[q]'(by rw [← HML8.out]; exact hlt) = (numF f' q : Int) := by
                  have h := tabI_at (n := b.moves.length) (numF f') hlt
                  rw [← HMX.out, List.getD_eq_getElem?_getD, List.getElem?_eq_getElem (by rw [← HML8.out]; exact hlt), Option.getD_some] at h
                  exact h
                rw [htq] at hcz
                have hst := frs_step HCAN.out hlt
                rw [← HLS.out] at hst
                have HFS := Lib.hid (frsL_step b.moves.length q f')
                have HCS := Lib.hid (cntB_succ (isF f') q)
                have hnl := hlt' q hlt
                clear hIz htq
                obtain ⟨c', hc'⟩ : ∃ c', c' = numF f' q := ⟨_, rfl⟩
                rw [← hc'] at hcz hst hnl
                clear hc'
                cases hi : isF f' q with
                | true =>
                  have hce : c' = ls := hst.2 hi
                  have hceq : ((c' : Int) == (ls : Int)) = true := by simp [hce]
                  have HFS2 : Hid (((List.range (q + 1)).filter (isF f')).map (fun p : Nat => (p : Int)) = (((List.range q).filter (isF f')).map fun p : Nat => (p : Int)) ++ [(q : Int)]) := by
                    unfold Hid
                    rw [HFS.out, hi, List.map_append]
                    rfl
                  have HLS2 : Hid (ls + 1 = cntB (isF f') (q + 1)) := by
                    unfold Hid
                    rw [HCS.out, hi, ← HLS.out]
                    rfl
                  clear hst hi hce
                  repeat ((fail_if_success at_builtin); first | go_values | go_skip | go_guarded | go_step | go_upon)
                  have hf5 : Grew w8 (wr.alloc (.cells #[.int .i64 q] 3)) := grew_then_alloc hfz _
                  have hO5 := HOZ.out.kept moves_int (frm_alloc wr (.cells #[.int .i64 q] 3)) (ownNone _) (by simp)
                  have htw := OneAt.new wr (.int .i64 q) 3
                  have hltO := HOZ.out.lt
                  have hlen : (((List.range q).filter (isF f')).map fun p : Nat => (p : Int)).length = ls := by
                    rw [List.length_map, HLS.out]
                    rfl
                  refine Own.app1 moves_int elem_int hO5 rfl _ _ rfl rfl rfl (q : Int) [.int .i64 q] rfl (one_at htw) ?_ ⟨rfl, by omega, by omega⟩ (by rw [hlen]; omega) (by omega) (by have := hfz.1.size; simp; omega) ?_
                  · intro u hu
                    simp at hu
                    subst hu
                    rfl
                  intro v7 w7 hO7 hg7 hp7
                  have hfr7 : Grew w8 w7 := grew_own hf5 (fun b hb => (hltO b hb).1) hg7.1 hg7.2
                  rw [← HFS2.out] at hO7
                  obtain ⟨A7, c7, he7, hcc7⟩ := hO7.val
                  have hl7 : (((List.range (q + 1)).filter (isF f')).map fun p : Nat => (p : Int)).length = ls + 1 := by
                    rw [List.length_map, HLS2.out]
                    rfl
                  rw [hl7] at he7
                  subst he7
                  have HO7 := Lib.hid hO7
                  clear hO7 hO5 htw hltO hlen hl7
                  go_wp2_with fail
                  exact ⟨⟨q + 1, ls + 1, A7, c7, by omega, by go_num, rfl, HLS2, by omega, hfr7, HO7.out⟩, by simp [intOf]; omega⟩
                | false =>
                  have hce : ¬ c' = ls := fun e => by have := hst.1 e; rw [hi] at this; cases this
                  have hceq : ((c' : Int) == (ls : Int)) = false := by simp; omega
                  have HFS2 : Hid (((List.range (q + 1)).filter (isF f')).map (fun p : Nat => (p : Int)) = (((List.range q).filter (isF f')).map fun p : Nat => (p : Int))) := by
                    unfold Hid
                    rw [HFS.out, hi]
                    simp
                  have HLS2 : Hid (ls = cntB (isF f') (q + 1)) := by
                    unfold Hid
                    rw [HCS.out, hi, ← HLS.out]
                    rfl
                  have HO2 : Hid (Own IntR wr w8.heap.size 3 1 (fun _ => True) (.slice As ls cs) (((List.range (q + 1)).filter (isF f')).map fun p : Nat => (p : Int))) := by
                    unfold Hid
                    rw [HFS2.out]
                    exact HOZ.out
                  clear hst hi hce
                  go_wp2_with fail
                  exact ⟨⟨q + 1, ls, As, cs, by omega, by go_num, rfl, HLS2, by omega, hfz, HO2⟩, by simp [intOf]; omega⟩
              · obtain rfl : q = b.moves.length := by omega
                have hfw : w2.grownBy wr none := frm_trans hf8 hfz.1
                have hfn : (frsL b f').length = ls := HLS.out.symm
                have hqs : ∀ q ∈ frsL b f', q < b.moves.length := fun q hq => List.mem_range.1 (List.mem_filter.1 hq).1
                have hls := HOZ.out.sl moves_int (S := fun b => b < wr.heap.size) (by rw [List.length_map]; have : (frsL b f').length = ls := hfn; unfold frsL at this; rw [this]; omega) (fun b _ h => h) (fun b _ h => h)
                have hIz : IntsAt wr (wo.heap.size + 1) tl := ValsAt.frm HI8.out hfz.1
                have htb : ∀ t ∈ tl, 0 ≤ t ∧ t ≤ 63 := fun t ht => by
                  rw [HMX.out] at ht
                  obtain ⟨p, hp, rfl⟩ := List.mem_map.1 (show t ∈ (List.range b.moves.length).map fun p => (numF f' p : Int) from ht)
                  have := hlt' p (List.mem_range.1 hp)
                  omega
                have hv : SlO wr 1 (rdO IntR) tl (.slice (some ⟨wo.heap.size + 1, 0, none⟩) b.moves.length b.moves.length) := hIz.sl HML8.out (by rw [← HML8.out]; omega) (fun x hx => by have := htb x hx; omega)
                have hNUM := numbered_calls b HOK.out (frsL b f') hqs (by rw [hfn]; omega) tl HML8.out.symm htb wr _ _ _ _ (rdO_frm moves_au hfw HB2.out) hls hv
                rw [hnum.out] at hNUM
                have HNUM := Lib.hid hNUM
                have hOz : OneAt wr g5 (.slice (some ⟨wo.heap.size + 1, 0, none⟩) b.moves.length b.moves.length) 22 := HO8.out.frm hfz.1
                have hcz := hOz.cell
                obtain ⟨xz0, xz1, xz2⟩ := (hxa.out wr hfw).cells
                have xoz := xo2.frm hfw
                clear hls hv hIz hNUM hOz hca8
                go_wp2_with fail
                refine HNUM.out.mono ?_
                rintro e w9 ⟨r9, m9, rfl, hf9, hr9⟩
                obtain ⟨A9, c9, B9, d9, rfl, rfl⟩ := slices_of hr9
                have xo9 := xoz.frm hf9.1
                obtain ⟨yo0, yo1, yo2⟩ := xo9.cells
                have yf0 := xo9.free 0
                have yf1 := xo9.free 1
                have yf2 := xo9.free 2
                have hw9 : w.grownBy w9 none := frm_trans (frm_trans hG2 hfw) hf9.1
                have hszr := (frm_trans hG2 hfw).size
                have hw2s := hfw.size
                have hlo := xo2.lt
                have HR9 := Lib.hid hr9
                clear hr9
                generalize mergeA b = V at *
                dsimp only
                go_wp2_with fail
                refine bodyPost_ret (v := .tuple #[.agg #[.slice A9 V.ranks.length c9, .int .i64 V.start, .slice B9 V.moves.length d9], .int .i64 0]) (by simp [results, Tryz.results17, go_sem, yo0, yo1, yo2, yf0, yf1, yf2]) rfl ⟨.slice A9 V.ranks.length c9, .slice B9 V.moves.length d9, ?_, ?_, ?_⟩
                · rw [HM.out.1, HM.out.2]
                · exact frm_set_new (frm_set_new (frm_set_new hw9 (by omega) _ _) (by omega) _ _) (by omega) _ _
                · rw [HM.out.2]
                  refine moves_WR moves_au _ _ _ _ _ _ (fun q hq => ⟨by have := hq.1; omega, by have := hq.2; simp; omega⟩) (fun q hq => ?_) HR9.out
                  have hq1 := hq.1
                  rw [Below.heap_setCell _ _ _ _ (by show q ≠ w.heap.size + 1; omega), Below.heap_setCell _ _ _ _ (by show q ≠ w.heap.size + 1; omega), Below.heap_setCell _ _ _ _ (by show q ≠ w.heap.size + 1; omega)]
          · have HJ2 : Hid (∀ j, j < k + 1 → cntC b (j + 1) ≠ cntC b j) := fun j hj => by
              by_cases e : j = k
              · subst e
                rw [← HM2.out, ← HMN.out]
                exact heq
              · exact HJ.out j (by omega)
            have hgr := cnt_grow hm1 HJ2.out
            rw [← HM2.out] at hgr
            have hR8 : Hid (RowV w8 w1.heap.size (.slice (some ⟨wo.heap.size + 1, 0, none⟩) b.moves.length b.moves.length) ((mixC b (k + 1)).map intV)) := RowV.made (base := w1.heap.size) HI8.out (by have h1 := HSE.out; omega) _ (by rw [List.length_map]; exact HML8.out)
            have heqf : ((m2 : Int) == (mn : Int)) = false := by simp; omega
            have hlt2 : mn < m2 := by omega
            clear heq
            go_wp2_with fail
            rw [← HW8.out]
            exact ⟨⟨k + 1, m2, _, _, rfl, HM2, hm26, by omega, hf8, HO8.out, hR8, HJ2⟩, by simp [intOf]; omega⟩
end Go.Proofs.YtjpdmncafacmaaaGreatDoor
end
