/- InterOwn: the law's walk. -/
import Derived.Test.YtmdgoalekkkpnaaDoorSetW
import Derived.Test.YtmdgoalekkkpnaaDoorSetL
import Derived.Test.YtmdgoalekkkpnaaDoorCheckSet
import Derived.Test.YtmdgoalekkkpnaaDoorWrite
import Derived.StillTailTactics
import Derived.Test.YtmdgoalekkkpnaaDoorOpenFit
import Derived.Test.YtmdgoalekkkpnaaDoorSort
import Derived.Test.YtmdgoalekkkpnaaDoorRows
import Derived.Deep.DeepCutAuto
import Derived.Deep.CutBlock
set_option linter.unusedVariables false
set_option linter.unusedSimpArgs false
namespace Go.Proofs.YtmdgoalekkkpnaaDoor
open Go.RowKit

theorem Twist.frm {w wk w' : World} (hf : w.grownBy wk none) (hT : Twist w.heap.size wk w') : w.grownBy w' none :=
  ⟨hT.os.trans hf.os, hT.tape.trans hf.tape, hT.output.trans hf.output, by rw [hT.size]; exact hf.size, fun b hb hn => (hT.old b hb).trans (hf.block b hb hn)⟩

set_option maxRecDepth 100000 in
set_option maxHeartbeats 4000000 in
theorem lown_calls (w : World) (s : Srt) (a0 : Value) (n : Int) (l : List Ty) (v : Value) (ha : SrtO w s [a0]) (hv : SetO w l [v]) (hfit : ∀ t ∈ l, t.Fit) (h32 : l.length * 32 ≤ 140737488351232) (htext : ∀ t ∈ l, t.text.length ≤ 140737488355328)
    (htab : Lib.TabIs Tryd.prog w "internal/strconv.uint64pow10" .u64 Lib.pow10Tab) :
    Calls Tryd.prog 14 #[.agg #[a0], .int .i64 n, v] w (Ret w (.bool true)) := by
  have HT : Hid (Tab w.heap.size w) := Lib.tabBelow_of_tabIs htab
  clear htab
  have hs := SetO.sl hv
  obtain ⟨A, c, rfl, hc, hm⟩ := hs.val
  obtain ⟨B, d, e, hcs⟩ := SrtR_len ha
  obtain rfl : a0 = .slice B d e := by simpa using hcs
  have HS := Lib.hid hs
  have HV := Lib.hid hv
  have HA := Lib.hid ha
  have HF := Lib.hid hfit
  have HTX := Lib.hid htext
  clear hs hv ha hcs hfit htext
  have hf0 := frm_alloc w (.cells #[.slice B d e] 43)
  have sb : OneAt (w.alloc (.cells #[.slice B d e] 43)) w.heap.size (.slice B d e) 43 := OneAt.new _ _ _
  by_cases h100 : 100 < l.length
  · have h1 : (100 : Int) < l.length := by omega
    go_enter Tryd.func14, Tryd.ntmps14
    go_wp2_with fail
    refine (alive_calls _ (HT.out.step (frm_below hf0 (Nat.le_refl _))).here).mono ?_
    rintro e w9 ⟨rfl, g9⟩
    go_wp2_with fail
    exact bodyPost_ret (results_tmp rfl _ _ _) rfl ⟨rfl, frm_trans hf0 g9⟩
  · have h1 : ¬ (100 : Int) < l.length := by omega
    go_enter Tryd.func14, Tryd.ntmps14
    go_wp2_with fail
    generalize hw0 : w.alloc (.cells #[.slice B d e] 43) = w0 at *
    clear hw0
    go_loopw [22] (fun i wr => ∃ k : Nat, k ≤ l.length ∧ i = .int .i64 k ∧ w0.grownBy wr none ∧ Hid (∀ t ∈ l.take k, t.large = false)) (fun i _ => l.length - (intOf i).toNat)
    case atStart => exact ⟨0, Nat.zero_le _, rfl, frm_refl _ _, by intro t ht; simp at ht⟩
    case round =>
      obtain ⟨k, hk, rfl, hfr, HL⟩ := hrel
      have hfw := frm_trans hf0 hfr
      by_cases hlt : k < l.length
      · obtain ⟨b, o, p0, p1, rfl, hb, hp0, hp1, hpt⟩ := (HS.out.frm hfw stays_ty).at2 k hlt
        have HP := Lib.hid hpt
        have htk := Lib.hid (List.take_succ_eq_append_getElem hlt)
        generalize l[k] = t at *
        obtain ⟨st, args⟩ := t
        rw [TyO_mk] at hpt
        obtain ⟨v5, hcs5, q1, q2, hs5⟩ := hpt
        obtain ⟨rfl, rfl⟩ : p0 = .int .i64 st ∧ p1 = v5 := by simpa using hcs5
        obtain ⟨A1, c1, rfl, _, _⟩ := hs5.val
        clear hs5 hcs5
        have hf4 := frm_alloc wr (.cells #[.int .i64 st, .slice A1 args.length c1] 24)
        have hbx := TwoAt.new wr (.int .i64 st) (.slice A1 args.length c1) 24
        go_wp2_with fail
        refine (rlarge_calls (.mk st args) _ _ _ (stays_ty _ _ _ _ hf4 HP.out)).mono ?_
        rintro e5 w5 ⟨rfl, g5⟩
        have hf5 := frm_trans hf4 g5
        have hbx5 := hbx.frm g5
        obtain ⟨x0, x1, _, _⟩ := hbx5.cells
        cases hl : (Ty.mk st args).large
        · have HN : Hid (∀ t ∈ l.take (k + 1), t.large = false) := by
            intro t ht
            rw [htk.out] at ht
            rcases List.mem_append.1 ht with ht | ht
            · exact HL.out t ht
            · simp at ht
              subst ht
              exact hl
          clear hl
          by_cases ha2 : 1000 < args.length
          · have ha3 : (1000 : Int) < args.length := by omega
            have hfx := frm_trans hfw hf5
            go_wp2_with fail
            refine (alive_calls _ (HT.out.step (frm_below hfx (Nat.le_refl _))).here).mono ?_
            rintro e w9 ⟨rfl, g9⟩
            go_wp2_with fail
            exact bodyPost_ret (results_tmp rfl _ _ _) rfl ⟨rfl, frm_trans hfx g9⟩
          · have ha3 : ¬ (1000 : Int) < args.length := by omega
            go_wp2_with fail
            exact ⟨⟨k + 1, by omega, by go_num, frm_trans hfr hf5, HN⟩, by simp [intOf]; omega⟩
        · clear hl
          have hfx := frm_trans hfw hf5
          go_wp2_with fail
          refine (alive_calls _ (HT.out.step (frm_below hfx (Nat.le_refl _))).here).mono ?_
          rintro e w9 ⟨rfl, g9⟩
          go_wp2_with fail
          exact bodyPost_ret (results_tmp rfl _ _ _) rfl ⟨rfl, frm_trans hfx g9⟩
      · obtain rfl : k = l.length := by omega
        have HSM : Hid (∀ t ∈ l, t.large = false) := by
          have := HL.out
          rw [List.take_length] at this
          exact this
        go_wp2_with fail
        refine (rcopySet_calls l (fun t _ => rcopy_calls t) _ _ (stays_set _ _ _ _ hfw HV.out) HF.out h32).mono ?_
        rintro e1 w2 ⟨u2, rfl, g2, ho2⟩
        have hf2 := frm_trans hfr g2
        have HW : Hid (SetO w2 l [u2]) := ⟨_, rfl, ho2.sl moves_ty hm (fun b h1 h2 => h2) (fun b h1 h2 => h2)⟩
        obtain ⟨A2, c2, rfl, _⟩ := ho2.val
        clear ho2
        have hfw2 := frm_trans hf0 hf2
        go_wp2_with fail
        refine (setW_calls l _ _ (stays_set _ _ _ _ hfw2 HV.out) HF.out h32).mono ?_
        rintro e1 w3 ⟨u3, rfl, g3, hn3, S3, ht3, hs3⟩
        obtain ⟨A3, c3, hu3, z1, z2, z3⟩ := id ht3
        clear z1 z2 z3
        have HC3 := Lib.hid (turn_calls _ (setT l) (Nat.le_refl _) S3 w2.heap.size w3 u3 ht3 (fun b hb => ⟨(hs3 b hb).1, (hs3 b hb).2.2⟩))
        subst hu3
        clear hn3 ht3 hs3
        generalize (setT l).length = n3 at *
        go_wp2_with fail
        refine HC3.out.mono ?_
        rintro e1 w4 ⟨rfl, hT4⟩
        have g4 : w2.grownBy w4 none := Twist.frm g3 hT4
        clear hT4
        have hfw4 := frm_trans hfw2 g4
        go_wp2_with fail
        refine (leastW_calls l _ _ (stays_set _ _ _ _ hfw4 HV.out) HF.out h32).mono ?_
        rintro e1 w5 ⟨u5, rfl, g5, hn5, S5, ht5, hs5⟩
        obtain ⟨A5, c5, hu5, z1, z2, z3⟩ := id ht5
        clear z1 z2 z3
        have HC5 := Lib.hid (turn_calls _ (leastT l) (Nat.le_refl _) S5 w4.heap.size w5 u5 ht5 (fun b hb => ⟨(hs5 b hb).1, (hs5 b hb).2.2⟩))
        subst hu5
        clear hn5 ht5 hs5
        generalize (leastT l).length = n5 at *
        go_wp2_with fail
        refine HC5.out.mono ?_
        rintro e1 w6 ⟨rfl, hT6⟩
        have g6 : w4.grownBy w6 none := Twist.frm g5 hT6
        clear hT6
        have g26 := frm_trans g4 g6
        have hfw6 := frm_trans hfw4 g6
        have sb6 := sb.move (frm_lt (frm_trans hf2 g26) _ sb.lt)
        have sbc := sb6.cell
        go_wp2_with fail
        refine (checkSet_calls s n l _ _ _ (stays_srt _ _ _ _ hfw6 HA.out) (stays_set _ _ _ _ hfw6 HV.out)).mono ?_
        rintro e1 w7 ⟨rfl, g7⟩
        have g27 := frm_trans g26 g7
        have hfw7 := frm_trans hfw6 g7
        have sb7 := sb6.move (frm_lt g7 _ sb6.lt)
        clear sbc
        go_wp2_with fail
        go_loopw [58] (fun i wq => ∃ m : Nat, m ≤ l.length ∧ i = .int .i64 m ∧ w7.grownBy wq none) (fun i _ => l.length - (intOf i).toNat)
        case atStart => exact ⟨0, Nat.zero_le _, rfl, frm_refl _ _⟩
        case round =>
          obtain ⟨m, hm3, rfl, hfq⟩ := hrel
          have hfwq := frm_trans hfw7 hfq
          by_cases hlt2 : m < l.length
          · obtain ⟨b, o, p0, p1, hAe, hb, hp0, hp1, hpt⟩ := (HS.out.frm hfwq stays_ty).at2 m hlt2
            obtain ⟨b2, o2, r0, r1, hAe2, hb2, hr0, hr1, hrt⟩ := (HS.out.frm hfwq stays_ty).at2 0 (by omega)
            subst hAe
            injection hAe2 with hAe2
            injection hAe2 with e1 e2 _
            subst e1 e2
            obtain ⟨s1, A1, n1, c1, rfl, rfl⟩ := hpt.vals
            obtain ⟨s6, A6, n6, c6, rfl, rfl⟩ := hrt.vals
            have HP := Lib.hid hpt
            have HRT := Lib.hid hrt
            have htx := HTX.out _ (List.getElem_mem hlt2)
            have hpos : 0 < l.length := by omega
            have hpos2 : (0 : Int) < l.length := by omega
            clear hpt hrt
            generalize l[m] = t at *
            generalize l[0]'(by omega) = t0 at *
            simp only [Nat.zero_mul, Nat.add_zero] at hr0 hr1
            have sbq := sb7.move (frm_lt hfq _ sb7.lt)
            have hf4 := frm_alloc wr (.cells #[.int .i64 s1, .slice A1 n1 c1] 24)
            have hbx := TwoAt.new wr (.int .i64 s1) (.slice A1 n1 c1) 24
            have sb8 := sbq.alloc (.cells #[.int .i64 s1, .slice A1 n1 c1] 24)
            have HR0 := Lib.hid (frm_cell hf4 hr0)
            have HR1 := Lib.hid (frm_cell hf4 hr1)
            have hb8 : b < (wr.alloc (.cells #[.int .i64 s1, .slice A1 n1 c1] 24)).heap.size := Nat.lt_of_lt_of_le hb hf4.size
            have HP8 := Lib.hid (stays_ty _ _ _ _ hf4 HP.out)
            have HRT8 := Lib.hid (stays_ty _ _ _ _ hf4 HRT.out)
            have hfw8 := frm_trans hfwq hf4
            have hfq8 := frm_trans hfq hf4
            go_upto_region 18 with fail
            clear hp0 hp1 hr0 hr1
            generalize wr.alloc (.cells #[.int .i64 s1, .slice A1 n1 c1] 24) = w8 at *
            obtain ⟨bx0, bx1, _, _⟩ := hbx.cells
            have sbc := sb8.cell
            go_wp2_with fail
            refine (check_calls s n t _ _ _ _ (stays_srt _ _ _ _ hfw8 HA.out) HP8.out).mono ?_
            rintro e1 w9 ⟨rfl, g9⟩
            clear bx0 bx1 sbc
            have hbx9 := hbx.frm g9
            obtain ⟨bx0, bx1, _, _⟩ := hbx9.cells
            have y0 := frm_cell g9 HR0.out
            have y1 := frm_cell g9 HR1.out
            go_wp2_with fail
            go_still_tail 4, (by kernel_rfl)
            go_wp2_with fail
            refine (stronger_calls t t0 _ _ _ _ _ (stays_ty _ _ _ _ (frm_trans g9 (frm_drew _)) HP8.out) (stays_ty _ _ _ _ (frm_trans g9 (frm_drew _)) HRT8.out)).mono ?_
            rintro e1 w10 ⟨rfl, g10⟩
            have g10' := frm_trans g9 (frm_trans (frm_drew _) g10)
            clear bx0 bx1 y0 y1
            obtain ⟨bx0, bx1, _, _⟩ := (hbx.frm g10').cells
            have y0 := frm_cell g10' HR0.out
            have y1 := frm_cell g10' HR1.out
            go_wp2_with fail
            go_still_tail 4, (by kernel_rfl)
            go_wp2_with fail
            refine (compare_calls t t0 _ _ _ _ _ (stays_ty _ _ _ _ (frm_trans g10' (frm_drew _)) HP8.out) (stays_ty _ _ _ _ (frm_trans g10' (frm_drew _)) HRT8.out)).mono ?_
            rintro e1 w11 ⟨rfl, g11⟩
            have g11' := frm_trans g10' (frm_trans (frm_drew _) g11)
            clear bx0 bx1 y0 y1
            obtain ⟨bx0, bx1, _, _⟩ := (hbx.frm g11').cells
            have hf11 := frm_trans hfw8 g11'
            go_wp2_with fail
            refine (put_calls t _ _ _ (stays_ty _ _ _ _ g11' HP8.out) (HT.out.step (frm_below hf11 (Nat.le_refl _))).here htx).mono ?_
            rintro e1 w12 ⟨rfl, g12⟩
            go_wp2_with fail
            exact ⟨⟨m + 1, by omega, by go_num, frm_trans hfq8 (frm_trans g11' g12)⟩, by simp [intOf]; omega⟩
          · obtain rfl : m = l.length := by omega
            have hWQ := frm_trans g27 hfq
            go_wp2_with fail
            refine (lsame_calls l l _ _ _ (stays_set _ _ _ _ hfwq HV.out) (stays_set _ _ _ _ hWQ HW.out)).mono ?_
            rintro e1 w9 ⟨rfl, g9⟩
            rw [sameL_self l HSM.out]
            have hf9 := frm_trans hfwq g9
            go_wp2_with fail
            refine (alive_calls _ (HT.out.step (frm_below hf9 (Nat.le_refl _))).here).mono ?_
            rintro e1 w10 ⟨rfl, g10⟩
            go_wp2_with fail
            exact bodyPost_ret (results_tmp rfl _ _ _) rfl ⟨rfl, frm_trans hf9 g10⟩

section
open Go.ChangeShapes Go.WideShapes
variable {H : Type} {enc : TypeId × Value → H} {W : World} {sp : Nat → Bool} {hd : Bool}
theorem bulkAll_get : ∀ (ds : List (DataW H)) (i : Nat) (h : i < ds.length), Rows.uptoBulk ds[i] ≤ Rows.uptoBulkAll ds
  | [], _, h => by simp at h
  | d :: ds, 0, _ => by simp only [List.getElem_cons_zero, Rows.uptoBulkAll]; omega
  | d :: ds, i + 1, h => by
    have := bulkAll_get ds i (by simpa using h)
    simp only [List.getElem_cons_succ, Rows.uptoBulkAll]
    omega
theorem bulk_third {d0 d1 d : DataW H} {r : List (DataW H)} (h : Rows.uptoSmall H (d0 :: d1 :: d :: r) = true) : Rows.uptoBulk d ≤ 1048576 := by
  have := of_decide_eq_true h
  simp only [Rows.uptoBulkAll] at this
  omega
set_option maxRecDepth 100000 in
/-- A list of types, as an argument, with its rows' bytes and its texts. -/
theorem arg_tys3 {base : Nat} {r : Reach} {v : Value} {d : DataW H} {p : List MemPlace} (hv : Value.okWide Tryd.prog W r base 36 v) (h : DataW.Trod enc Tryd.prog W 0 sp hd 36 v d p)
    (hw : ∀ n ∈ d.weights Tryd.prog 36, n ≤ reachBytes) : ∃ l, SetO W l [v] ∧ (∀ t ∈ l, t.Fit) ∧ l.length * 32 ≤ 140737488351232 ∧ ∀ t ∈ l, t.text.length ≤ 22 * Rows.uptoBulk d := by
  obtain ⟨fuel, hf⟩ := h
  obtain ⟨l2, v2, hv2, h2, hby2, hq2⟩ := open_sl2 (r := TyO W) (q := TyD) Tryd.underlying36 cells_ty (by omega) bytes_ty (by omega) fuel (fun m2 hm2 ds2 z2 hz2 hw2 => open_ty2 m2 ds2 z2 hz2 hw2) _ _ hf hw
  obtain ⟨A, n, c, rfl⟩ := okWide_slice Tryd.underlying36 hv
  obtain rfl : Value.slice A n c = v2 := by simpa [Value.cells] using hv2
  refine ⟨l2, ⟨_, rfl, h2⟩, ?_, hby2, ?_⟩
  · rcases hq2 with ⟨rfl, _⟩ | ⟨ds, spare, _, hln, hqq⟩
    · simp
    · exact (set_bulk l2 ds hln hqq).2.2
  · rcases hq2 with ⟨rfl, _⟩ | ⟨ds, spare, hd2, hln, hqq⟩
    · simp
    · intro t ht
      obtain ⟨i, hi, rfl⟩ := List.getElem_of_mem ht
      have h3 := (hqq i hi (by omega)).2
      have h4 := bulkAll_get ds i (by omega)
      dsimp only at hd2
      rw [hd2]
      simp only [Rows.uptoBulk]
      omega
end
end Go.Proofs.YtmdgoalekkkpnaaDoor
