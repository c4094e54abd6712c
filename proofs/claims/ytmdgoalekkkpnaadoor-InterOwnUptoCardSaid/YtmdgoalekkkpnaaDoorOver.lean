/- The reference's Over and Stronger. -/
import Derived.Test.YtmdgoalekkkpnaaDoorProg
import Derived.Test.YtmdgoalekkkpnaaDoorNodes
import Derived.Test.YtmdgoalekkkpnaaDoorOwn
set_option linter.unusedVariables false
set_option linter.unusedSimpArgs false
namespace Go.Proofs.YtmdgoalekkkpnaaDoor
open Go.RowKit

/-- What Over's contract says at two types. -/
def OverAt (x y : Ty) : Prop := ∀ (w : World) (v0 v1 u0 u1 : Value), TyO w x [v0, v1] → TyO w y [u0, u1] →
  Calls Tryd.prog 56 #[.agg #[v0, v1], .agg #[u0, u1]] w (Ret w (.bool (Ty.strong x y)))

set_option maxRecDepth 100000 in
set_option maxHeartbeats 1000000 in
theorem over_step (s : Int) (a b : List (List Ty)) (IH : ∀ xs ∈ a, ∀ x ∈ xs, ∀ ys ∈ b, ∀ y ∈ ys, OverAt y x) (w : World) (v u : Value) (hl : a.length = b.length)
    (hx : SlO w 1 SetO a v) (hy : SlO w 1 SetO b u) :
    Calls Tryd.prog 56 #[.agg #[.int .i64 s, v], .agg #[.int .i64 s, u]] w (Ret w (.bool (Ty.strong (.mk s a) (.mk s b)))) := by
  obtain ⟨A, c, rfl, hc, hm⟩ := hx.val
  obtain ⟨A', c', rfl, hc', hm'⟩ := hy.val
  have HI := Lib.hid IH
  clear IH
  have hne : (s != s) = false := by simp
  have hnl : ((a.length : Int) != (b.length : Int)) = false := by simp [hl]
  have HL := Lib.hid hl
  clear hl
  go_enter Tryd.func56, Tryd.ntmps56
  go_wp2_with fail
  go_loopw [28] (fun i wr => ∃ k : Nat, k ≤ a.length ∧ i = .int .i64 k ∧ w.grownBy wr none ∧ TwoAt wr w.heap.size (.int .i64 s) (.slice A a.length c) 24 ∧ TwoAt wr (w.heap.size + 1) (.int .i64 s) (.slice A' b.length c') 24 ∧
    Hid (∀ i (h : i < a.length) (h' : i < b.length), i < k → ∀ x ∈ a[i], ∃ y ∈ b[i], Ty.strong y x = true)) (fun i _ => a.length - (intOf i).toNat)
  case atStart => exact ⟨0, Nat.zero_le _, rfl, frm_then_alloc (frm_alloc _ _) _, (TwoAt.new _ _ _ _).alloc _, TwoAt.new2 _ _ _ _ _, fun i _ _ h => absurd h (by omega)⟩
  case round =>
    obtain ⟨k, hk, rfl, hfr, hbx, hby, HC⟩ := hrel
    obtain ⟨x0, x1, _, _⟩ := hbx.cells
    obtain ⟨y0, y1, _, _⟩ := hby.cells
    by_cases hlt : k < a.length
    · have hlt' : k < b.length := by rw [← HL.out]; exact hlt
      obtain ⟨p, o, p0, rfl, hp, hp0, hps⟩ := (hx.frm hfr stays_set).at1 k hlt
      obtain ⟨p2, o2, r0, rfl, hp2, hr0, hrs⟩ := (hy.frm hfr stays_set).at1 k hlt'
      replace hps := SetO.sl hps
      replace hrs := SetO.sl hrs
      obtain ⟨A2, c2, rfl, hc2, hm2⟩ := hps.val
      obtain ⟨A3, c3, rfl, hc3, hm3⟩ := hrs.val
      have hma := List.getElem_mem hlt
      have hmb := List.getElem_mem hlt'
      have HS : Hid ((∀ x ∈ a[k], (b[k].any fun y => Ty.strong y x) = true) → ∀ i (h : i < a.length) (h' : i < b.length), i < k + 1 → ∀ x ∈ a[i], ∃ y ∈ b[i], Ty.strong y x = true) := by
        intro hh i h h' hi x hx
        by_cases e : i = k
        · subst e
          exact List.any_eq_true.1 (hh x hx)
        · exact HC.out i h h' (by omega) x hx
      have HN : Hid (∀ x ∈ a[k], (b[k].any fun y => Ty.strong y x) = false → Ty.strong (.mk s a) (.mk s b) = false) := by
        intro x hx hn
        rw [Bool.eq_false_iff]
        intro hc
        obtain ⟨y, hy, hs⟩ := (Ty.strong_iff.1 hc).2.2 k hlt hlt' x hx
        rw [List.any_eq_false] at hn
        exact hn y hy hs
      generalize a[k] = xs at *
      generalize b[k] = ys at *
      go_wp2_with fail
      obtain ⟨wo, rfl⟩ : ∃ wo : World, wo = wr := ⟨_, rfl⟩
      go_loopw [37] (fun i w2 => ∃ j : Nat, j ≤ xs.length ∧ i = .int .i64 j ∧ wo.grownBy w2 none ∧ Hid (∀ x ∈ xs.take j, (ys.any fun y => Ty.strong y x) = true)) (fun i _ => xs.length - (intOf i).toNat)
      case atStart => exact ⟨0, Nat.zero_le _, rfl, frm_refl _ _, by simp [Hid]⟩
      case round =>
        obtain ⟨j, hj, rfl, hfr2, HC2⟩ := hrel
        clear x0 x1 y0 y1
        obtain ⟨x0, x1, _, _⟩ := (hbx.frm hfr2).cells
        obtain ⟨y0, y1, _, _⟩ := (hby.frm hfr2).cells
        have xl := (hbx.frm hfr2).lt
        have yl := (hby.frm hfr2).lt
        have hrr := frm_cell hfr2 hr0
        have hrl := World.block_lt_of_cell? _ _ hrr
        simp only at hrl
        by_cases hlt2 : j < xs.length
        · obtain ⟨p3, o3, t0, t1, rfl, hp3, ht0, ht1, htt⟩ := (hps.frm hfr2 stays_ty).at2 j hlt2
          obtain ⟨s1, A1, n1, c1, rfl, rfl⟩ := htt.vals
          have hmx := List.getElem_mem hlt2
          have htk := Lib.hid (List.take_succ_eq_append_getElem hlt2)
          generalize xs[j] = x at *
          go_wp2_with fail
          obtain ⟨w3, rfl⟩ : ∃ w3 : World, w3 = wr := ⟨_, rfl⟩
          go_loopw [8, 47] (fun f i w4 => ∃ (m : Nat) (fb : Bool), m ≤ ys.length ∧ i = .int .i64 m ∧ f = .bool fb ∧ Hid (fb = (ys.take m).any fun y => Ty.strong y x) ∧ w3.grownBy w4 none ∧ TwoAt w4 w3.heap.size (.int .i64 s1) (.slice A1 n1 c1) 24) (fun _ i _ => ys.length - (intOf i).toNat)
          case atStart => exact ⟨0, false, Nat.zero_le _, rfl, rfl, by simp [Hid], frm_alloc _ _, TwoAt.new _ _ _ _⟩
          case round =>
            obtain ⟨m, fb, hm4, rfl, rfl, HF, hfr4, hbz⟩ := hrel
            obtain ⟨z0, z1, _, _⟩ := hbz.cells
            have zl := hbz.lt
            by_cases hlt4 : m < ys.length
            · have hf24 := frm_trans hfr2 hfr4
              obtain ⟨p5, o5, q0, q1, rfl, hp5, hq0, hq1, hqt⟩ := (hrs.frm hf24 stays_ty).at2 m hlt4
              obtain ⟨s2, A5, n5, c5, rfl, rfl⟩ := hqt.vals
              have hmy := List.getElem_mem hlt4
              have htk4 := Lib.hid (List.take_succ_eq_append_getElem hlt4)
              generalize ys[m] = y at *
              cases fb
              · go_wp2_with fail
                have hfa := frm_alloc wr (.cells #[.int .i64 s2, .slice A5 n5 c5] 24)
                refine (HI.out _ hma _ hmx _ hmb _ hmy _ _ _ _ _ (stays_ty _ _ _ _ hfa hqt) (stays_ty _ _ _ _ (frm_trans hfr4 hfa) htt)).mono ?_
                rintro e w6 ⟨rfl, hf6⟩
                have hff := frm_trans hfa hf6
                go_wp2_with fail
                refine ⟨⟨m + 1, _, by omega, by go_num, rfl, ?_, frm_trans hfr4 hff, hbz.frm hff⟩, by simp [intOf]; omega⟩
                unfold Hid
                rw [htk4.out, List.any_append, ← HF.out]
                simp
              · go_wp2_with fail
                refine ⟨⟨m + 1, true, by omega, by go_num, rfl, ?_, frm_then_alloc hfr4 _, hbz.alloc _⟩, by simp [intOf]; omega⟩
                unfold Hid
                rw [htk4.out, List.any_append, ← HF.out]
                simp
            · obtain rfl : m = ys.length := by omega
              have HF2 : Hid (fb = ys.any fun y => Ty.strong y x) := by
                have := HF.out
                rwa [List.take_length] at this
              have hf24 := frm_trans hfr2 hfr4
              cases fb
              · have HF3 := Lib.hid (HN.out _ hmx HF2.out.symm)
                go_wp2_with fail
                refine bodyPost_ret (results_tmp rfl _ _ _) rfl ⟨?_, frm_trans hfr hf24⟩
                rw [HF3.out]
                rfl
              · go_wp2_with fail
                refine ⟨⟨j + 1, by omega, by go_num, hf24, ?_⟩, by simp [intOf]; omega⟩
                intro z hz
                rw [htk.out] at hz
                rcases List.mem_append.1 hz with hz | hz
                · exact HC2.out z hz
                · rw [List.mem_singleton.1 hz]
                  exact HF2.out.symm
        · obtain rfl : j = xs.length := by omega
          go_wp2_with fail
          refine ⟨⟨k + 1, by omega, by go_num, frm_trans hfr hfr2, hbx.frm hfr2, hby.frm hfr2, HS.out ?_⟩, by simp [intOf]; omega⟩
          intro x hx
          exact HC2.out x (by rwa [List.take_length])
    · obtain rfl : k = a.length := by omega
      have HF : Hid (Ty.strong (.mk s a) (.mk s b) = true) := Ty.strong_iff.2 ⟨rfl, HL.out, fun i h h' => HC.out i h h' h⟩
      go_wp2_with fail
      refine bodyPost_ret (results_tmp rfl _ _ _) rfl ⟨?_, hfr⟩
      rw [HF.out]
      rfl

set_option maxRecDepth 20000 in
theorem over_no (s s' : Int) (a b : List (List Ty)) (w : World) (v u : Value) (hn : ¬ (s = s' ∧ a.length = b.length))
    (hx : SlO w 1 SetO a v) (hy : SlO w 1 SetO b u) :
    Calls Tryd.prog 56 #[.agg #[.int .i64 s, v], .agg #[.int .i64 s', u]] w (Ret w (.bool (Ty.strong (.mk s a) (.mk s' b)))) := by
  obtain ⟨A, c, rfl, hc, hm⟩ := hx.val
  obtain ⟨A', c', rfl, hc', hm'⟩ := hy.val
  have HF : Hid (Ty.strong (.mk s a) (.mk s' b) = false) := by
    unfold Hid
    rw [Bool.eq_false_iff]
    intro h
    exact hn ⟨(Ty.strong_iff.1 h).1, (Ty.strong_iff.1 h).2.1⟩
  by_cases hs : s = s'
  · subst hs
    have hne : (s != s) = false := by simp
    have hnl : ((a.length : Int) != (b.length : Int)) = true := by
      simp only [true_and] at hn
      rw [bne_iff_ne]
      omega
    clear hn
    go_enter Tryd.func56, Tryd.ntmps56
    go_wp2_with fail
    refine bodyPost_ret (results_tmp rfl _ _ _) rfl ⟨?_, frm_then_alloc (frm_alloc _ _) _⟩
    rw [HF.out]
    rfl
  · have hne : (s != s') = true := by simp [hs]
    clear hn
    go_enter Tryd.func56, Tryd.ntmps56
    go_wp2_with fail
    refine bodyPost_ret (results_tmp rfl _ _ _) rfl ⟨?_, frm_then_alloc (frm_alloc _ _) _⟩
    rw [HF.out]
    rfl

theorem over_at : ∀ x y : Ty, OverAt x y ∧ OverAt y x := by
  intro x
  induction x using Ty.ind with
  | h s a ih =>
    rintro ⟨s', b⟩
    constructor
    · intro w v0 v1 u0 u1 hx hy
      rw [TyO_mk] at hx hy
      obtain ⟨v, hv, h1, h2, hx⟩ := hx
      obtain ⟨u, hu, h3, h4, hy⟩ := hy
      obtain ⟨rfl, rfl⟩ : v0 = .int .i64 s ∧ v1 = v := by simpa using hv
      obtain ⟨rfl, rfl⟩ : u0 = .int .i64 s' ∧ u1 = u := by simpa using hu
      by_cases he : s = s' ∧ a.length = b.length
      · obtain ⟨rfl, hl⟩ := he
        exact over_step s a b (fun xs hxs x hx ys hys y hy => (ih xs hxs x hx y).2) w v1 u1 hl hx hy
      · exact over_no s s' a b w v1 u1 he hx hy
    · intro w v0 v1 u0 u1 hx hy
      rw [TyO_mk] at hx hy
      obtain ⟨v, hv, h1, h2, hx⟩ := hx
      obtain ⟨u, hu, h3, h4, hy⟩ := hy
      obtain ⟨rfl, rfl⟩ : v0 = .int .i64 s' ∧ v1 = v := by simpa using hv
      obtain ⟨rfl, rfl⟩ : u0 = .int .i64 s ∧ u1 = u := by simpa using hu
      by_cases he : s' = s ∧ b.length = a.length
      · obtain ⟨rfl, hl⟩ := he
        exact over_step s' b a (fun xs hxs x hx ys hys y hy => (ih ys hys y hy x).1) w v1 u1 hl hx hy
      · exact over_no s' s b a w v1 u1 he hx hy
theorem over_calls (x y : Ty) : OverAt x y := (over_at x y).1

theorem rstronger_calls (x y : Ty) (w : World) (v0 v1 u0 u1 : Value) (hx : TyO w x [v0, v1]) (hy : TyO w y [u0, u1]) :
    Calls Tryd.prog 29 #[.agg #[v0, v1], .agg #[u0, u1]] w (Ret w (.bool (Ty.stronger x y))) := by
  obtain ⟨s1, A1, n1, c1, rfl, rfl⟩ := hx.vals
  obtain ⟨s2, A2, n2, c2, rfl, rfl⟩ := hy.vals
  have hfa : w.grownBy ((w.alloc (Obj.cells #[.int .i64 s1, .slice A1 n1 c1] 24)).alloc (Obj.cells #[.int .i64 s2, .slice A2 n2 c2] 24)) none := frm_then_alloc (frm_alloc _ _) _
  go_enter Tryd.func29, Tryd.ntmps29
  go_wp2_with fail
  refine (rlarge_calls x _ _ _ (stays_ty _ _ _ _ hfa hx)).mono ?_
  rintro e w1 ⟨rfl, hf1⟩
  have hf := frm_trans hfa hf1
  have k1 : w1.cell? ⟨w.heap.size, 0, none⟩ = some (.int .i64 s1) := frm_cell hf1 (by simp)
  have k2 : w1.cell? ⟨w.heap.size, 1, none⟩ = some (.slice A1 n1 c1) := frm_cell hf1 (by simp)
  have k3 : w1.cell? ⟨w.heap.size + 1, 0, none⟩ = some (.int .i64 s2) := frm_cell hf1 (by simp)
  have k4 : w1.cell? ⟨w.heap.size + 1, 1, none⟩ = some (.slice A2 n2 c2) := frm_cell hf1 (by simp)
  cases hl : x.large
  · have HL := Lib.hid hl
    clear hl
    go_wp2_with fail
    refine (rlarge_calls y _ _ _ (stays_ty _ _ _ _ hf hy)).mono ?_
    rintro e w2 ⟨rfl, hf2⟩
    have hg := frm_trans hf hf2
    replace k1 := frm_cell hf2 k1
    replace k2 := frm_cell hf2 k2
    replace k3 := frm_cell hf2 k3
    replace k4 := frm_cell hf2 k4
    cases hl2 : y.large
    · have HL2 := Lib.hid hl2
      clear hl2
      go_wp2_with fail
      refine (over_calls x y _ _ _ _ _ (stays_ty _ _ _ _ hg hx) (stays_ty _ _ _ _ hg hy)).mono ?_
      rintro e w3 ⟨rfl, hf3⟩
      go_wp2_with fail
      refine bodyPost_ret (results_tmp rfl _ _ _) rfl ⟨?_, frm_trans hg hf3⟩
      simp [Ty.stronger, HL.out, HL2.out]
    · have HL2 := Lib.hid hl2
      clear hl2
      go_wp2_with fail
      refine bodyPost_ret (results_tmp rfl _ _ _) rfl ⟨?_, hg⟩
      simp [Ty.stronger, HL.out, HL2.out]
  · have HL := Lib.hid hl
    clear hl
    go_wp2_with fail
    refine bodyPost_ret (results_tmp rfl _ _ _) rfl ⟨?_, hf⟩
    simp [Ty.stronger, HL.out]

end Go.Proofs.YtmdgoalekkkpnaaDoor
