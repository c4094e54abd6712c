/- Size, large, Strong, Stronger, Compare. -/
import Derived.Test.YtmdgoalekkkpnaaDoorMeasure
import Derived.Test.YtmdgoalekkkpnaaDoorCmp
set_option linter.unusedVariables false
set_option linter.unusedSimpArgs false
namespace Go.Proofs.YtmdgoalekkkpnaaDoor
open Go.RowKit

theorem size_calls (t : Ty) (w : World) (v0 v1 : Value) (ht : TyO w t [v0, v1]) :
    Calls Tryd.prog 32 #[.agg #[v0, v1]] w (Ret w (.int .i64 (2000 - max (2000 - (t.size : Int)) (-1)))) := by
  obtain ⟨st, A, n, c, rfl, rfl⟩ := ht.vals
  go_enter Tryd.func32, Tryd.ntmps32
  go_wp2_with fail
  have hg : w.grownBy ((w.alloc (Obj.cells #[.int .i64 st, .slice A n c] 24)).alloc (Obj.cells #[.int .i64 2000] 3)) none := frm_then_alloc (frm_alloc _ _) _
  refine (measure_calls t (fun b => b < w.heap.size) _ (w.heap.size + 1) 2000 _ _ (ht.move (fun _ h => h) (frm_lt hg)) (fun b hb => ⟨by omega, Nat.lt_of_lt_of_le hb hg.size⟩)
    (by simpa using OneAt.new (w.alloc (Obj.cells #[.int .i64 st, .slice A n c] 24)) (.int .i64 2000) 3) (by omega) (by omega)).mono ?_
  rintro e w1 ⟨rfl, hf1, ho⟩
  have hcell := ho.cell
  have hb : -1 ≤ max (2000 - (t.size : Int)) (-1) ∧ max (2000 - (t.size : Int)) (-1) ≤ 2000 := by omega
  have hfin := frm_new hg (by omega) hf1
  have hm : max (max (2000 - (t.size : Int)) (-1)) (-1) = max (2000 - (t.size : Int)) (-1) := by omega
  have HM := Lib.hid hm
  clear hm
  generalize max (2000 - (t.size : Int)) (-1) = q at *
  obtain ⟨hb1, hb2⟩ := hb
  go_wp2_with fail
  refine bodyPost_ret (results_tmp rfl _ _ _) rfl ⟨?_, hfin⟩
  rw [← HM.out]
  rfl

theorem large_calls (t : Ty) (w : World) (v0 v1 : Value) (ht : TyO w t [v0, v1]) :
    Calls Tryd.prog 46 #[.agg #[v0, v1]] w (Ret w (.bool t.large)) := by
  obtain ⟨st, A, n, c, rfl, rfl⟩ := ht.vals
  go_enter Tryd.func46, Tryd.ntmps46
  go_wp2_with fail
  refine (size_calls t _ _ _ (stays_ty _ _ _ _ (frm_alloc _ _) ht)).mono ?_
  rintro e w1 ⟨rfl, hf1⟩
  have hq : Hid (t.large = decide (2000 < 2000 - max (2000 - (t.size : Int)) (-1))) := by
    unfold Hid Ty.large
    congr 1
    apply propext
    omega
  generalize 2000 - max (2000 - (t.size : Int)) (-1) = q at *
  go_wp2_with fail
  refine bodyPost_ret (results_tmp rfl _ _ _) rfl ⟨?_, frm_trans (frm_alloc _ _) hf1⟩
  rw [hq.out]
  rfl

/-! ### Strong -/
/-- What Strong's contract says at two types. -/
def StrongAt (x y : Ty) : Prop := ∀ (w : World) (v0 v1 u0 u1 : Value), TyO w x [v0, v1] → TyO w y [u0, u1] →
  Calls Tryd.prog 52 #[.agg #[v0, v1], .agg #[u0, u1]] w (Ret w (.bool (Ty.strong x y)))

/-- The function that Strong hands on: the captured type lies in a block of its own. -/
theorem strong1_calls (x y : Ty) (h : StrongAt y x) (w : World) (g : Nat) (v0 v1 u0 u1 : Value) (hg : w.cell? ⟨g, 0, none⟩ = some v0) (hg1 : w.cell? ⟨g, 1, none⟩ = some v1)
    (hx : TyO w x [v0, v1]) (hy : TyO w y [u0, u1]) :
    Calls Tryd.prog 76 #[.agg #[u0, u1], .pointer (some ⟨g, 0, none⟩)] w (Ret w (.bool (Ty.strong y x))) := by
  obtain ⟨st, A, n, c, rfl, rfl⟩ := hx.vals
  obtain ⟨st', A', n', c', rfl, rfl⟩ := hy.vals
  have hlt : g < w.heap.size := World.block_lt_of_cell? _ _ hg
  have H := Lib.hid h
  clear h
  go_enter Tryd.func76, Tryd.ntmps76
  go_wp2_with fail
  refine (H.out _ _ _ _ _ (stays_ty _ _ _ _ (frm_alloc _ _) hy) (stays_ty _ _ _ _ (frm_alloc _ _) hx)).mono ?_
  rintro e w1 ⟨rfl, hf1⟩
  go_wp2_with fail
  exact bodyPost_ret (results_tmp rfl _ _ _) rfl ⟨rfl, frm_trans (frm_alloc _ _) hf1⟩

set_option maxRecDepth 20000 in
/-- The place of the first of ys that is stronger than x, or -1. -/
theorem index_calls (x : Ty) (ys : List Ty) (IH : ∀ y ∈ ys, StrongAt y x) (w : World) (g : Nat) (v0 v1 u : Value) (hg : w.cell? ⟨g, 0, none⟩ = some v0) (hg1 : w.cell? ⟨g, 1, none⟩ = some v1)
    (hx : TyO w x [v0, v1]) (hy : SlO w 2 TyO ys u) :
    Calls Tryd.prog 90 #[u, .func (.func 76) #[] #[.pointer (some ⟨g, 0, none⟩)]] w
      fun e w' => ∃ q : Int, -1 ≤ q ∧ e = .returned (.int .i64 q) ∧ (0 ≤ q ↔ ∃ y ∈ ys, Ty.strong y x = true) ∧ w.grownBy w' none := by
  obtain ⟨A, c, rfl, hc, hm⟩ := hy.val
  have HI := Lib.hid IH
  clear IH
  go_enter Tryd.func90, Tryd.ntmps90
  go_wp2_with fail
  go_loopw [8] (fun i wr => ∃ k : Nat, k ≤ ys.length ∧ i = .int .i64 k ∧ w.grownBy wr none ∧ Hid (∀ y ∈ ys.take k, Ty.strong y x = false)) (fun i _ => ys.length - (intOf i).toNat)
  case atStart => exact ⟨0, Nat.zero_le _, rfl, frm_refl _ _, by simp [Hid]⟩
  case round =>
    obtain ⟨k, hk, rfl, hfr, HC⟩ := hrel
    by_cases hlt : k < ys.length
    · obtain ⟨b, o, p0, p1, rfl, hb, hp0, hp1, hpt⟩ := (hy.frm hfr stays_ty).at2 k hlt
      obtain ⟨s1, A1, n1, c1, rfl, rfl⟩ := hpt.vals
      have ih := Lib.hid (strong1_calls x _ (HI.out _ (List.getElem_mem hlt)) wr g v0 v1 _ _ (frm_cell hfr hg) (frm_cell hfr hg1) (stays_ty _ _ _ _ hfr hx) hpt)
      have htk := Lib.hid (List.take_succ_eq_append_getElem hlt)
      have hmem := List.getElem_mem hlt
      generalize ys[k] = y at *
      go_wp2_with fail
      refine ih.out.mono ?_
      rintro e w1 ⟨rfl, hf1⟩
      have hf := frm_trans hfr hf1
      cases hs : Ty.strong y x
      · have HS := Lib.hid hs
        clear hs
        go_wp2_with fail
        refine ⟨⟨k + 1, by omega, by go_num, hf, ?_⟩, by simp [intOf]; omega⟩
        unfold Hid
        rw [htk.out]
        intro z hz
        rcases List.mem_append.1 hz with hz | hz
        · exact HC.out z hz
        · rw [List.mem_singleton.1 hz]
          exact HS.out
      · have HS := Lib.hid hs
        clear hs
        go_wp2_with fail
        exact bodyPost_ret (results_tmp rfl _ _ _) rfl ⟨k, by omega, rfl, ⟨fun _ => ⟨y, hmem, HS.out⟩, fun _ => by omega⟩, hf⟩
    · obtain rfl : k = ys.length := by omega
      go_wp2_with fail
      refine bodyPost_ret (results_tmp rfl _ _ _) rfl ⟨-1, by omega, rfl, ⟨fun h => by omega, fun ⟨y, hy, hs⟩ => ?_⟩, hfr⟩
      rw [HC.out y (by rwa [List.take_length])] at hs
      cases hs

theorem contains_calls (x : Ty) (ys : List Ty) (IH : ∀ y ∈ ys, StrongAt y x) (w : World) (g : Nat) (v0 v1 u : Value) (hg : w.cell? ⟨g, 0, none⟩ = some v0) (hg1 : w.cell? ⟨g, 1, none⟩ = some v1)
    (hx : TyO w x [v0, v1]) (hy : SlO w 2 TyO ys u) :
    Calls Tryd.prog 63 #[u, .func (.func 76) #[] #[.pointer (some ⟨g, 0, none⟩)]] w
      (Ret w (.bool (ys.any fun y => Ty.strong y x))) := by
  have H := Lib.hid (index_calls x ys IH w g v0 v1 u hg hg1 hx hy)
  obtain ⟨A, c, rfl, hc, hm⟩ := hy.val
  clear IH hx hy
  go_enter Tryd.func63, Tryd.ntmps63
  go_wp2_with fail
  refine H.out.mono ?_
  rintro e w1 ⟨q, hq, rfl, hi, hf⟩
  have hq2 : Hid ((ys.any fun y => Ty.strong y x) = decide (0 ≤ q)) := by
    unfold Hid
    rw [Bool.eq_iff_iff, List.any_eq_true, decide_eq_true_eq]
    exact hi.symm
  clear hi
  go_wp2_with fail
  refine bodyPost_ret (results_tmp rfl _ _ _) rfl ⟨?_, hf⟩
  rw [hq2.out]
  rfl

set_option maxRecDepth 20000 in
set_option maxHeartbeats 400000 in
theorem strong_step (s : Int) (a b : List (List Ty)) (IH : ∀ xs ∈ a, ∀ x ∈ xs, ∀ ys ∈ b, ∀ y ∈ ys, StrongAt y x) (w : World) (v u : Value) (hl : a.length = b.length)
    (hx : SlO w 1 SetO a v) (hy : SlO w 1 SetO b u) :
    Calls Tryd.prog 52 #[.agg #[.int .i64 s, v], .agg #[.int .i64 s, u]] w (Ret w (.bool (Ty.strong (.mk s a) (.mk s b)))) := by
  obtain ⟨A, c, rfl, hc, hm⟩ := hx.val
  obtain ⟨A', c', rfl, hc', hm'⟩ := hy.val
  have HI := Lib.hid IH
  clear IH
  have hne : (s != s) = false := by simp
  have hnl : ((a.length : Int) != (b.length : Int)) = false := by simp [hl]
  have HL := Lib.hid hl
  clear hl
  go_enter Tryd.func52, Tryd.ntmps52
  go_wp2_with fail
  go_loopw [26] (fun i wr => ∃ k : Nat, k ≤ a.length ∧ i = .int .i64 k ∧ w.grownBy wr none ∧ wr.cell? ⟨w.heap.size + 1, 1, none⟩ = some (.slice A' b.length c') ∧
    Hid (∀ i (h : i < a.length) (h' : i < b.length), i < k → ∀ x ∈ a[i], ∃ y ∈ b[i], Ty.strong y x = true)) (fun i _ => a.length - (intOf i).toNat)
  case atStart => exact ⟨0, Nat.zero_le _, rfl, frm_then_alloc (frm_alloc _ _) _, by simp, fun i _ _ h => absurd h (by omega)⟩
  case round =>
    obtain ⟨k, hk, rfl, hfr, hbox, HC⟩ := hrel
    by_cases hlt : k < a.length
    · have hlt' : k < b.length := by rw [← HL.out]; exact hlt
      obtain ⟨p, o, p0, rfl, hp, hp0, hps⟩ := (hx.frm hfr stays_set).at1 k hlt
      obtain ⟨p2, o2, r0, rfl, hp2, hr0, hrs⟩ := (hy.frm hfr stays_set).at1 k hlt'
      replace hps := SetO.sl hps
      replace hrs := SetO.sl hrs
      obtain ⟨A2, c2, rfl, hc2, hm2⟩ := hps.val
      obtain ⟨A3, c3, rfl, hc3, hm3⟩ := hrs.val
      have hma := List.getElem_mem hlt
      have hmb := List.getElem_mem hlt'
      have HS : Hid ((∀ x ∈ a[k], (b[k].any fun y => Ty.strong y x) = true) → ∀ i (h : i < a.length) (h' : i < b.length), i < k + 1 → ∀ x ∈ a[i], ∃ y ∈ b[i], Ty.strong y x = true) := by
        intro hh i h h' hi x hx
        by_cases e : i = k
        · subst e
          exact List.any_eq_true.1 (hh x hx)
        · exact HC.out i h h' (by omega) x hx
      have HN : Hid (∀ x ∈ a[k], (b[k].any fun y => Ty.strong y x) = false → Ty.strong (.mk s a) (.mk s b) = false) := by
        intro x hx hn
        rw [Bool.eq_false_iff]
        intro hc
        obtain ⟨y, hy, hs⟩ := (Ty.strong_iff.1 hc).2.2 k hlt hlt' x hx
        rw [List.any_eq_false] at hn
        exact hn y hy hs
      generalize a[k] = xs at *
      generalize b[k] = ys at *
      go_wp2_with fail
      obtain ⟨wo, rfl⟩ : ∃ wo : World, wo = wr := ⟨_, rfl⟩
      go_loopw [33] (fun i w2 => ∃ j : Nat, j ≤ xs.length ∧ i = .int .i64 j ∧ wo.grownBy w2 none ∧ Hid (∀ x ∈ xs.take j, (ys.any fun y => Ty.strong y x) = true)) (fun i _ => xs.length - (intOf i).toNat)
      case atStart => exact ⟨0, Nat.zero_le _, rfl, frm_refl _ _, by simp [Hid]⟩
      case round =>
        obtain ⟨j, hj, rfl, hfr2, HC2⟩ := hrel
        by_cases hlt2 : j < xs.length
        · obtain ⟨p3, o3, t0, t1, rfl, hp3, ht0, ht1, htt⟩ := (hps.frm hfr2 stays_ty).at2 j hlt2
          obtain ⟨s1, A1, n1, c1, rfl, rfl⟩ := htt.vals
          have hmx := List.getElem_mem hlt2
          have htk := Lib.hid (List.take_succ_eq_append_getElem hlt2)
          generalize xs[j] = x at *
          have hboxr := frm_cell hfr2 hbox
          have hrr := frm_cell hfr2 hr0
          have hbl := World.block_lt_of_cell? _ _ hboxr
          have hbl2 := World.block_lt_of_cell? _ _ hrr
          simp only at hbl hbl2
          have hfa := frm_alloc wr (Obj.cells #[Value.int .i64 s1, Value.slice A1 n1 c1] 24)
          have H := Lib.hid (contains_calls x ys (fun y hy => HI.out _ hma _ hmx _ hmb _ hy) _ wr.heap.size (.int .i64 s1) (.slice A1 n1 c1) _
            (World.cell?_alloc_new (w := wr) #[Value.int .i64 s1, Value.slice A1 n1 c1] 24 0) (World.cell?_alloc_new (w := wr) #[Value.int .i64 s1, Value.slice A1 n1 c1] 24 1)
            (stays_ty _ _ _ _ hfa htt) ((hrs.frm hfr2 stays_ty).frm hfa stays_ty))
          go_wp2_with fail
          refine H.out.mono ?_
          rintro e w1 ⟨rfl, hf1⟩
          have hf := frm_trans hfr2 (frm_trans hfa hf1)
          cases hs : (ys.any fun y => Ty.strong y x)
          · have HF := Lib.hid (HN.out _ hmx hs)
            clear hs
            go_wp2_with fail
            refine bodyPost_ret (results_tmp rfl _ _ _) rfl ⟨?_, frm_trans hfr hf⟩
            rw [HF.out]
            rfl
          · have HS2 := Lib.hid hs
            clear hs
            go_wp2_with fail
            refine ⟨⟨j + 1, by omega, by go_num, hf, ?_⟩, by simp [intOf]; omega⟩
            intro z hz
            rw [htk.out] at hz
            rcases List.mem_append.1 hz with hz | hz
            · exact HC2.out z hz
            · rw [List.mem_singleton.1 hz]
              exact HS2.out
        · obtain rfl : j = xs.length := by omega
          go_wp2_with fail
          refine ⟨⟨k + 1, by omega, by go_num, frm_trans hfr hfr2, frm_cell hfr2 hbox, HS.out ?_⟩, by simp [intOf]; omega⟩
          intro x hx
          exact HC2.out x (by rwa [List.take_length])
    · obtain rfl : k = a.length := by omega
      have HF : Hid (Ty.strong (.mk s a) (.mk s b) = true) := Ty.strong_iff.2 ⟨rfl, HL.out, fun i h h' => HC.out i h h' h⟩
      go_wp2_with fail
      refine bodyPost_ret (results_tmp rfl _ _ _) rfl ⟨?_, hfr⟩
      rw [HF.out]
      rfl

set_option maxRecDepth 20000 in
theorem strong_no (s s' : Int) (a b : List (List Ty)) (w : World) (v u : Value) (hn : ¬ (s = s' ∧ a.length = b.length))
    (hx : SlO w 1 SetO a v) (hy : SlO w 1 SetO b u) :
    Calls Tryd.prog 52 #[.agg #[.int .i64 s, v], .agg #[.int .i64 s', u]] w (Ret w (.bool (Ty.strong (.mk s a) (.mk s' b)))) := by
  obtain ⟨A, c, rfl, hc, hm⟩ := hx.val
  obtain ⟨A', c', rfl, hc', hm'⟩ := hy.val
  have HF : Hid (Ty.strong (.mk s a) (.mk s' b) = false) := by
    unfold Hid
    rw [Bool.eq_false_iff]
    intro h
    exact hn ⟨(Ty.strong_iff.1 h).1, (Ty.strong_iff.1 h).2.1⟩
  by_cases hs : s = s'
  · subst hs
    have hne : (s != s) = false := by simp
    have hnl : ((a.length : Int) != (b.length : Int)) = true := by
      simp only [true_and] at hn
      rw [bne_iff_ne]
      omega
    clear hn
    go_enter Tryd.func52, Tryd.ntmps52
    go_wp2_with fail
    refine bodyPost_ret (results_tmp rfl _ _ _) rfl ⟨?_, frm_then_alloc (frm_alloc _ _) _⟩
    rw [HF.out]
    rfl
  · have hne : (s != s') = true := by simp [hs]
    clear hn
    go_enter Tryd.func52, Tryd.ntmps52
    go_wp2_with fail
    refine bodyPost_ret (results_tmp rfl _ _ _) rfl ⟨?_, frm_then_alloc (frm_alloc _ _) _⟩
    rw [HF.out]
    rfl

theorem strong_at : ∀ x y : Ty, StrongAt x y ∧ StrongAt y x := by
  intro x
  induction x using Ty.ind with
  | h s a ih =>
    rintro ⟨s', b⟩
    constructor
    · intro w v0 v1 u0 u1 hx hy
      rw [TyO_mk] at hx hy
      obtain ⟨v, hv, h1, h2, hx⟩ := hx
      obtain ⟨u, hu, h3, h4, hy⟩ := hy
      obtain ⟨rfl, rfl⟩ : v0 = .int .i64 s ∧ v1 = v := by simpa using hv
      obtain ⟨rfl, rfl⟩ : u0 = .int .i64 s' ∧ u1 = u := by simpa using hu
      by_cases he : s = s' ∧ a.length = b.length
      · obtain ⟨rfl, hl⟩ := he
        exact strong_step s a b (fun xs hxs x hx ys hys y hy => (ih xs hxs x hx y).2) w v1 u1 hl hx hy
      · exact strong_no s s' a b w v1 u1 he hx hy
    · intro w v0 v1 u0 u1 hx hy
      rw [TyO_mk] at hx hy
      obtain ⟨v, hv, h1, h2, hx⟩ := hx
      obtain ⟨u, hu, h3, h4, hy⟩ := hy
      obtain ⟨rfl, rfl⟩ : v0 = .int .i64 s' ∧ v1 = v := by simpa using hv
      obtain ⟨rfl, rfl⟩ : u0 = .int .i64 s ∧ u1 = u := by simpa using hu
      by_cases he : s' = s ∧ b.length = a.length
      · obtain ⟨rfl, hl⟩ := he
        exact strong_step s' b a (fun xs hxs x hx ys hys y hy => (ih ys hys y hy x).1) w v1 u1 hl hx hy
      · exact strong_no s' s b a w v1 u1 he hx hy
theorem strong_calls (x y : Ty) : StrongAt x y := (strong_at x y).1

theorem stronger_calls (x y : Ty) (w : World) (v0 v1 u0 u1 : Value) (hx : TyO w x [v0, v1]) (hy : TyO w y [u0, u1]) :
    Calls Tryd.prog 22 #[.agg #[v0, v1], .agg #[u0, u1]] w (Ret w (.bool (Ty.stronger x y))) := by
  obtain ⟨s1, A1, n1, c1, rfl, rfl⟩ := hx.vals
  obtain ⟨s2, A2, n2, c2, rfl, rfl⟩ := hy.vals
  have hfa : w.grownBy ((w.alloc (Obj.cells #[.int .i64 s1, .slice A1 n1 c1] 24)).alloc (Obj.cells #[.int .i64 s2, .slice A2 n2 c2] 24)) none := frm_then_alloc (frm_alloc _ _) _
  go_enter Tryd.func22, Tryd.ntmps22
  go_wp2_with fail
  refine (large_calls x _ _ _ (stays_ty _ _ _ _ hfa hx)).mono ?_
  rintro e w1 ⟨rfl, hf1⟩
  have hf := frm_trans hfa hf1
  have k1 : w1.cell? ⟨w.heap.size, 0, none⟩ = some (.int .i64 s1) := frm_cell hf1 (by simp)
  have k2 : w1.cell? ⟨w.heap.size, 1, none⟩ = some (.slice A1 n1 c1) := frm_cell hf1 (by simp)
  have k3 : w1.cell? ⟨w.heap.size + 1, 0, none⟩ = some (.int .i64 s2) := frm_cell hf1 (by simp)
  have k4 : w1.cell? ⟨w.heap.size + 1, 1, none⟩ = some (.slice A2 n2 c2) := frm_cell hf1 (by simp)
  cases hl : x.large
  · have HL := Lib.hid hl
    clear hl
    go_wp2_with fail
    refine (large_calls y _ _ _ (stays_ty _ _ _ _ hf hy)).mono ?_
    rintro e w2 ⟨rfl, hf2⟩
    have hg := frm_trans hf hf2
    replace k1 := frm_cell hf2 k1
    replace k2 := frm_cell hf2 k2
    replace k3 := frm_cell hf2 k3
    replace k4 := frm_cell hf2 k4
    cases hl2 : y.large
    · have HL2 := Lib.hid hl2
      clear hl2
      go_wp2_with fail
      refine (strong_calls x y _ _ _ _ _ (stays_ty _ _ _ _ hg hx) (stays_ty _ _ _ _ hg hy)).mono ?_
      rintro e w3 ⟨rfl, hf3⟩
      go_wp2_with fail
      refine bodyPost_ret (results_tmp rfl _ _ _) rfl ⟨?_, frm_trans hg hf3⟩
      simp [Ty.stronger, HL.out, HL2.out]
    · have HL2 := Lib.hid hl2
      clear hl2
      go_wp2_with fail
      refine bodyPost_ret (results_tmp rfl _ _ _) rfl ⟨?_, hg⟩
      simp [Ty.stronger, HL.out, HL2.out]
  · have HL := Lib.hid hl
    clear hl
    go_wp2_with fail
    refine bodyPost_ret (results_tmp rfl _ _ _) rfl ⟨?_, hf⟩
    simp [Ty.stronger, HL.out]

theorem compare_calls (x y : Ty) (w : World) (v0 v1 u0 u1 : Value) (hx : TyO w x [v0, v1]) (hy : TyO w y [u0, u1]) :
    Calls Tryd.prog 27 #[.agg #[v0, v1], .agg #[u0, u1]] w (Ret w (.int .i64 (Ty.compared x y))) := by
  obtain ⟨s1, A1, n1, c1, rfl, rfl⟩ := hx.vals
  obtain ⟨s2, A2, n2, c2, rfl, rfl⟩ := hy.vals
  have hfa : w.grownBy ((w.alloc (Obj.cells #[.int .i64 s1, .slice A1 n1 c1] 24)).alloc (Obj.cells #[.int .i64 s2, .slice A2 n2 c2] 24)) none := frm_then_alloc (frm_alloc _ _) _
  go_enter Tryd.func27, Tryd.ntmps27
  go_wp2_with fail
  refine (large_calls x _ _ _ (stays_ty _ _ _ _ hfa hx)).mono ?_
  rintro e w1 ⟨rfl, hf1⟩
  have hf := frm_trans hfa hf1
  have k1 : w1.cell? ⟨w.heap.size, 0, none⟩ = some (.int .i64 s1) := frm_cell hf1 (by simp)
  have k2 : w1.cell? ⟨w.heap.size, 1, none⟩ = some (.slice A1 n1 c1) := frm_cell hf1 (by simp)
  have k3 : w1.cell? ⟨w.heap.size + 1, 0, none⟩ = some (.int .i64 s2) := frm_cell hf1 (by simp)
  have k4 : w1.cell? ⟨w.heap.size + 1, 1, none⟩ = some (.slice A2 n2 c2) := frm_cell hf1 (by simp)
  cases hl : x.large
  · have HL := Lib.hid hl
    clear hl
    go_wp2_with fail
    refine (large_calls y _ _ _ (stays_ty _ _ _ _ hf hy)).mono ?_
    rintro e w2 ⟨rfl, hf2⟩
    have hg := frm_trans hf hf2
    replace k1 := frm_cell hf2 k1
    replace k2 := frm_cell hf2 k2
    replace k3 := frm_cell hf2 k3
    replace k4 := frm_cell hf2 k4
    cases hl2 : y.large
    · have HL2 := Lib.hid hl2
      clear hl2
      go_wp2_with fail
      refine (order_calls x y _ _ _ _ _ (stays_ty _ _ _ _ hg hx) (stays_ty _ _ _ _ hg hy)).mono ?_
      rintro e w3 ⟨rfl, hf3⟩
      go_wp2_with fail
      refine bodyPost_ret (results_tmp rfl _ _ _) rfl ⟨?_, frm_trans hg hf3⟩
      simp [Ty.compared, HL.out, HL2.out]
    · have HL2 := Lib.hid hl2
      clear hl2
      go_wp2_with fail
      refine bodyPost_ret (results_tmp rfl _ _ _) rfl ⟨?_, hg⟩
      simp [Ty.compared, HL.out, HL2.out]
  · have HL := Lib.hid hl
    clear hl
    go_wp2_with fail
    refine bodyPost_ret (results_tmp rfl _ _ _) rfl ⟨?_, hf⟩
    simp [Ty.compared, HL.out]
end Go.Proofs.YtmdgoalekkkpnaaDoor
