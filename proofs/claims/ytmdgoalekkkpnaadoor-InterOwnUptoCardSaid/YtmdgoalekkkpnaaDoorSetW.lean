/- Set and Least once more: no block of theirs is frozen. -/
import Derived.Test.YtmdgoalekkkpnaaDoorCopyW
import Derived.Test.YtmdgoalekkkpnaaDoorTurn
import Derived.Test.YtmdgoalekkkpnaaDoorSetI
import Derived.Test.YtmdgoalekkkpnaaDoorLeast
set_option linter.unusedVariables false
set_option linter.unusedSimpArgs false
namespace Go.Proofs.YtmdgoalekkkpnaaDoor
open Go.RowKit

/-- A list of types in new memory that may be written. -/
def NewW (w : World) (ts : List Ty) (v : Value) (w' : World) : Prop := ∃ S, TRow S w.heap.size w' ts v ∧ ∀ b, S b → w.heap.size ≤ b ∧ b < w'.heap.size ∧ Unf w' b
theorem NewW.nil (w w' : World) : NewW w [] (.slice none 0 0) w' := ⟨fun _ => False, ⟨none, 0, rfl, by simp, by simp, by simp⟩, fun b hb => hb.elim⟩
theorem Own.rowTW {w : World} {base e g n c : Nat} {ok : Nat → Prop} {ts : List Ty} (h : Own TyW w base e 2 ok (.slice (some ⟨g, 0, none⟩) n c) ts) :
    RowT (fun b => Sup ok w (.slice (some ⟨g, 0, none⟩) n c) b ∧ Unf w b) w g ts := by
  intro i hi
  have hu := h.unf g rfl
  obtain ⟨inner, ⟨hl, ho⟩, h1, hx⟩ := h
  rcases ho with ⟨he, hn⟩ | ⟨g', cap, cur, he, hb, hg, hnc, hcm, hcs, htake⟩
  · omega
  · injection he with e1 e2 e3
    injection e1 with e1
    injection e1 with e1
    subst e1
    obtain ⟨cs, hcl, hcc, hr⟩ := hx i hi
    match cs, hcl with
    | [v0, v1], _ =>
      have hcell : ∀ j, j < ts.length * 2 → w.cell? ⟨g, j, none⟩ = inner[j]? := fun j hj => by
        rw [← htake, List.getElem?_take, if_pos hj]
        simp [World.cell?, hg]
      refine ⟨v0, v1, ?_, ?_, hu _, hu _, hr⟩
      · rw [hcell _ (by omega)]; simpa using hcc 0 (by omega)
      · rw [hcell _ (by omega)]; simpa using hcc 1 (by omega)
theorem RowT.trow {S : Nat → Prop} {w : World} {g c base : Nat} {ts : List Ty} (h : RowT S w g ts) (hc : ts.length ≤ c) (hm : ts.length ≤ 140737488351232) (hb : base ≤ g) : TRow S base w ts (.slice (some ⟨g, 0, none⟩) ts.length c) := by
  refine ⟨_, c, rfl, hc, hm, fun _ => ⟨g, 0, rfl, hb, fun i hi => ?_⟩⟩
  obtain ⟨v0, v1, c0, c1, z0, _, ht⟩ := h i hi
  exact ⟨v0, v1, by simpa using c0, by simpa using c1, by simpa using z0, ht⟩
theorem Own.slP {w : World} {base e : Nat} {ok : Nat → Prop} {v : Value} {xs : List Ty} (h : Own TyW w base e 2 ok v xs) (hm : xs.length ≤ 140737488351232) {S : Nat → Prop} (hS : ∀ b, ok b → b < w.heap.size → S b) (hB : ∀ b, base ≤ b → b < w.heap.size → S b) : Sl S w 2 (TyR S w) xs v := by
  obtain ⟨A, c, he, hc, hm', hp⟩ := h.sl moves_tyW hm hS hB
  refine ⟨A, c, he, hc, hm', fun h0 => ?_⟩
  obtain ⟨b, o, ha, hb, hcs⟩ := hp h0
  refine ⟨b, o, ha, hb, fun i hi => ?_⟩
  obtain ⟨cs, q1, q2, q3⟩ := hcs i hi
  exact ⟨cs, q1, q2, q3.ty⟩
theorem Own.newW {w w1 wr : World} {e : Nat} {ok : Nat → Prop} {v : Value} {xs : List Ty} (h : Own TyW wr w1.heap.size e 2 ok v xs) (hm : xs.length ≤ 140737488351232) (h1 : w.heap.size ≤ w1.heap.size) (hok : ∀ b, ok b → w.heap.size ≤ b) : NewW w xs v wr := by
  have hlt := h.lt
  have hv : (xs.length = 0 ∧ v = .slice none 0 0) ∨ ∃ g c, v = .slice (some ⟨g, 0, none⟩) xs.length c ∧ xs.length ≤ c := by
    obtain ⟨inner, ⟨hl, ho⟩, _⟩ := h
    rcases ho with ⟨h, h0⟩ | ⟨g, cap, cur, h, _, _, h3, _⟩
    · exact .inl ⟨h0, h⟩
    · exact .inr ⟨g, cap, h, h3⟩
  rcases hv with ⟨h0, rfl⟩ | ⟨g, c, rfl, hc⟩
  · have : xs = [] := List.eq_nil_of_length_eq_zero h0
    subst this
    exact NewW.nil _ _
  · exact ⟨_, h.rowTW.trow hc hm (Nat.le_trans h1 (hlt g rfl).1), fun b hb => ⟨hok b hb.1.1, hb.1.2.1, hb.2⟩⟩
/-- An element of such a list, later. -/
theorem NewW.elem {w w1 wr : World} {s : List Ty} {b o c k : Nat} {p0 p1 : Value} (h : NewW w s (.slice (some ⟨b, o, none⟩) s.length c) w1) (hf : w1.grownBy wr none) (hk : k < s.length)
    (h0 : wr.cell? ⟨b, o + k * 2, none⟩ = some p0) (h1 : wr.cell? ⟨b, o + k * 2 + 1, none⟩ = some p1) : TyW (fun b => w.heap.size ≤ b ∧ b < w1.heap.size) wr s[k] [p0, p1] := by
  obtain ⟨S, ⟨A, c', he, _, _, hp⟩, hS⟩ := h
  injection he with e1 e2 e3
  subst e1
  obtain ⟨b', o', hA, _, hrow⟩ := hp (by omega)
  injection hA with hA
  injection hA with hb' ho' _
  subst hb' ho'
  obtain ⟨v0, v1, c0, c1, _, ht⟩ := hrow k hk
  have g0 := frm_cell hf c0
  have g1 := frm_cell hf c1
  rw [h0] at g0
  rw [h1] at g1
  injection g0 with g0
  injection g1 with g1
  subst g0 g1
  exact TyR.move (w := w1) (fun b hb => ⟨⟨(hS b hb).1, (hS b hb).2.1⟩, (hS b hb).2.2.move (frm_lt hf b (hS b hb).2.1)⟩) (fun b hb => frm_lt hf b (hS b hb).2.1) ht

set_option maxRecDepth 100000 in
set_option maxHeartbeats 1000000 in
theorem setW_calls (l : List Ty) (w : World) (v : Value) (hv : SetO w l [v]) (hfit : ∀ t ∈ l, t.Fit) (h32 : l.length * 32 ≤ 140737488351232) :
    Calls Tryd.prog 36 #[v] w fun e w' => ∃ u, e = .returned (.tuple #[u, .int .i64 (setE l)]) ∧ w.grownBy w' none ∧ NewSet w (setT l) u w' ∧ NewW w (setT l) u w' := by
  have hs := SetO.sl hv
  obtain ⟨A, c, rfl, hc, hm⟩ := hs.val
  have HS := Lib.hid hs
  have HV := Lib.hid hv
  have HF := Lib.hid hfit
  clear hs hv hfit
  by_cases hlong : 4096 < l.length
  · have hE : Hid (setE l = 3) := by unfold Hid setE; rw [if_pos hlong]
    have hl2 : (4096 : Int) < l.length := by omega
    go_enter Tryd.func36, Tryd.ntmps36
    go_wp2_with fail
    refine bodyPost_ret (v := .tuple #[.slice none 0 0, .int .i64 3]) (by simp [results, Tryd.results36, go_sem]) rfl ⟨_, by rw [hE.out], frm_refl _ _, ?_⟩
    have hT0 : setT l = [] := by unfold setT; rw [hE.out, if_neg (by omega)]
    rw [hT0]
    exact ⟨NewSet.nil _ _, NewW.nil _ _⟩
  · go_enter Tryd.func36, Tryd.ntmps36
    go_wp2_with fail
    refine (containsLarge_calls l _ _ HS.out).mono ?_
    rintro e w1 ⟨rfl, hf1⟩
    cases hl : l.any Ty.large
    · have hE : Hid (setE l = 0) := by unfold Hid setE; rw [if_neg hlong, hl, if_neg (by simp)]
      have hT : Hid (setT l = setL Ty.cmp l) := by unfold Hid setT; rw [hE.out, if_pos rfl]
      clear hl
      go_wp2_with fail
      refine (icopiesW_calls l (fun t _ => icopyW_calls t) _ _ (stays_set _ _ _ _ hf1 HV.out) HF.out h32).mono ?_
      rintro e w2 ⟨u, rfl, hf2, ho⟩
      have hf12 := frm_trans hf1 hf2
      by_cases h0 : l = []
      · subst h0
        obtain ⟨Au, cu, rfl, _⟩ := ho.val
        have hC : Hid (∀ w : World, Calls Tryd.prog 68 #[.slice Au 0 cu, .func (.func 54) #[] #[]] w fun e w' => e = .returned (.slice Au 0 cu) ∧ w = w') := compact_none Au cu
        clear ho
        go_wp2_with fail
        refine (sort_none Au cu _).mono ?_
        rintro e w3 ⟨rfl, rfl⟩
        go_wp2_with fail
        refine (hC.out _).mono ?_
        rintro e w3 ⟨rfl, rfl⟩
        go_wp2_with fail
        refine bodyPost_ret (v := .tuple #[.slice Au 0 cu, .int .i64 0]) (by simp [results, Tryd.results36, go_sem]) rfl ⟨_, by rw [hE.out], hf12, ?_⟩
        rw [hT.out]
        exact ⟨⟨Au, cu, rfl, by simp [setL], by simp [setL], by simp [setL]⟩, fun _ => False, ⟨Au, cu, rfl, by simp [setL], by simp [setL], by simp [setL]⟩, fun b hb => hb.elim⟩
      · have hlen0 : 0 < l.length := List.length_pos_iff.2 h0
        obtain ⟨g, cu, rfl, hcu⟩ : ∃ g cu, u = .slice (some ⟨g, 0, none⟩) l.length cu ∧ l.length ≤ cu := by
          obtain ⟨inner, ⟨hl, ho⟩, _⟩ := ho
          rcases ho with ⟨_, h⟩ | ⟨g, cap, cur, h, _, _, hcap, _⟩
          · omega
          · exact ⟨g, cap, h, hcap⟩
        have hgl := ho.lt g rfl
        obtain ⟨S, hrow, hsup, hsup1, hsup2⟩ : ∃ S : Nat → Prop, RowT S w2 g l ∧ (∀ b, S b → b < w2.heap.size ∧ b ≠ g) ∧ (∀ b, S b → w1.heap.size ≤ b) ∧ (∀ b, S b → Unf w2 b) :=
          ⟨_, ho.rowTW, fun b hb => ⟨hb.1.2.1, fun e => hb.1.2.2 (by rw [e]; rfl)⟩, fun b hb => hb.1.1, fun b hb => hb.2⟩
        have HSup := Lib.hid hsup
        have HSup1 := Lib.hid hsup1
        have HSup2 := Lib.hid hsup2
        clear ho hsup hsup1 hsup2
        have HRow := Lib.hid hrow
        clear hrow
        have hl47 : l.length ≤ 140737488351232 := hm
        go_wp2_with fail
        refine (sort_calls HSup.out hgl.2 HRow.out hlen0 hl47).mono ?_
        rintro e w3 ⟨rfl, hf3, ts, hp, hso, hr3⟩
        have hlen : ts.length = l.length := hp.length_eq
        have hset : Hid (cpt eqT ts = setL Ty.cmp l) := cpt_setL ord_ty hp hso
        have hgl3 : g < w3.heap.size := Nat.lt_of_lt_of_le hgl.2 hf3.size
        have HS3 : Hid (∀ b, S b → b < w3.heap.size ∧ b ≠ g) := fun b hb => ⟨Nat.lt_of_lt_of_le (HSup.out b hb).1 hf3.size, (HSup.out b hb).2⟩
        have hcc := compact_calls (cap := cu) HS3.out hgl3 hr3 (by omega) (by omega)
        rw [hlen] at hcc
        have HCC := Lib.hid hcc
        clear hcc hr3 hso
        go_wp2_with fail
        refine HCC.out.mono ?_
        rintro e w4 ⟨rfl, hf4, hr4⟩
        rw [hset.out] at hr4
        have hle : (setL Ty.cmp l).length ≤ l.length := by
          rw [← hset.out, ← hlen]
          exact cpt_length_le _ _
        have hLE : Hid ((cpt eqT ts).length = (setL Ty.cmp l).length) := by unfold Hid; rw [hset.out]
        rw [hLE.out]
        clear hlen
        have HR4 := Lib.hid hr4
        clear hr4
        go_wp2_with fail
        have hfr : w.grownBy w4 none := frm_new (frm_new hf12 (Nat.le_trans hf1.size hgl.1) hf3) (Nat.le_trans hf1.size hgl.1) hf4
        refine bodyPost_ret (v := .tuple #[.slice (some ⟨g, 0, none⟩) (setL Ty.cmp l).length cu, .int .i64 0]) (by simp [results, Tryd.results36, go_sem]) rfl ⟨_, by rw [hE.out], hfr, ?_⟩
        rw [hT.out]
        have s1 := hf1.size
        have s3 := hf3.size
        have s4 := hf4.size
        refine ⟨HR4.out.sl (by omega) (by omega) (fun b hb => ⟨Nat.le_trans s1 (HSup1.out b hb), by have := (HSup.out b hb).1; omega⟩) ⟨by omega, by omega⟩, S, HR4.out.trow (by omega) (by omega) (by omega), fun b hb => ⟨Nat.le_trans s1 (HSup1.out b hb), by have := (HSup.out b hb).1; omega, ?_⟩⟩
        have hb3 := (HSup.out b hb)
        refine ((HSup2.out b hb).move (hf3.block b hb3.1 (fun e => hb3.2 (by injection e)))).move (hf4.block b (Nat.lt_of_lt_of_le hb3.1 s3) (fun e => hb3.2 (by injection e)))
    · have hE : Hid (setE l = 12) := by unfold Hid setE; rw [if_neg hlong, hl, if_pos rfl]
      clear hl
      go_wp2_with fail
      refine bodyPost_ret (v := .tuple #[.slice none 0 0, .int .i64 12]) (by simp [results, Tryd.results36, go_sem]) rfl ⟨_, by rw [hE.out], hf1, ?_⟩
      have hT0 : setT l = [] := by unfold setT; rw [hE.out, if_neg (by omega)]
      rw [hT0]
      exact ⟨NewSet.nil _ _, NewW.nil _ _⟩
set_option maxRecDepth 100000 in
set_option maxHeartbeats 2000000 in
theorem leastW_calls (l : List Ty) (w : World) (v : Value) (hv : SetO w l [v]) (hfit : ∀ t ∈ l, t.Fit) (h32 : l.length * 32 ≤ 140737488351232) :
    Calls Tryd.prog 38 #[v] w fun e w' => ∃ u, e = .returned (.tuple #[u, .int .i64 (setE l)]) ∧ w.grownBy w' none ∧ NewSet w (leastT l) u w' ∧ NewW w (leastT l) u w' := by
  have hc := setW_calls l w v hv hfit h32
  obtain ⟨A, c, rfl, _, _⟩ := (SetO.sl hv).val
  have HC := Lib.hid hc
  have hle : Hid (setE l = 0 → l.length ≤ 4096) := fun h => by
    unfold setE at h
    by_cases h4 : 4096 < l.length
    · rw [if_pos h4] at h; simp at h
    · omega
  clear hc hv hfit
  go_enter Tryd.func38, Tryd.ntmps38
  go_wp2_with fail
  refine HC.out.mono ?_
  rintro e w1 ⟨u, rfl, hf1, hn, hnw⟩
  by_cases hE : setE l = 0
  · have hne : (setE l != 0) = false := by simp [hE]
    have HL : Hid (leastT l = thinTo (setT l) (setT l).length) := by unfold Hid leastT; rw [if_pos hE]
    have HT : Hid ((setT l).length ≤ 4096) := by
      have h1 : setT l = setL Ty.cmp l := by unfold setT; rw [if_pos hE]
      have h2 := setL_len Ty.cmp l
      have h3 := hle.out hE
      unfold Hid
      rw [h1]
      omega
    have HE := Lib.hid hE
    clear hE
    unfold NewSet at hn
    generalize setT l = s at *
    obtain ⟨A2, c2, rfl, hc2, hm2⟩ := hn.val
    have HN := Lib.hid hn
    have HNW0 := Lib.hid hnw
    clear hn hnw
    go_wp2_with fail
    go_loopw [6, 22] (fun o i wr => ∃ k : Nat, k ≤ s.length ∧ i = .int .i64 k ∧ w1.grownBy wr none ∧ Own TyW wr w1.heap.size 24 2 (fun b => w.heap.size ≤ b) o (thinTo s k)) (fun _ i _ => s.length - (intOf i).toNat)
    case atStart => exact ⟨0, Nat.zero_le _, rfl, frm_refl _ _, Own.nil _ _ _ _ _ _⟩
    case round =>
      obtain ⟨k, hk, rfl, hfr, hO⟩ := hrel
      obtain ⟨Ao, co, rfl, hco⟩ := hO.val
      have hmv : Hid (∀ wq : World, w1.grownBy wq none → SlO wq 2 TyO s (.slice A2 s.length c2)) := fun wq hq => HN.out.move (fun b hb => Nat.lt_of_lt_of_le hb.2 hq.size) (fun b hb => frm_lt hq b hb.2) (fun t _ cs h => h.move (fun b hb => Nat.lt_of_lt_of_le hb.2 hq.size) (fun b hb => frm_lt hq b hb.2))
      by_cases hlt : k < s.length
      · obtain ⟨b, o, p0, p1, rfl, hb, hp0, hp1, hps⟩ := (HN.out.move (S' := fun b => w.heap.size ≤ b ∧ b < w1.heap.size) (w' := wr) (r' := TyR (fun b => w.heap.size ≤ b ∧ b < w1.heap.size) wr) (fun b hb => hb) (fun b hb => frm_lt hfr b hb.2) (fun t _ cs h => h.move (fun b hb => hb) (fun b hb => frm_lt hfr b hb.2))).at2 k hlt
        have hpt : TyO wr s[k] [p0, p1] := hps.move (fun b hb => Nat.lt_of_lt_of_le hb.2 hfr.size) (fun b hb => rfl)
        have HPS := Lib.hid (HNW0.out.elem hfr hlt hp0 hp1)
        clear hps
        obtain ⟨s1, A1, n1, c1, rfl, rfl⟩ := hpt.vals
        have HP := Lib.hid hpt
        have hsk : s[k]? = some s[k] := List.getElem?_eq_getElem hlt
        have HSK := Lib.hid hsk
        clear hpt hsk
        generalize s[k] = x at *
        go_wp2_with fail
        have hox := TwoAt.new wr (.int .i64 s1) (.slice A1 n1 c1) 24
        have hfr2 := frm_then_alloc hfr (.cells #[.int .i64 s1, .slice A1 n1 c1] 24)
        have hwx : wr.grownBy (wr.alloc (.cells #[.int .i64 s1, .slice A1 n1 c1] 24)) none := frm_alloc _ _
        generalize hwo : wr.alloc (.cells #[.int .i64 s1, .slice A1 n1 c1] 24) = wo at *
        clear hwo
        go_loopw [9, 29] (fun wv j wq => ∃ m : Nat, m ≤ s.length ∧ j = .int .i64 m ∧ wv = .bool (weakTo s k m) ∧ wo.grownBy wq none) (fun _ j _ => s.length - (intOf j).toNat)
        case atStart => exact ⟨0, Nat.zero_le _, rfl, rfl, frm_refl _ _⟩
        case round =>
          obtain ⟨m, hm, rfl, rfl, hfq⟩ := hrel
          obtain ⟨k1, k2, _, _⟩ := (hox.frm hfq).cells
          have kl := (hox.frm hfq).lt
          by_cases hlt2 : m < s.length
          · obtain ⟨b2, o2, q0, q1, he, hb2, hq0, hq1, hqt⟩ := (hmv.out _ (frm_trans hfr2 hfq)).at2 m hlt2
            injection he with he
            injection he with he1 he2 _
            subst he1 he2
            obtain ⟨s2, A3, n3, c3, rfl, rfl⟩ := hqt.vals
            have HQ := Lib.hid hqt
            have hsm : s[m]? = some s[m] := List.getElem?_eq_getElem hlt2
            have HSM := Lib.hid hsm
            clear hqt hsm
            generalize s[m] = y at *
            have hst1 : Hid (strongAt s m k = Ty.strong y x) := by unfold Hid strongAt; rw [HSM.out, HSK.out]
            have hst2 : Hid (strongAt s k m = Ty.strong x y) := by unfold Hid strongAt; rw [HSM.out, HSK.out]
            have hwk : Hid (weakTo s k (m + 1) = (weakTo s k m || (m != k && Ty.strong y x && (decide (m < k) || !Ty.strong x y)))) := by
              unfold Hid
              rw [weakTo, hst1.out, hst2.out]
            have hfa := frm_trans hfq (frm_alloc wr (.cells #[.int .i64 s2, .slice A3 n3 c3] 24))
            cases hw : weakTo s k m
            · have HW := Lib.hid hw
              by_cases hmk : m = k
              · have h1 : (m != k) = false := by simp [hmk]
                have h2 : ((m : Int) != (k : Int)) = false := by simp [hmk]
                have HR : Hid (weakTo s k (m + 1) = false) := by unfold Hid; rw [hwk.out, HW.out, h1]; rfl
                have H1 := Lib.hid hmk
                clear hmk
                go_wp2_with fail
                exact ⟨⟨m + 1, by omega, by go_num, by rw [HR.out], hfa⟩, by simp [intOf]; omega⟩
              · have h1 : (m != k) = true := by simp [hmk]
                have h2 : ((m : Int) != (k : Int)) = true := by simp; omega
                have hwk2 : Hid (weakTo s k (m + 1) = (Ty.strong y x && (decide (m < k) || !Ty.strong x y))) := by unfold Hid; rw [hwk.out, HW.out, h1]; simp
                have HMK := Lib.hid hmk
                clear hmk
                go_wp2_with fail
                refine (strong_calls y x _ _ _ _ _ (stays_ty _ _ _ _ (frm_alloc _ _) HQ.out) (stays_ty _ _ _ _ (frm_trans hwx (frm_then_alloc hfq _)) HP.out)).mono ?_
                rintro e w5 ⟨rfl, g5⟩
                have hf5 := frm_trans hfa g5
                cases hs1 : Ty.strong y x
                · have HR : Hid (weakTo s k (m + 1) = false) := by unfold Hid; rw [hwk2.out, hs1]; rfl
                  clear hs1
                  go_wp2_with fail
                  exact ⟨⟨m + 1, by omega, by go_num, by rw [HR.out], hf5⟩, by simp [intOf]; omega⟩
                · by_cases hlt3 : m < k
                  · have HR : Hid (weakTo s k (m + 1) = true) := by unfold Hid; rw [hwk2.out, hs1]; simp [hlt3]
                    have hlt4 : (m : Int) < k := by omega
                    clear hs1
                    go_wp2_with fail
                    exact ⟨⟨m + 1, by omega, by go_num, by rw [HR.out], hf5⟩, by simp [intOf]; omega⟩
                  · have HR : Hid (weakTo s k (m + 1) = !Ty.strong x y) := by unfold Hid; rw [hwk2.out, hs1]; simp [hlt3]
                    have hlt4 : ¬ (m : Int) < k := by omega
                    have hbx := ((TwoAt.new wr (.int .i64 s2) (.slice A3 n3 c3) 24).frm g5)
                    obtain ⟨z0, z1, _, _⟩ := hbx.cells
                    obtain ⟨y0, y1, _, _⟩ := (hox.frm hf5).cells
                    clear hs1 k1 k2 hq0 hq1
                    go_wp2_with fail
                    refine (strong_calls x y _ _ _ _ _ (stays_ty _ _ _ _ (frm_trans hwx hf5) HP.out) (stays_ty _ _ _ _ (frm_trans (frm_alloc _ _) g5) HQ.out)).mono ?_
                    rintro e w6 ⟨rfl, g6⟩
                    go_wp2_with fail
                    exact ⟨⟨m + 1, by omega, by go_num, by rw [HR.out], frm_trans hf5 g6⟩, by simp [intOf]; omega⟩
            · have HW := Lib.hid hw
              have HR : Hid (weakTo s k (m + 1) = true) := by unfold Hid; rw [hwk.out, HW.out]; rfl
              go_wp2_with fail
              exact ⟨⟨m + 1, by omega, by go_num, by rw [HR.out], hfa⟩, by simp [intOf]; omega⟩
          · obtain rfl : m = s.length := by omega
            have hfq2 := frm_trans hwx hfq
            have hO2 := hO.kept moves_tyW hfq2 (ownNone _) (by simp)
            have hfr3 := frm_trans hfr hfq2
            cases hw : weakTo s k s.length
            · have HN2 : Hid (thinTo s (k + 1) = thinTo s k ++ [x]) := by
                unfold Hid
                rw [thinTo, hw, HSK.out]
                rfl
              clear hw
              have hlt5 := hO.lt
              have hlen := thinTo_length s k
              have HTT := HT.out
              have sz := hfr3.size
              have sz1 := hfr.size
              repeat ((fail_if_success at_builtin); first | go_values | go_skip | go_guarded | go_step | go_upon)
              have hf6 := frm_alloc wr (.cells #[.int .i64 s1, .slice A1 n1 c1] 24)
              have hO5 := hO2.kept moves_tyW hf6 (ownNone _) (by simp)
              have htw := TwoAt.new wr (.int .i64 s1) (.slice A1 n1 c1) 24
              refine Own.append1 moves_tyW elem_ty hO5 rfl _ _ rfl rfl rfl x [.int .i64 s1, .slice A1 n1 c1] rfl ?_ ?_ ?_ (by omega) (by omega) (by simp; omega) ?_
              · intro j u hj
                match j with
                | 0 => simp at hj; subst hj; exact htw.cells.1
                | 1 => simp at hj; subst hj; exact htw.cells.2.1
                | j + 2 => simp at hj
              · intro u hu
                simp at hu
                rcases hu with rfl | rfl <;> rfl
              · exact (TyW.move (S' := fun b => w.heap.size ≤ b ∧ b < w1.heap.size) (fun b hb => hb) (fun b hb => frm_lt (frm_trans hfq2 hf6) b (Nat.lt_of_lt_of_le hb.2 sz1)) HPS.out).move (fun b hb => ⟨hb.1, by have := hb.2; simp; omega, fun e => by have := (hlt5 b e.symm).1; have := hb.2; omega⟩) (fun b hb => rfl)
              intro v7 w7 hO8 hg7 hp7
              have hfr7 := frm_own (frm_trans hfr3 hf6) (fun b hb => (hlt5 b hb).1) hg7
              obtain ⟨A7, c7, rfl, _⟩ := hO8.val
              rw [← HN2.out] at hO8
              clear hlt5 hlen HTT hO hO2 hO5
              go_wp2_with fail
              exact ⟨⟨k + 1, by omega, by go_num, hfr7, by simpa [HN2.out] using hO8⟩, by simp [intOf]; omega⟩
            · have HN2 : Hid (thinTo s (k + 1) = thinTo s k) := by
                unfold Hid
                rw [thinTo, hw, if_pos rfl, List.append_nil]
              clear hw
              rw [← HN2.out] at hO2
              go_wp2_with fail
              exact ⟨⟨k + 1, by omega, by go_num, hfr3, by simpa [HN2.out] using hO2⟩, by simp [intOf]; omega⟩
      · obtain rfl : k = s.length := by omega
        have hlen := thinTo_length s s.length
        have HTT := HT.out
        have hnew : NewSet w (thinTo s s.length) (.slice Ao (thinTo s s.length).length co) wr ∧ NewW w (thinTo s s.length) (.slice Ao (thinTo s s.length).length co) wr := ⟨hO.slP (by omega) (fun b h1 h2 => ⟨h1, h2⟩) (fun b h1 h2 => ⟨Nat.le_trans hf1.size h1, h2⟩), hO.newW (by omega) hf1.size (fun b hb => hb)⟩
        have HNW := Lib.hid hnew
        clear hnew hO hlen HTT
        go_wp2_with fail
        refine bodyPost_ret (v := .tuple #[.slice Ao (thinTo s s.length).length co, .int .i64 0]) (by simp [results, Tryd.results38, go_sem]) rfl ⟨_, by rw [HE.out], frm_trans hf1 hfr, ?_⟩
        rw [HL.out]
        exact HNW.out
  · have hne : (setE l != 0) = true := by simp [hE]
    have HL : Hid (leastT l = []) := by unfold Hid leastT; rw [if_neg hE]
    clear hE hn hnw
    go_wp2_with fail
    refine bodyPost_ret (v := .tuple #[.slice none 0 0, .int .i64 (setE l)]) (by simp [results, Tryd.results38, go_sem]) rfl ⟨_, rfl, hf1, ?_⟩
    rw [HL.out]
    exact ⟨NewSet.nil _ _, NewW.nil _ _⟩
end Go.Proofs.YtmdgoalekkkpnaaDoor
