/- inter.Least: the types of a set than which no other one of them is stronger. -/
import Derived.Test.YtmdgoalekkkpnaaDoorSetI
import Derived.Test.YtmdgoalekkkpnaaDoorStrong
set_option linter.unusedVariables false
set_option linter.unusedSimpArgs false
namespace Go.Proofs.YtmdgoalekkkpnaaDoor
open Go.RowKit

def strongAt (l : List Ty) (k i : Nat) : Bool := match l[k]?, l[i]? with
  | some x, some t => Ty.strong x t
  | _, _ => false
/-- One of the first `n` makes the i-th one go. -/
def weakTo (l : List Ty) (i : Nat) : Nat → Bool
  | 0 => false
  | k + 1 => weakTo l i k || (k != i && strongAt l k i && (decide (k < i) || !strongAt l i k))
def thinTo (l : List Ty) : Nat → List Ty
  | 0 => []
  | i + 1 => thinTo l i ++ (if weakTo l i l.length then [] else l[i]?.toList)
theorem thinTo_length (l : List Ty) : ∀ i, (thinTo l i).length ≤ i
  | 0 => by simp [thinTo]
  | i + 1 => by
    have := thinTo_length l i
    have h1 : (l[i]?.toList).length ≤ 1 := by cases l[i]? <;> simp
    unfold thinTo
    split
    · simp; omega
    · simp only [List.length_append]; omega
theorem insL_len {α : Type} (f : α → α → Int) (x : α) : ∀ l : List α, (insL f x l).length ≤ l.length + 1
  | [] => by simp [insL]
  | y :: l => by
    unfold insL
    have := insL_len f x l
    split
    · simp only [List.length_cons]; omega
    · split <;> simp
theorem setL_len {α : Type} (f : α → α → Int) (l : List α) : (setL f l).length ≤ l.length := by
  have key : ∀ (l o : List α), (l.foldl (fun o x => insL f x o) o).length ≤ o.length + l.length := by
    intro l
    induction l with
    | nil => simp
    | cons x l ih =>
      intro o
      have h1 := ih (insL f x o)
      have h2 := insL_len f x o
      simp only [List.foldl_cons, List.length_cons]
      omega
  have := key l []
  simpa [setL] using this
def leastT (l : List Ty) : List Ty := if setE l = 0 then thinTo (setT l) (setT l).length else []

set_option maxRecDepth 100000 in
set_option maxHeartbeats 2000000 in
theorem least_calls (l : List Ty) (w : World) (v : Value) (hv : SetO w l [v]) (hfit : ∀ t ∈ l, t.Fit) (h32 : l.length * 32 ≤ 140737488351232) :
    Calls Tryd.prog 38 #[v] w fun e w' => ∃ u, e = .returned (.tuple #[u, .int .i64 (setE l)]) ∧ w.grownBy w' none ∧ NewSet w (leastT l) u w' := by
  have hc := set_calls l w v hv hfit h32
  obtain ⟨A, c, rfl, _, _⟩ := (SetO.sl hv).val
  have HC := Lib.hid hc
  have hle : Hid (setE l = 0 → l.length ≤ 4096) := fun h => by
    unfold setE at h
    by_cases h4 : 4096 < l.length
    · rw [if_pos h4] at h; simp at h
    · omega
  clear hc hv hfit
  go_enter Tryd.func38, Tryd.ntmps38
  go_wp2_with fail
  refine HC.out.mono ?_
  rintro e w1 ⟨u, rfl, hf1, hn⟩
  by_cases hE : setE l = 0
  · have hne : (setE l != 0) = false := by simp [hE]
    have HL : Hid (leastT l = thinTo (setT l) (setT l).length) := by unfold Hid leastT; rw [if_pos hE]
    have HT : Hid ((setT l).length ≤ 4096) := by
      have h1 : setT l = setL Ty.cmp l := by unfold setT; rw [if_pos hE]
      have h2 := setL_len Ty.cmp l
      have h3 := hle.out hE
      unfold Hid
      rw [h1]
      omega
    have HE := Lib.hid hE
    clear hE
    unfold NewSet at hn
    generalize setT l = s at *
    obtain ⟨A2, c2, rfl, hc2, hm2⟩ := hn.val
    have HN := Lib.hid hn
    clear hn
    go_wp2_with fail
    go_loopw [6, 22] (fun o i wr => ∃ k : Nat, k ≤ s.length ∧ i = .int .i64 k ∧ w1.grownBy wr none ∧ Own TyR wr w1.heap.size 24 2 (fun b => w.heap.size ≤ b) o (thinTo s k)) (fun _ i _ => s.length - (intOf i).toNat)
    case atStart => exact ⟨0, Nat.zero_le _, rfl, frm_refl _ _, Own.nil _ _ _ _ _ _⟩
    case round =>
      obtain ⟨k, hk, rfl, hfr, hO⟩ := hrel
      obtain ⟨Ao, co, rfl, hco⟩ := hO.val
      have hmv : Hid (∀ wq : World, w1.grownBy wq none → SlO wq 2 TyO s (.slice A2 s.length c2)) := fun wq hq => HN.out.move (fun b hb => Nat.lt_of_lt_of_le hb.2 hq.size) (fun b hb => frm_lt hq b hb.2) (fun t _ cs h => h.move (fun b hb => Nat.lt_of_lt_of_le hb.2 hq.size) (fun b hb => frm_lt hq b hb.2))
      by_cases hlt : k < s.length
      · obtain ⟨b, o, p0, p1, rfl, hb, hp0, hp1, hps⟩ := (HN.out.move (S' := fun b => w.heap.size ≤ b ∧ b < w1.heap.size) (w' := wr) (r' := TyR (fun b => w.heap.size ≤ b ∧ b < w1.heap.size) wr) (fun b hb => hb) (fun b hb => frm_lt hfr b hb.2) (fun t _ cs h => h.move (fun b hb => hb) (fun b hb => frm_lt hfr b hb.2))).at2 k hlt
        have hpt : TyO wr s[k] [p0, p1] := hps.move (fun b hb => Nat.lt_of_lt_of_le hb.2 hfr.size) (fun b hb => rfl)
        have HPS := Lib.hid hps
        clear hps
        obtain ⟨s1, A1, n1, c1, rfl, rfl⟩ := hpt.vals
        have HP := Lib.hid hpt
        have hsk : s[k]? = some s[k] := List.getElem?_eq_getElem hlt
        have HSK := Lib.hid hsk
        clear hpt hsk
        generalize s[k] = x at *
        go_wp2_with fail
        have hox := TwoAt.new wr (.int .i64 s1) (.slice A1 n1 c1) 24
        have hfr2 := frm_then_alloc hfr (.cells #[.int .i64 s1, .slice A1 n1 c1] 24)
        have hwx : wr.grownBy (wr.alloc (.cells #[.int .i64 s1, .slice A1 n1 c1] 24)) none := frm_alloc _ _
        generalize hwo : wr.alloc (.cells #[.int .i64 s1, .slice A1 n1 c1] 24) = wo at *
        clear hwo
        go_loopw [9, 29] (fun wv j wq => ∃ m : Nat, m ≤ s.length ∧ j = .int .i64 m ∧ wv = .bool (weakTo s k m) ∧ wo.grownBy wq none) (fun _ j _ => s.length - (intOf j).toNat)
        case atStart => exact ⟨0, Nat.zero_le _, rfl, rfl, frm_refl _ _⟩
        case round =>
          obtain ⟨m, hm, rfl, rfl, hfq⟩ := hrel
          obtain ⟨k1, k2, _, _⟩ := (hox.frm hfq).cells
          have kl := (hox.frm hfq).lt
          by_cases hlt2 : m < s.length
          · obtain ⟨b2, o2, q0, q1, he, hb2, hq0, hq1, hqt⟩ := (hmv.out _ (frm_trans hfr2 hfq)).at2 m hlt2
            injection he with he
            injection he with he1 he2 _
            subst he1 he2
            obtain ⟨s2, A3, n3, c3, rfl, rfl⟩ := hqt.vals
            have HQ := Lib.hid hqt
            have hsm : s[m]? = some s[m] := List.getElem?_eq_getElem hlt2
            have HSM := Lib.hid hsm
            clear hqt hsm
            generalize s[m] = y at *
            have hst1 : Hid (strongAt s m k = Ty.strong y x) := by unfold Hid strongAt; rw [HSM.out, HSK.out]
            have hst2 : Hid (strongAt s k m = Ty.strong x y) := by unfold Hid strongAt; rw [HSM.out, HSK.out]
            have hwk : Hid (weakTo s k (m + 1) = (weakTo s k m || (m != k && Ty.strong y x && (decide (m < k) || !Ty.strong x y)))) := by
              unfold Hid
              rw [weakTo, hst1.out, hst2.out]
            have hfa := frm_trans hfq (frm_alloc wr (.cells #[.int .i64 s2, .slice A3 n3 c3] 24))
            cases hw : weakTo s k m
            · have HW := Lib.hid hw
              by_cases hmk : m = k
              · have h1 : (m != k) = false := by simp [hmk]
                have h2 : ((m : Int) != (k : Int)) = false := by simp [hmk]
                have HR : Hid (weakTo s k (m + 1) = false) := by unfold Hid; rw [hwk.out, HW.out, h1]; rfl
                have H1 := Lib.hid hmk
                clear hmk
                go_wp2_with fail
                exact ⟨⟨m + 1, by omega, by go_num, by rw [HR.out], hfa⟩, by simp [intOf]; omega⟩
              · have h1 : (m != k) = true := by simp [hmk]
                have h2 : ((m : Int) != (k : Int)) = true := by simp; omega
                have hwk2 : Hid (weakTo s k (m + 1) = (Ty.strong y x && (decide (m < k) || !Ty.strong x y))) := by unfold Hid; rw [hwk.out, HW.out, h1]; simp
                have HMK := Lib.hid hmk
                clear hmk
                go_wp2_with fail
                refine (strong_calls y x _ _ _ _ _ (stays_ty _ _ _ _ (frm_alloc _ _) HQ.out) (stays_ty _ _ _ _ (frm_trans hwx (frm_then_alloc hfq _)) HP.out)).mono ?_
                rintro e w5 ⟨rfl, g5⟩
                have hf5 := frm_trans hfa g5
                cases hs1 : Ty.strong y x
                · have HR : Hid (weakTo s k (m + 1) = false) := by unfold Hid; rw [hwk2.out, hs1]; rfl
                  clear hs1
                  go_wp2_with fail
                  exact ⟨⟨m + 1, by omega, by go_num, by rw [HR.out], hf5⟩, by simp [intOf]; omega⟩
                · by_cases hlt3 : m < k
                  · have HR : Hid (weakTo s k (m + 1) = true) := by unfold Hid; rw [hwk2.out, hs1]; simp [hlt3]
                    have hlt4 : (m : Int) < k := by omega
                    clear hs1
                    go_wp2_with fail
                    exact ⟨⟨m + 1, by omega, by go_num, by rw [HR.out], hf5⟩, by simp [intOf]; omega⟩
                  · have HR : Hid (weakTo s k (m + 1) = !Ty.strong x y) := by unfold Hid; rw [hwk2.out, hs1]; simp [hlt3]
                    have hlt4 : ¬ (m : Int) < k := by omega
                    have hbx := ((TwoAt.new wr (.int .i64 s2) (.slice A3 n3 c3) 24).frm g5)
                    obtain ⟨z0, z1, _, _⟩ := hbx.cells
                    obtain ⟨y0, y1, _, _⟩ := (hox.frm hf5).cells
                    clear hs1 k1 k2 hq0 hq1
                    go_wp2_with fail
                    refine (strong_calls x y _ _ _ _ _ (stays_ty _ _ _ _ (frm_trans hwx hf5) HP.out) (stays_ty _ _ _ _ (frm_trans (frm_alloc _ _) g5) HQ.out)).mono ?_
                    rintro e w6 ⟨rfl, g6⟩
                    go_wp2_with fail
                    exact ⟨⟨m + 1, by omega, by go_num, by rw [HR.out], frm_trans hf5 g6⟩, by simp [intOf]; omega⟩
            · have HW := Lib.hid hw
              have HR : Hid (weakTo s k (m + 1) = true) := by unfold Hid; rw [hwk.out, HW.out]; rfl
              go_wp2_with fail
              exact ⟨⟨m + 1, by omega, by go_num, by rw [HR.out], hfa⟩, by simp [intOf]; omega⟩
          · obtain rfl : m = s.length := by omega
            have hfq2 := frm_trans hwx hfq
            have hO2 := hO.kept moves_ty hfq2 (ownNone _) (by simp)
            have hfr3 := frm_trans hfr hfq2
            cases hw : weakTo s k s.length
            · have HN2 : Hid (thinTo s (k + 1) = thinTo s k ++ [x]) := by
                unfold Hid
                rw [thinTo, hw, HSK.out]
                rfl
              clear hw
              have hlt5 := hO.lt
              have hlen := thinTo_length s k
              have HTT := HT.out
              have sz := hfr3.size
              have sz1 := hfr.size
              repeat ((fail_if_success at_builtin); first | go_values | go_skip | go_guarded | go_step | go_upon)
              have hf6 := frm_alloc wr (.cells #[.int .i64 s1, .slice A1 n1 c1] 24)
              have hO5 := hO2.kept moves_ty hf6 (ownNone _) (by simp)
              have htw := TwoAt.new wr (.int .i64 s1) (.slice A1 n1 c1) 24
              refine Own.append1 moves_ty elem_ty hO5 rfl _ _ rfl rfl rfl x [.int .i64 s1, .slice A1 n1 c1] rfl ?_ ?_ ?_ (by omega) (by omega) (by simp; omega) ?_
              · intro j u hj
                match j with
                | 0 => simp at hj; subst hj; exact htw.cells.1
                | 1 => simp at hj; subst hj; exact htw.cells.2.1
                | j + 2 => simp at hj
              · intro u hu
                simp at hu
                rcases hu with rfl | rfl <;> rfl
              · exact (HPS.out.move (S' := fun b => w.heap.size ≤ b ∧ b < w1.heap.size) (fun b hb => hb) (fun b hb => frm_lt (frm_trans hfq2 hf6) b (Nat.lt_of_lt_of_le hb.2 sz1))).move (fun b hb => ⟨hb.1, by have := hb.2; simp; omega, fun e => by have := (hlt5 b e.symm).1; have := hb.2; omega⟩) (fun b hb => rfl)
              intro v7 w7 hO8 hg7 hp7
              have hfr7 := frm_own (frm_trans hfr3 hf6) (fun b hb => (hlt5 b hb).1) hg7
              obtain ⟨A7, c7, rfl, _⟩ := hO8.val
              rw [← HN2.out] at hO8
              clear hlt5 hlen HTT hO hO2 hO5
              go_wp2_with fail
              exact ⟨⟨k + 1, by omega, by go_num, hfr7, by simpa [HN2.out] using hO8⟩, by simp [intOf]; omega⟩
            · have HN2 : Hid (thinTo s (k + 1) = thinTo s k) := by
                unfold Hid
                rw [thinTo, hw, if_pos rfl, List.append_nil]
              clear hw
              rw [← HN2.out] at hO2
              go_wp2_with fail
              exact ⟨⟨k + 1, by omega, by go_num, hfr3, by simpa [HN2.out] using hO2⟩, by simp [intOf]; omega⟩
      · obtain rfl : k = s.length := by omega
        have hlen := thinTo_length s s.length
        have HTT := HT.out
        have hnew : NewSet w (thinTo s s.length) (.slice Ao (thinTo s s.length).length co) wr := hO.sl moves_ty (by omega) (fun b h1 h2 => ⟨h1, h2⟩) (fun b h1 h2 => ⟨Nat.le_trans hf1.size h1, h2⟩)
        have HNW := Lib.hid hnew
        clear hnew hO hlen HTT
        go_wp2_with fail
        refine bodyPost_ret (v := .tuple #[.slice Ao (thinTo s s.length).length co, .int .i64 0]) (by simp [results, Tryd.results38, go_sem]) rfl ⟨_, by rw [HE.out], frm_trans hf1 hfr, ?_⟩
        rw [HL.out]
        exact HNW.out
  · have hne : (setE l != 0) = true := by simp [hE]
    have HL : Hid (leastT l = []) := by unfold Hid leastT; rw [if_neg hE]
    clear hE hn
    go_wp2_with fail
    refine bodyPost_ret (v := .tuple #[.slice none 0 0, .int .i64 (setE l)]) (by simp [results, Tryd.results38, go_sem]) rfl ⟨_, rfl, hf1, ?_⟩
    rw [HL.out]
    exact NewSet.nil _ _
end Go.Proofs.YtmdgoalekkkpnaaDoor
