/- inter.Set: the types of a list in order, each once. -/
import Derived.Test.YtmdgoalekkkpnaaDoorSetC
import Derived.Test.YtmdgoalekkkpnaaDoorCopyI
import Derived.Test.YtmdgoalekkkpnaaDoorCheckSet
import Derived.Test.YtmdgoalekkkpnaaDoorShelf
set_option linter.unusedVariables false
set_option linter.unusedSimpArgs false
namespace Go.Proofs.YtmdgoalekkkpnaaDoor
open Go.RowKit

theorem insertion_none (A : Option Addr) (c : Nat) (w : World) : Calls Tryd.prog 102 #[.slice A 0 c, .int .i64 0, .int .i64 0, .func (.func 55) #[] #[]] w fun e w' => e = .returned (.tuple #[]) ∧ w = w' := by
  go_enter Tryd.func102, Tryd.ntmps102
  go_wp2_with fail
  refine wp_loop_rounds 1 ?_
  rw [rounds_succ]
  go_wp2_with fail
  exact bodyPost_end (results_none rfl _ _ _) rfl ⟨rfl, rfl⟩
theorem pdq_none (A : Option Addr) (c : Nat) (w : World) (n : Int) : Calls Tryd.prog 93 #[.slice A 0 c, .int .i64 0, .int .i64 0, .int .i64 n, .func (.func 55) #[] #[]] w fun e w' => e = .returned (.tuple #[]) ∧ w = w' := by
  go_enter Tryd.func93, Tryd.ntmps93
  go_wp2_with fail
  refine wp_loop_rounds 1 ?_
  rw [rounds_succ]
  go_wp2_with fail
  refine (insertion_none _ _ _).mono ?_
  rintro e w1 ⟨rfl, rfl⟩
  go_wp2_with fail
  exact bodyPost_ret (results_none rfl _ _ _) rfl ⟨rfl, rfl⟩
theorem sort_none (A : Option Addr) (c : Nat) (w : World) : Calls Tryd.prog 67 #[.slice A 0 c, .func (.func 55) #[] #[]] w fun e w' => e = .returned (.tuple #[]) ∧ w = w' := by
  go_enter Tryd.func67, Tryd.ntmps67
  go_wp2_with fail
  refine (Tryd.bits_Len 0 _ (by omega) (by omega)).mono ?_
  rintro e w1 ⟨rfl, rfl⟩
  generalize ((Lib.bitLen (Int.toNat 0) : Nat) : Int) = n
  go_wp2_with fail
  refine (pdq_none _ _ _ _).mono ?_
  rintro e w1 ⟨rfl, rfl⟩
  go_wp2_with fail
  exact bodyPost_end (results_none rfl _ _ _) rfl ⟨rfl, rfl⟩

theorem compact_none (A : Option Addr) (c : Nat) (w : World) : Calls Tryd.prog 68 #[.slice A 0 c, .func (.func 54) #[] #[]] w fun e w' => e = .returned (.slice A 0 c) ∧ w = w' := by
  go_enter Tryd.func68, Tryd.ntmps68
  go_wp2_with fail
  exact bodyPost_ret (results_tmp rfl _ _ _) rfl ⟨rfl, rfl⟩

/-- What Set says of a list. -/
def setE (l : List Ty) : Int := if 4096 < l.length then 3 else if l.any Ty.large then 12 else 0
def setT (l : List Ty) : List Ty := if setE l = 0 then setL Ty.cmp l else []
/-- A list of types in new memory. -/
def NewSet (w : World) (ts : List Ty) (v : Value) (w' : World) : Prop := Sl (fun b => w.heap.size ≤ b ∧ b < w'.heap.size) w' 2 (TyR (fun b => w.heap.size ≤ b ∧ b < w'.heap.size) w') ts v
theorem NewSet.nil (w w' : World) : NewSet w [] (.slice none 0 0) w' := ⟨none, 0, rfl, by simp, by simp, by simp⟩
theorem RowT.sl {S : Nat → Prop} {w : World} {g c : Nat} {ts : List Ty} (h : RowT S w g ts) (hc : ts.length ≤ c) (hm : ts.length ≤ 140737488351232) {S' : Nat → Prop} (hS : ∀ b, S b → S' b) (hg : S' g) :
    Sl S' w 2 (TyR S' w) ts (.slice (some ⟨g, 0, none⟩) ts.length c) := by
  refine ⟨_, c, rfl, hc, hm, fun h0 => ⟨g, 0, rfl, hg, fun i hi => ?_⟩⟩
  obtain ⟨v0, v1, c0, c1, _, _, ht⟩ := h i hi
  refine ⟨[v0, v1], rfl, fun j hj => ?_, ht.move hS fun _ _ => rfl⟩
  match j with
  | 0 => simpa using c0
  | 1 => simpa using c1

set_option maxRecDepth 100000 in
set_option maxHeartbeats 1000000 in
theorem set_calls (l : List Ty) (w : World) (v : Value) (hv : SetO w l [v]) (hfit : ∀ t ∈ l, t.Fit) (h32 : l.length * 32 ≤ 140737488351232) :
    Calls Tryd.prog 36 #[v] w fun e w' => ∃ u, e = .returned (.tuple #[u, .int .i64 (setE l)]) ∧ w.grownBy w' none ∧ NewSet w (setT l) u w' := by
  have hs := SetO.sl hv
  obtain ⟨A, c, rfl, hc, hm⟩ := hs.val
  have HS := Lib.hid hs
  have HV := Lib.hid hv
  have HF := Lib.hid hfit
  clear hs hv hfit
  by_cases hlong : 4096 < l.length
  · have hE : Hid (setE l = 3) := by unfold Hid setE; rw [if_pos hlong]
    have hl2 : (4096 : Int) < l.length := by omega
    go_enter Tryd.func36, Tryd.ntmps36
    go_wp2_with fail
    refine bodyPost_ret (v := .tuple #[.slice none 0 0, .int .i64 3]) (by simp [results, Tryd.results36, go_sem]) rfl ⟨_, by rw [hE.out], frm_refl _ _, ?_⟩
    unfold setT
    rw [hE.out, if_neg (by omega)]
    exact NewSet.nil _ _
  · go_enter Tryd.func36, Tryd.ntmps36
    go_wp2_with fail
    refine (containsLarge_calls l _ _ HS.out).mono ?_
    rintro e w1 ⟨rfl, hf1⟩
    cases hl : l.any Ty.large
    · have hE : Hid (setE l = 0) := by unfold Hid setE; rw [if_neg hlong, hl, if_neg (by simp)]
      have hT : Hid (setT l = setL Ty.cmp l) := by unfold Hid setT; rw [hE.out, if_pos rfl]
      clear hl
      go_wp2_with fail
      refine (icopies_calls l (fun t _ => icopy_calls t) _ _ (stays_set _ _ _ _ hf1 HV.out) HF.out h32).mono ?_
      rintro e w2 ⟨u, rfl, hf2, ho⟩
      have hf12 := frm_trans hf1 hf2
      by_cases h0 : l = []
      · subst h0
        obtain ⟨Au, cu, rfl, _⟩ := ho.val
        have hC : Hid (∀ w : World, Calls Tryd.prog 68 #[.slice Au 0 cu, .func (.func 54) #[] #[]] w fun e w' => e = .returned (.slice Au 0 cu) ∧ w = w') := compact_none Au cu
        clear ho
        go_wp2_with fail
        refine (sort_none Au cu _).mono ?_
        rintro e w3 ⟨rfl, rfl⟩
        go_wp2_with fail
        refine (hC.out _).mono ?_
        rintro e w3 ⟨rfl, rfl⟩
        go_wp2_with fail
        refine bodyPost_ret (v := .tuple #[.slice Au 0 cu, .int .i64 0]) (by simp [results, Tryd.results36, go_sem]) rfl ⟨_, by rw [hE.out], hf12, ?_⟩
        rw [hT.out]
        exact ⟨Au, cu, rfl, by simp [setL], by simp [setL], by simp [setL]⟩
      · have hlen0 : 0 < l.length := List.length_pos_iff.2 h0
        obtain ⟨g, cu, rfl, hcu⟩ : ∃ g cu, u = .slice (some ⟨g, 0, none⟩) l.length cu ∧ l.length ≤ cu := by
          obtain ⟨inner, ⟨hl, ho⟩, _⟩ := ho
          rcases ho with ⟨_, h⟩ | ⟨g, cap, cur, h, _, _, hcap, _⟩
          · omega
          · exact ⟨g, cap, h, hcap⟩
        have hgl := ho.lt g rfl
        have hrow := ho.rowT
        have HSup : Hid (∀ b, Sup (fun b => w1.heap.size ≤ b) w2 (.slice (some ⟨g, 0, none⟩) l.length cu) b → b < w2.heap.size ∧ b ≠ g) := fun b hb => ⟨hb.2.1, fun e => hb.2.2 (by rw [e]; rfl)⟩
        have HSup1 : Hid (∀ b, Sup (fun b => w1.heap.size ≤ b) w2 (.slice (some ⟨g, 0, none⟩) l.length cu) b → w1.heap.size ≤ b) := fun b hb => hb.1
        clear ho
        generalize (Sup (fun b => w1.heap.size ≤ b) w2 (.slice (some ⟨g, 0, none⟩) l.length cu)) = S at *
        have HRow := Lib.hid hrow
        clear hrow
        have hl47 : l.length ≤ 140737488351232 := hm
        go_wp2_with fail
        refine (sort_calls HSup.out hgl.2 HRow.out hlen0 hl47).mono ?_
        rintro e w3 ⟨rfl, hf3, ts, hp, hso, hr3⟩
        have hlen : ts.length = l.length := hp.length_eq
        have hset : Hid (cpt eqT ts = setL Ty.cmp l) := cpt_setL ord_ty hp hso
        have hgl3 : g < w3.heap.size := Nat.lt_of_lt_of_le hgl.2 hf3.size
        have HS3 : Hid (∀ b, S b → b < w3.heap.size ∧ b ≠ g) := fun b hb => ⟨Nat.lt_of_lt_of_le (HSup.out b hb).1 hf3.size, (HSup.out b hb).2⟩
        have hcc := compact_calls (cap := cu) HS3.out hgl3 hr3 (by omega) (by omega)
        rw [hlen] at hcc
        have HCC := Lib.hid hcc
        clear hcc hr3 hso
        go_wp2_with fail
        refine HCC.out.mono ?_
        rintro e w4 ⟨rfl, hf4, hr4⟩
        rw [hset.out] at hr4
        have hle : (setL Ty.cmp l).length ≤ l.length := by
          rw [← hset.out, ← hlen]
          exact cpt_length_le _ _
        have hLE : Hid ((cpt eqT ts).length = (setL Ty.cmp l).length) := by unfold Hid; rw [hset.out]
        rw [hLE.out]
        clear hlen
        have HR4 := Lib.hid hr4
        clear hr4
        go_wp2_with fail
        have hfr : w.grownBy w4 none := frm_new (frm_new hf12 (Nat.le_trans hf1.size hgl.1) hf3) (Nat.le_trans hf1.size hgl.1) hf4
        refine bodyPost_ret (v := .tuple #[.slice (some ⟨g, 0, none⟩) (setL Ty.cmp l).length cu, .int .i64 0]) (by simp [results, Tryd.results36, go_sem]) rfl ⟨_, by rw [hE.out], hfr, ?_⟩
        rw [hT.out]
        have s1 := hf1.size
        have s3 := hf3.size
        have s4 := hf4.size
        exact HR4.out.sl (by omega) (by omega) (fun b hb => ⟨Nat.le_trans s1 (HSup1.out b hb), by have := (HSup.out b hb).1; omega⟩) ⟨by omega, by omega⟩
    · have hE : Hid (setE l = 12) := by unfold Hid setE; rw [if_neg hlong, hl, if_pos rfl]
      clear hl
      go_wp2_with fail
      refine bodyPost_ret (v := .tuple #[.slice none 0 0, .int .i64 12]) (by simp [results, Tryd.results36, go_sem]) rfl ⟨_, by rw [hE.out], hf1, ?_⟩
      unfold setT
      rw [hE.out, if_neg (by omega)]
      exact NewSet.nil _ _
end Go.Proofs.YtmdgoalekkkpnaaDoor
