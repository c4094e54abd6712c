/- The reference's Least, the law's same, and the law InterSet. -/
import Derived.Test.YtmdgoalekkkpnaaDoorRefSet2
import Derived.Test.YtmdgoalekkkpnaaDoorAlive
import Derived.Test.YtmdgoalekkkpnaaDoorSame
import Derived.Test.YtmdgoalekkkpnaaDoorSort
import Derived.Test.YtmdgoalekkkpnaaDoorOpenFit
set_option linter.unusedVariables false
set_option linter.unusedSimpArgs false
namespace Go.Proofs.YtmdgoalekkkpnaaDoor
open Go.RowKit

set_option maxRecDepth 100000 in
theorem rleast_calls (l : List Ty) (w : World) (v : Value) (hv : SetO w l [v]) (hfit : ∀ t ∈ l, t.Fit) :
    Calls Tryd.prog 39 #[v] w fun e w' => ∃ u, e = .returned (.tuple #[u, .int .i64 (setE l)]) ∧ w.grownBy w' none ∧ SetO w' (leastT l) [u] := by
  have hc := rset_calls l w v hv hfit
  obtain ⟨A, c, rfl, _, _⟩ := (SetO.sl hv).val
  have HC := Lib.hid hc
  have hle : Hid (setE l = 0 → l.length ≤ 4096) := fun h => by
    unfold setE at h
    by_cases h4 : 4096 < l.length
    · rw [if_pos h4] at h; simp at h
    · omega
  clear hc hv hfit
  go_enter Tryd.func39, Tryd.ntmps39
  go_wp2_with fail
  refine HC.out.mono ?_
  rintro e w1 ⟨u, rfl, hf1, hn⟩
  by_cases hE : setE l = 0
  · have hne : (setE l != 0) = false := by simp [hE]
    have HL : Hid (leastT l = thinTo (setT l) (setT l).length) := by unfold Hid leastT; rw [if_pos hE]
    have HT : Hid ((setT l).length ≤ 4096) := by
      have h1 : setT l = setL Ty.cmp l := by unfold setT; rw [if_pos hE]
      have h2 := setL_len Ty.cmp l
      have h3 := hle.out hE
      unfold Hid
      rw [h1]
      omega
    have HE := Lib.hid hE
    clear hE
    obtain ⟨A2, c2, rfl, _, _⟩ := hn.val
    have HN : Hid (SetO w1 (setT l) [.slice A2 (setT l).length c2]) := ⟨_, rfl, hn.move (fun b hb => hb.2) (fun _ _ => rfl) (fun t _ cs h => h.move (fun b hb => hb.2) fun _ _ => rfl)⟩
    clear hn
    go_wp2_with fail
    refine (thin_calls (setT l) _ _ HN.out HT.out).mono ?_
    rintro e w2 ⟨u2, rfl, hf2, hr2⟩
    obtain ⟨A3, c3, rfl, _, _⟩ := (SetO.sl hr2).val
    have HR2 := Lib.hid hr2
    clear hr2
    go_wp2_with fail
    refine bodyPost_ret (v := .tuple #[.slice A3 (thinTo (setT l) (setT l).length).length c3, .int .i64 0]) (by simp [results, Tryd.results39, go_sem]) rfl ⟨_, by rw [HE.out], frm_trans hf1 hf2, ?_⟩
    rw [HL.out]
    exact HR2.out
  · have hne : (setE l != 0) = true := by simp [hE]
    have HL : Hid (leastT l = []) := by unfold Hid leastT; rw [if_neg hE]
    clear hE hn
    go_wp2_with fail
    refine bodyPost_ret (v := .tuple #[.slice none 0 0, .int .i64 (setE l)]) (by simp [results, Tryd.results39, go_sem]) rfl ⟨_, rfl, hf1, ?_⟩
    rw [HL.out]
    exact ⟨_, rfl, none, 0, rfl, by simp, by simp, by simp⟩

def sameL : List Ty → List Ty → Bool
  | [], [] => true
  | x :: a, y :: b => Ty.same x y && sameL a b
  | _, _ => false
theorem sameL_len : ∀ a b : List Ty, a.length ≠ b.length → sameL a b = false
  | [], [], h => by simp at h
  | [], _ :: _, _ => rfl
  | _ :: _, [], _ => rfl
  | x :: a, y :: b, h => by rw [sameL, sameL_len a b (by simpa using h), Bool.and_false]
theorem sameL_drop (a b : List Ty) (k : Nat) (h : k < a.length) (h' : k < b.length) : sameL (a.drop k) (b.drop k) = (Ty.same a[k] b[k] && sameL (a.drop (k + 1)) (b.drop (k + 1))) := by
  rw [List.drop_eq_getElem_cons h, List.drop_eq_getElem_cons h', sameL]

set_option maxRecDepth 100000 in
set_option maxHeartbeats 400000 in
theorem lsame_calls (a b : List Ty) (w : World) (v u : Value) (hv : SetO w a [v]) (hu : SetO w b [u]) : Calls Tryd.prog 40 #[v, u] w (Ret w (.bool (sameL a b))) := by
  have hs := SetO.sl hv
  have ht := SetO.sl hu
  obtain ⟨A, c, rfl, hc, hm⟩ := hs.val
  obtain ⟨A2, c2, rfl, hc2, hm2⟩ := ht.val
  have HS := Lib.hid hs
  have HT := Lib.hid ht
  clear hs ht hv hu
  by_cases hl : a.length = b.length
  · have hne : (a.length != b.length) = false := by simp [hl]
    have hne2 : ((a.length : Int) != (b.length : Int)) = false := by simp [hl]
    have HL := Lib.hid hl
    clear hl
    go_enter Tryd.func40, Tryd.ntmps40
    go_wp2_with fail
    go_loopw [13] (fun i wr => ∃ k : Nat, k ≤ a.length ∧ i = .int .i64 k ∧ w.grownBy wr none ∧ Hid (sameL a b = sameL (a.drop k) (b.drop k))) (fun i _ => a.length - (intOf i).toNat)
    case atStart => exact ⟨0, Nat.zero_le _, rfl, frm_refl _ _, rfl⟩
    case round =>
      obtain ⟨k, hk, rfl, hfr, HD⟩ := hrel
      by_cases hlt : k < a.length
      · have hlt2 : k < b.length := by rw [← HL.out]; exact hlt
        obtain ⟨o1, o2, p0, p1, rfl, hb, hp0, hp1, hpt⟩ := (HS.out.frm hfr stays_ty).at2 k hlt
        obtain ⟨s1, A1, n1, c1, rfl, rfl⟩ := hpt.vals
        obtain ⟨o3, o4, q0, q1, rfl, hb2, hq0, hq1, hqt⟩ := (HT.out.frm hfr stays_ty).at2 k hlt2
        obtain ⟨s2, A3, n3, c3, rfl, rfl⟩ := hqt.vals
        have HP := Lib.hid hpt
        have HQ := Lib.hid hqt
        have hd := Lib.hid (sameL_drop a b k hlt hlt2)
        clear hpt hqt
        generalize a[k] = x at *
        generalize b[k] = y at *
        go_wp2_with fail
        go_still_tail 8, (by kernel_rfl)
        go_wp2_with fail
        refine (rsame_calls x y _ _ _ _ _ (stays_ty _ _ _ _ (frm_drew _) HP.out) (stays_ty _ _ _ _ (frm_drew _) HQ.out)).mono ?_
        rintro e w1 ⟨rfl, hf1⟩
        have hfr1 := frm_trans hfr (frm_trans (frm_drew _) hf1)
        cases hs : Ty.same x y
        · have HR : Hid (sameL a b = false) := by unfold Hid; rw [HD.out, hd.out, hs]; rfl
          clear hs
          go_wp2_with fail
          exact bodyPost_ret (results_tmp rfl _ _ _) rfl ⟨by rw [HR.out]; rfl, hfr1⟩
        · have HR : Hid (sameL a b = sameL (a.drop (k + 1)) (b.drop (k + 1))) := by unfold Hid; rw [HD.out, hd.out, hs]; rfl
          clear hs
          go_wp2_with fail
          exact ⟨⟨k + 1, by omega, by go_num, hfr1, HR⟩, by simp [intOf]; omega⟩
      · obtain rfl : k = a.length := by omega
        have HR : Hid (sameL a b = true) := by
          have hl2 := HL.out
          unfold Hid
          rw [HD.out, List.drop_length, List.drop_eq_nil_of_le (by omega)]
          rfl
        go_wp2_with fail
        exact bodyPost_ret (results_tmp rfl _ _ _) rfl ⟨by rw [HR.out]; rfl, hfr⟩
  · have hne : (a.length != b.length) = true := by simp [hl]
    have hne2 : ((a.length : Int) != (b.length : Int)) = true := by simp; omega
    have HR := Lib.hid (sameL_len a b hl)
    clear hl
    go_enter Tryd.func40, Tryd.ntmps40
    go_wp2_with fail
    exact bodyPost_ret (results_tmp rfl _ _ _) rfl ⟨by rw [HR.out]; rfl, frm_refl _ _⟩

section
open Go.ChangeShapes Go.WideShapes
variable {H : Type} {enc : TypeId × Value → H} {W : World} {sp : Nat → Bool} {hd : Bool}
set_option maxRecDepth 100000 in
/-- A list of types, as an argument, with its rows' bytes. -/
theorem arg_tys2 {base : Nat} {r : Reach} {v : Value} {d : DataW H} {p : List MemPlace} (hv : Value.okWide Tryd.prog W r base 36 v) (h : DataW.Trod enc Tryd.prog W 0 sp hd 36 v d p)
    (hw : ∀ n ∈ d.weights Tryd.prog 36, n ≤ reachBytes) : ∃ l, SetO W l [v] ∧ (∀ t ∈ l, t.Fit) ∧ l.length * 32 ≤ 140737488351232 := by
  obtain ⟨fuel, hf⟩ := h
  obtain ⟨l2, v2, hv2, h2, hby2, hq2⟩ := open_sl2 (r := TyO W) (q := TyD) Tryd.underlying36 cells_ty (by omega) bytes_ty (by omega) fuel (fun m2 hm2 ds2 z2 hz2 hw2 => open_ty2 m2 ds2 z2 hz2 hw2) _ _ hf hw
  obtain ⟨A, n, c, rfl⟩ := okWide_slice Tryd.underlying36 hv
  obtain rfl : Value.slice A n c = v2 := by simpa [Value.cells] using hv2
  refine ⟨l2, ⟨_, rfl, h2⟩, ?_, hby2⟩
  rcases hq2 with ⟨rfl, _⟩ | ⟨ds, spare, _, hln, hqq⟩
  · simp
  · exact (set_bulk l2 ds hln hqq).2.2
end

theorem sameL_self : ∀ a : List Ty, (∀ t ∈ a, t.large = false) → sameL a a = true
  | [], _ => rfl
  | x :: a, h => by
    rw [sameL, sameL_self a (fun t ht => h t (by simp [ht])), Ty.same, h x (by simp), Ty.cmp_self]
    rfl
theorem setT_small (l : List Ty) : ∀ t ∈ setT l, t.large = false := by
  intro t ht
  unfold setT at ht
  by_cases h : setE l = 0
  · rw [if_pos h, setL_mem ord_ty] at ht
    unfold setE at h
    by_cases h4 : 4096 < l.length
    · rw [if_pos h4] at h; simp at h
    · rw [if_neg h4] at h
      cases hl : t.large
      · rfl
      · rw [if_pos (List.any_eq_true.2 ⟨t, ht, hl⟩)] at h; simp at h
  · rw [if_neg h] at ht; cases ht
theorem thinTo_mem (l : List Ty) : ∀ i, ∀ t ∈ thinTo l i, t ∈ l
  | 0, t, h => by simp [thinTo] at h
  | i + 1, t, h => by
    unfold thinTo at h
    rcases List.mem_append.1 h with h | h
    · exact thinTo_mem l i t h
    · split at h
      · cases h
      · cases hi : l[i]? with
        | none => rw [hi] at h; simp at h
        | some y =>
          rw [hi] at h
          simp at h
          subst h
          exact List.mem_of_getElem? hi
theorem leastT_small (l : List Ty) : ∀ t ∈ leastT l, t.large = false := by
  intro t ht
  unfold leastT at ht
  split at ht
  · exact setT_small l t (thinTo_mem _ _ t ht)
  · cases ht
theorem NewSet.set {w w' : World} {ts : List Ty} {v : Value} (h : NewSet w ts v w') : SetO w' ts [v] := ⟨_, rfl, h.move (fun b hb => hb.2) (fun _ _ => rfl) (fun t _ cs h => h.move (fun b hb => hb.2) fun _ _ => rfl)⟩

set_option maxRecDepth 100000 in
set_option maxHeartbeats 2000000 in
theorem lset_calls (w : World) (l : List Ty) (v : Value) (hv : SetO w l [v]) (hfit : ∀ t ∈ l, t.Fit) (h32 : l.length * 32 ≤ 140737488351232) (htab : Lib.TabIs Tryd.prog w "internal/strconv.uint64pow10" .u64 Lib.pow10Tab) :
    Calls Tryd.prog 12 #[v] w (Ret w (.bool true)) := by
  have HT : Hid (Tab w.heap.size w) := Lib.tabBelow_of_tabIs htab
  clear htab
  have HV := Lib.hid hv
  have HF := Lib.hid hfit
  obtain ⟨A, c, rfl, _, _⟩ := (SetO.sl hv).val
  clear hv hfit
  by_cases h300 : 300 < l.length ∧ l.length ≤ 4096
  · obtain ⟨h1, h2⟩ := h300
    have h3 : (300 : Int) < l.length := by omega
    have h4 : (l.length : Int) ≤ 4096 := by omega
    go_enter Tryd.func12, Tryd.ntmps12
    go_wp2_with fail
    refine (alive_calls _ (HT.out.step (frm_below (frm_refl _ _) (Nat.le_refl _))).here).mono ?_
    rintro e w9 ⟨rfl, g9⟩
    go_wp2_with fail
    exact bodyPost_ret (results_tmp rfl _ _ _) rfl ⟨rfl, g9⟩
  · have hcase : (¬ (300 : Int) < l.length) ∨ ((300 : Int) < l.length ∧ ¬ (l.length : Int) ≤ 4096) := by omega
    clear h300
    have main : ∀ K : Prop, K → K := fun _ h => h
    rcases hcase with hc1 | ⟨hc1, hc2⟩
    all_goals
      go_enter Tryd.func12, Tryd.ntmps12
      go_wp2_with fail
      refine (set_calls l _ _ HV.out HF.out h32).mono ?_
      rintro e w1 ⟨u1, rfl, g1, n1⟩
      have S1 := Lib.hid n1.set
      clear n1
      go_wp2_with fail
      refine (rset_calls l _ _ (stays_set _ _ _ _ g1 HV.out) HF.out).mono ?_
      rintro e w2 ⟨u2, rfl, g2, n2⟩
      have hf2 := frm_trans g1 g2
      have S2 := Lib.hid n2.set
      clear n2
      go_wp2_with fail
      refine (least_calls l _ _ (stays_set _ _ _ _ hf2 HV.out) HF.out h32).mono ?_
      rintro e w3 ⟨u3, rfl, g3, n3⟩
      have hf3 := frm_trans hf2 g3
      have S3 := Lib.hid n3.set
      clear n3
      go_wp2_with fail
      refine (rleast_calls l _ _ (stays_set _ _ _ _ hf3 HV.out) HF.out).mono ?_
      rintro e w4 ⟨u4, rfl, g4, n4⟩
      have hf4 := frm_trans hf3 g4
      have S4 := Lib.hid n4
      clear n4
      generalize setE l = n at *
      have heq : (n == n) = true := by simp
      go_wp2_with fail
      refine (lsame_calls (setT l) (setT l) _ _ _ (stays_set _ _ _ _ (frm_trans g2 (frm_trans g3 g4)) S1.out) (stays_set _ _ _ _ (frm_trans g3 g4) S2.out)).mono ?_
      rintro e w5 ⟨rfl, g5⟩
      rw [sameL_self _ (setT_small l)]
      have hf5 := frm_trans hf4 g5
      go_wp2_with fail
      refine (lsame_calls (leastT l) (leastT l) _ _ _ (stays_set _ _ _ _ (frm_trans g4 g5) S3.out) (stays_set _ _ _ _ g5 S4.out)).mono ?_
      rintro e w6 ⟨rfl, g6⟩
      rw [sameL_self _ (leastT_small l)]
      have hf6 := frm_trans hf5 g6
      go_wp2_with fail
      refine (alive_calls _ (HT.out.step (frm_below hf6 (Nat.le_refl _))).here).mono ?_
      rintro e w9 ⟨rfl, g9⟩
      go_wp2_with fail
      exact bodyPost_ret (results_tmp rfl _ _ _) rfl ⟨rfl, frm_trans hf6 g9⟩
end Go.Proofs.YtmdgoalekkkpnaaDoor
