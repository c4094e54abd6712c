/- The reference's text of a type. -/
import Derived.Test.YtmdgoalekkkpnaaDoorWrite
import Derived.Test.YtmdgoalekkkpnaaDoorNodes
import Derived.Lib.ItoaLen
set_option linter.unusedVariables false
set_option linter.unusedSimpArgs false
namespace Go.Proofs.YtmdgoalekkkpnaaDoor
open Go.RowKit

theorem bs_append (a b : List UInt8) : bs a ++ bs b = bs (a ++ b) := by
  apply ByteArray.ext
  simp [bs]
theorem digit_str (n : Nat) (h : n < 10) : ({ data := #[48, 49, 50, 51, 52, 53, 54, 55, 56, 57] } : ByteArray).extract n (n + 1) = bs (Lib.decDigits n) := by
  rw [Lib.decDigits_one h]
  match n, h with
  | 0, _ => rfl
  | 1, _ => rfl
  | 2, _ => rfl
  | 3, _ => rfl
  | 4, _ => rfl
  | 5, _ => rfl
  | 6, _ => rfl
  | 7, _ => rfl
  | 8, _ => rfl
  | 9, _ => rfl
theorem dec_len (n : Nat) (h : n ≤ 9223372036854775807) : (Lib.decDigits n).length ≤ 20 := by
  rw [Lib.decDigits_length]
  exact Lib.nDigits_le20 n (by omega)

set_option maxRecDepth 20000 in
theorem rdec_calls : ∀ (n : Nat) (w : World), n ≤ 9223372036854775807 →
    Calls Tryd.prog 98 #[.int .i64 n] w (Ret w (.string (bs (Lib.decDigits n)))) := by
  intro n
  induction n using Nat.strongRecOn with
  | _ n ih =>
    intro w hn
    have hfr := frm_refl w none
    by_cases hs : n < 10
    · have HD := Lib.hid (digit_str n hs)
      clear ih
      have f1 : (0 : Int) ≤ (n : Int) := by omega
      have f2 : (n : Int) ≤ (n : Int) + 1 := by omega
      have f3 : (n : Int) + 1 ≤ 10 := by omega
      have f4 : ((n : Int) + 1).toNat = n + 1 := by omega
      have f5 : (({ data := #[48, 49, 50, 51, 52, 53, 54, 55, 56, 57] } : ByteArray).size : Int) = 10 := rfl
      go_enter Tryd.func98, Tryd.ntmps98
      go_wp2_with fail
      refine bodyPost_ret (results_tmp rfl _ _ _) rfl ⟨?_, hfr⟩
      rw [← HD.out]
      rfl
    · have IH := Lib.hid ih
      clear ih
      go_enter Tryd.func98, Tryd.ntmps98
      go_wp2_with fail
      refine (IH.out (n / 10) (by omega) w (by omega)).mono ?_
      rintro e w1 ⟨rfl, hf1⟩
      go_wp2_with fail
      refine (IH.out (n % 10) (by omega) w1 (by omega)).mono ?_
      rintro e w2 ⟨rfl, hf2⟩
      have HE : Hid (bs (Lib.decDigits (n / 10)) ++ bs (Lib.decDigits (n % 10)) = bs (Lib.decDigits n)) := by
        unfold Hid
        rw [bs_append]
        congr 1
        conv => rhs; rw [Lib.decDigits, dif_neg hs]
        rw [Lib.decDigits_one (show n % 10 < 10 by omega)]
      have s1 : (bs (Lib.decDigits (n / 10))).size ≤ 20 := by
        rw [bs_size]
        exact dec_len _ (by omega)
      have s2 : (bs (Lib.decDigits (n % 10))).size ≤ 20 := by
        rw [bs_size]
        exact dec_len _ (by omega)
      generalize bs (Lib.decDigits (n / 10)) = x at *
      generalize bs (Lib.decDigits (n % 10)) = y at *
      go_wp2_with fail
      refine bodyPost_ret (results_tmp rfl _ _ _) rfl ⟨?_, frm_trans hf1 hf2⟩
      rw [← HE.out]
      rfl

theorem itoa_dec (n : Int) (h0 : -9223372036854775808 ≤ n) (h : n ≤ -10) : Lib.itoa n = Lib.itoa (n.tdiv 10) ++ Lib.decDigits (n.natAbs % 10) := by
  obtain ⟨u, rfl⟩ : ∃ u : Nat, n = -(u : Int) := ⟨n.natAbs, by omega⟩
  have hq : (-(u : Int)).tdiv 10 = -((u / 10 : Nat) : Int) := by
    rw [Int.neg_tdiv]
    simp [Int.tdiv_eq_ediv_of_nonneg]
  rw [hq, Lib.itoa_neg u (by omega), Lib.itoa_neg (u / 10) (by omega)]
  have hu : ¬ u < 10 := by omega
  conv => lhs; rw [Lib.decDigits, dif_neg hu]
  rw [show (-(u : Int)).natAbs = u by omega, Lib.decDigits_one (show u % 10 < 10 by omega)]
  rfl

set_option maxRecDepth 20000 in
theorem number_calls : ∀ (k : Nat) (n : Int) (w : World), n.natAbs ≤ k → -9223372036854775808 ≤ n → n ≤ 9223372036854775807 →
    Calls Tryd.prog 74 #[.int .i64 n] w (Ret w (.string (bs (Lib.itoa n)))) := by
  intro k
  induction k using Nat.strongRecOn with
  | _ k ih =>
    intro n w hk h0 h1
    have hfr := frm_refl w none
    by_cases hp : 0 ≤ n
    · obtain ⟨u, rfl⟩ : ∃ u : Nat, n = (u : Int) := ⟨n.toNat, by omega⟩
      have HE := Lib.hid (Lib.itoa_nonneg u)
      clear ih
      go_enter Tryd.func74, Tryd.ntmps74
      go_wp2_with fail
      refine (rdec_calls u _ (by omega)).mono ?_
      rintro e w1 ⟨rfl, hf1⟩
      go_wp2_with fail
      refine bodyPost_ret (results_tmp rfl _ _ _) rfl ⟨?_, hf1⟩
      rw [HE.out]
      rfl
    · by_cases hs : -10 < n
      · obtain ⟨u, rfl⟩ : ∃ u : Nat, n = -(u : Int) := ⟨n.natAbs, by omega⟩
        have HE : Hid (bs [45] ++ bs (Lib.decDigits u) = bs (Lib.itoa (-(u : Int)))) := by
          unfold Hid
          rw [bs_append, Lib.itoa_neg u (by omega)]
          rfl
        clear ih
        go_enter Tryd.func74, Tryd.ntmps74
        go_wp2_with fail
        refine (rdec_calls u _ (by omega)).mono ?_
        rintro e w1 ⟨rfl, hf1⟩
        have s1 : (bs (Lib.decDigits u)).size ≤ 20 := by
          rw [bs_size]
          exact dec_len _ (by omega)
        generalize bs (Lib.decDigits u) = x at *
        go_wp2_with fail
        refine bodyPost_ret (results_tmp rfl _ _ _) rfl ⟨?_, hf1⟩
        rw [← HE.out]
        rfl
      · have IH := Lib.hid ih
        clear ih
        go_enter Tryd.func74, Tryd.ntmps74
        have HQ : Hid (n.tdiv 10 = -((n.natAbs / 10 : Nat) : Int)) := by
          unfold Hid
          obtain ⟨u, rfl⟩ : ∃ u : Nat, n = -(u : Int) := ⟨n.natAbs, by omega⟩
          rw [Int.neg_tdiv, show (-(u : Int)).natAbs = u by omega]
          simp [Int.tdiv_eq_ediv_of_nonneg]
        have HE := Lib.hid (itoa_dec n h0 (by omega))
        go_wp2_with fail
        refine (IH.out (k - 1) (by omega) (n.tdiv 10) w (by rw [HQ.out]; omega) (by rw [HQ.out]; omega) (by rw [HQ.out]; omega)).mono ?_
        rintro e w1 ⟨rfl, hf1⟩
        have hm : -(n.tmod 10) = ((n.natAbs % 10 : Nat) : Int) := by
          have h3 := Int.tmod_add_tdiv_mul n 10
          have h4 := HQ.out
          omega
        have hm2 : ((n.natAbs % 10 : Nat) : Int) = (n.natAbs : Int) % 10 := by omega
        have HB := Lib.hid (bs_append (Lib.itoa (n.tdiv 10)) (Lib.decDigits (n.natAbs % 10)))
        have s1 : (bs (Lib.itoa (n.tdiv 10))).size ≤ 21 := by
          rw [bs_size]
          exact Lib.itoa_length_le _ (by rw [HQ.out]; omega) (by rw [HQ.out]; omega)
        have s2 : (bs (Lib.decDigits (n.natAbs % 10))).size ≤ 20 := by
          rw [bs_size]
          exact dec_len _ (by omega)
        go_wp2_with fail
        rw [← hm2]
        refine (rdec_calls (n.natAbs % 10) _ (by omega)).mono ?_
        rintro e w2 ⟨rfl, hf2⟩
        generalize bs (Lib.itoa (n.tdiv 10)) = x at *
        generalize bs (Lib.decDigits (n.natAbs % 10)) = y at *
        go_wp2_with fail
        refine bodyPost_ret (results_tmp rfl _ _ _) rfl ⟨?_, frm_trans hf1 hf2⟩
        rw [HE.out, ← HB.out]
        rfl

theorem bs_lit1 (c : UInt8) : ({ data := #[c] } : ByteArray) = bs [c] := rfl

set_option maxRecDepth 100000 in
set_option maxHeartbeats 1000000 in
theorem rtext_calls : ∀ (t : Ty) (w : World) (v0 v1 : Value), TyO w t [v0, v1] → t.text.length ≤ 140737488355328 →
    Calls Tryd.prog 48 #[.agg #[v0, v1]] w (Ret w (.string (bs t.text))) := by
  intro t
  induction t using Ty.ind with
  | h st args ih =>
    intro w v0 v1 ht hlen
    rw [TyO_mk] at ht
    obtain ⟨v, hcs, h1, h2, hs⟩ := ht
    obtain ⟨rfl, rfl⟩ : v0 = .int .i64 st ∧ v1 = v := by simpa using hcs
    obtain ⟨A, c, rfl, hc, hm⟩ := hs.val
    clear hcs
    have IH := Lib.hid ih
    clear ih
    have htx : (Ty.mk st args).text = Ty.textRows args ++ Lib.itoa st := by rw [Ty.text]
    have HTX := Lib.hid htx
    rw [htx, List.length_append] at hlen
    clear htx
    go_enter Tryd.func48, Tryd.ntmps48
    go_wp2_with fail
    go_loopw [3, 11] (fun s i wr => ∃ (k : Nat) (S : ByteArray), k ≤ args.length ∧ i = .int .i64 k ∧ s = .string S ∧ Hid (S = bs (Ty.textRows (args.take k))) ∧ w.grownBy wr none ∧ TwoAt wr w.heap.size (.int .i64 st) (.slice A args.length c) 24) (fun _ i _ => args.length - (intOf i).toNat)
    case atStart => exact ⟨0, _, Nat.zero_le _, rfl, rfl, rfl, frm_alloc _ _, TwoAt.new _ _ _ _⟩
    case round =>
      obtain ⟨k, S, hk, rfl, rfl, HS, hfr, hbox⟩ := hrel
      have hl1 := Ty.textRows_len args k
      have hsz : S.size ≤ 140737488355328 := by
        rw [HS.out, bs_size]
        omega
      by_cases hlt : k < args.length
      · obtain ⟨o, p, q, rfl, ho, hq, hqt⟩ := (hs.frm hfr stays_set).at1 k hlt
        have hqs := SetO.sl hqt
        obtain ⟨A2, c2, rfl, hc2, hm2⟩ := hqs.val
        have HR := Lib.hid (Ty.textRows_take args k hlt)
        have hl2 := Ty.textRows_len args (k + 1)
        rw [HR.out] at hl2
        simp only [List.length_append, List.length_cons, List.length_nil] at hl2
        have hma := List.getElem_mem hlt
        generalize args[k] = ts at *
        go_wp2_with fail
        obtain ⟨wo, rfl⟩ : ∃ wo : World, wo = wr := ⟨_, rfl⟩
        go_loopw [3, 19] (fun s i wr => ∃ (j : Nat) (S : ByteArray), j ≤ ts.length ∧ i = .int .i64 j ∧ s = .string S ∧ Hid (S = bs (Ty.textRows (args.take k) ++ [91] ++ Ty.textSet (ts.take j))) ∧ wo.grownBy wr none) (fun _ i _ => ts.length - (intOf i).toNat)
        case atStart => exact ⟨0, _, Nat.zero_le _, rfl, rfl, by unfold Hid; rw [HS.out, bs_lit1, bs_append]; simp [Ty.textSet], frm_refl _ _⟩
        case round =>
          obtain ⟨j, S2, hj, rfl, rfl, HS2, hfr2⟩ := hrel
          have hl3 := Ty.textSet_len j ts
          have hsz2 : S2.size ≤ 140737488355328 := by
            rw [HS2.out, bs_size]
            simp only [List.length_append, List.length_cons, List.length_nil]
            omega
          by_cases hlt2 : j < ts.length
          · obtain ⟨o2, p2, q0, q1, rfl, ho2, hq0, hq1, hxt⟩ := (hqs.frm hfr2 stays_ty).at2 j hlt2
            obtain ⟨s1, A1, n1, c1, rfl, rfl⟩ := hxt.vals
            have HT := Lib.hid (Ty.textSet_take ts j hlt2)
            have hl4 := Ty.textSet_len (j + 1) ts
            rw [HT.out] at hl4
            have hmt := List.getElem_mem hlt2
            generalize ts[j] = t at *
            have hf4 := frm_alloc wr (.cells #[.int .i64 s1, .slice A1 n1 c1] 24)
            by_cases hj0 : j = 0
            · have hjn : j ≤ 0 := by omega
              rw [if_pos hj0] at hl4
              simp only [List.append_nil, List.length_append] at hl4
              have HJ := Lib.hid hj0
              clear hj0
              go_wp2_with fail
              refine (IH.out _ hma _ hmt _ _ _ (stays_ty _ _ _ _ hf4 hxt) (by omega)).mono ?_
              rintro e w5 ⟨rfl, hf5⟩
              have hsz3 : (bs t.text).size ≤ 140737488355328 := by
                rw [bs_size]
                omega
              have HE : Hid (S2 ++ bs t.text = bs (Ty.textRows (args.take k) ++ [91] ++ Ty.textSet (ts.take (j + 1)))) := by
                unfold Hid
                rw [HS2.out, HT.out, if_pos HJ.out, bs_append]
                simp
              generalize bs t.text = Z at *
              go_wp2_with fail
              exact ⟨⟨j + 1, _, by omega, by go_num, rfl, HE, frm_trans hfr2 (frm_trans hf4 hf5)⟩, by simp [intOf]; omega⟩
            · have hjp : 0 < j := by omega
              rw [if_neg hj0] at hl4
              simp only [List.length_append, List.length_cons, List.length_nil] at hl4
              have HJ := Lib.hid hj0
              clear hj0
              go_wp2_with fail
              refine (IH.out _ hma _ hmt _ _ _ (stays_ty _ _ _ _ hf4 hxt) (by omega)).mono ?_
              rintro e w5 ⟨rfl, hf5⟩
              have hsz3 : (bs t.text).size ≤ 140737488355328 := by
                rw [bs_size]
                omega
              have HE : Hid (S2 ++ { data := #[44] } ++ bs t.text = bs (Ty.textRows (args.take k) ++ [91] ++ Ty.textSet (ts.take (j + 1)))) := by
                unfold Hid
                rw [HS2.out, HT.out, if_neg HJ.out, bs_lit1, bs_append, bs_append]
                simp
              generalize bs t.text = Z at *
              go_wp2_with fail
              exact ⟨⟨j + 1, _, by omega, by go_num, rfl, HE, frm_trans hfr2 (frm_trans hf4 hf5)⟩, by simp [intOf]; omega⟩
          · obtain rfl : j = ts.length := by omega
            have HE : Hid (S2 ++ { data := #[93] } = bs (Ty.textRows (args.take (k + 1)))) := by
              unfold Hid
              rw [HS2.out, HR.out, bs_lit1, bs_append, List.take_length]
              simp
            go_wp2_with fail
            exact ⟨⟨k + 1, _, by omega, by go_num, rfl, HE, frm_trans hfr hfr2, hbox.frm hfr2⟩, by simp [intOf]; omega⟩
      · obtain rfl : k = args.length := by omega
        obtain ⟨x1, x2, x3, x4⟩ := hbox.cells
        go_wp2_with fail
        refine (number_calls _ st wr (Nat.le_refl _) h1 h2).mono ?_
        rintro e w4 ⟨rfl, hf4⟩
        have hsz3 : (bs (Lib.itoa st)).size ≤ 21 := by
          rw [bs_size]
          exact Lib.itoa_length_le _ h1 h2
        have HE : Hid (S ++ bs (Lib.itoa st) = bs (Ty.mk st args).text) := by
          unfold Hid
          rw [HS.out, HTX.out, bs_append, List.take_length]
        generalize bs (Lib.itoa st) = Z at *
        go_wp2_with fail
        refine bodyPost_ret (results_tmp rfl _ _ _) rfl ⟨?_, frm_trans hfr hf4⟩
        rw [← HE.out]
        rfl
end Go.Proofs.YtmdgoalekkkpnaaDoor
