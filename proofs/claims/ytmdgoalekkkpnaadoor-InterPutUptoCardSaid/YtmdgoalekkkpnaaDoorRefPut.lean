/- The reference's Put; InterPut. -/
import Derived.Test.YtmdgoalekkkpnaaDoorRefText
import Derived.Test.YtmdgoalekkkpnaaDoorAlive
set_option linter.unusedVariables false
set_option linter.unusedSimpArgs false
namespace Go.Proofs.YtmdgoalekkkpnaaDoor
open Go.RowKit

theorem rows_two (a : List (List Ty)) : 2 * a.length ≤ (Ty.textRows a).length := by
  induction a with
  | nil => simp [Ty.textRows]
  | cons x a ih =>
    simp [Ty.textRows]
    omega
theorem text_two (st : Int) (args : List (List Ty)) : 2 * args.length ≤ (Ty.mk st args).text.length := by
  rw [Ty.text, List.length_append]
  have := rows_two args
  omega

set_option maxRecDepth 20000 in
theorem rput_calls (t : Ty) (w : World) (v0 v1 : Value) (ht : TyO w t [v0, v1]) (hlen : t.text.length ≤ 140737488355328) :
    Calls Tryd.prog 16 #[.agg #[v0, v1]] w (Ret w (.tuple #[.string (bs (Ty.put t).1), .int .i64 (Ty.put t).2])) := by
  have HTY := Lib.hid ht
  cases t with
  | mk st args =>
    obtain ⟨v, hcs, h1, h2, hs⟩ := TyO_mk.1 ht
    obtain ⟨rfl, rfl⟩ : v0 = .int .i64 st ∧ v1 = v := by simpa using hcs
    obtain ⟨A, c, rfl, hc, hm⟩ := hs.val
    clear hcs
    have h2len := text_two st args
    generalize hT : Ty.mk st args = t at *
    clear hT
    have hf0 := frm_alloc w (.cells #[.int .i64 st, .slice A args.length c] 24)
    go_enter Tryd.func16, Tryd.ntmps16
    go_wp2_with fail
    refine (rlarge_calls t _ _ _ (stays_ty _ _ _ _ hf0 HTY.out)).mono ?_
    rintro e w1 ⟨rfl, hf1⟩
    have hfr1 := frm_trans hf0 hf1
    have hbox1 : TwoAt w1 w.heap.size (.int .i64 st) (.slice A args.length c) 24 := (TwoAt.new w _ _ _).frm hf1
    obtain ⟨x0, x1, _, _⟩ := hbox1.cells
    cases hl : t.large
    · have HL := Lib.hid hl
      clear hl
      go_wp2_with fail
      go_loopw [4, 5] (fun n i wr => ∃ k : Nat, k ≤ args.length ∧ k ≤ 32769 ∧ i = .int .i64 k ∧ n = .int .i64 (2 * (k : Int)) ∧ wr = w1) (fun _ i _ => args.length - (intOf i).toNat)
      case atStart => exact ⟨0, Nat.zero_le _, by omega, rfl, rfl, rfl⟩
      case round =>
        obtain ⟨k, hk, hk2, rfl, rfl, rfl⟩ := hrel
        by_cases hlt : k < args.length ∧ k ≤ 32768
        · obtain ⟨hlt, hle⟩ := hlt
          go_wp2_with fail
          exact ⟨⟨k + 1, by omega, by omega, by go_num, by go_num, by simp⟩, by simp [intOf]; omega⟩
        · by_cases hbig : k ≤ 32768
          · have hke : k = args.length := by omega
            have HK := Lib.hid hke
            have hkn : ¬ k < args.length := by omega
            clear hlt hke
            go_wp2_with fail
            refine (rtext_calls t _ _ _ (stays_ty _ _ _ _ hfr1 HTY.out) hlen).mono ?_
            rintro e w2 ⟨rfl, hf2⟩
            have hsz := bs_size t.text
            by_cases hlong : 65536 < t.text.length
            · have HP : Hid (Ty.put t = ([], 3)) := by unfold Hid Ty.put; rw [HL.out, if_neg (by simp), if_pos hlong]
              have hs2 : 65536 < (bs t.text).size := by omega
              have hs3 : (bs t.text).size ≤ 140737488355328 := by omega
              generalize bs t.text = Z at *
              clear hsz
              go_wp2_with fail
              refine bodyPost_ret (v := .tuple #[.string { data := #[] }, .int .i64 3]) (by simp [results, Tryd.results16, go_sem]) rfl ⟨?_, frm_trans hfr1 hf2⟩
              rw [HP.out]
              rfl
            · have HP : Hid (Ty.put t = (t.text, 0)) := by unfold Hid Ty.put; rw [HL.out, if_neg (by simp), if_neg hlong]
              have hs2 : (bs t.text).size ≤ 65536 := by omega
              have HZ : Hid (bs t.text = bs (Ty.put t).1) := by unfold Hid; rw [HP.out]
              generalize bs t.text = Z at *
              clear hsz
              go_wp2_with fail
              refine bodyPost_ret (v := .tuple #[.string Z, .int .i64 0]) (by simp [results, Tryd.results16, go_sem]) rfl ⟨?_, frm_trans hfr1 hf2⟩
              rw [HZ.out, HP.out]
          · have HP : Hid (Ty.put t = ([], 3)) := by unfold Hid Ty.put; rw [HL.out, if_neg (by simp), if_pos (by omega)]
            have hk3 : k = 32769 := by omega
            clear hlt
            go_wp2_with fail
            all_goals refine bodyPost_ret (v := .tuple #[.string { data := #[] }, .int .i64 3]) (by simp [results, Tryd.results16, go_sem]) rfl ⟨?_, hfr1⟩
            all_goals rw [HP.out]
            all_goals rfl
    · have HP : Hid (Ty.put t = ([], 12)) := by unfold Hid Ty.put; rw [hl, if_pos rfl]
      clear hl
      go_wp2_with fail
      refine bodyPost_ret (v := .tuple #[.string { data := #[] }, .int .i64 12]) (by simp [results, Tryd.results16, go_sem]) rfl ⟨?_, hfr1⟩
      rw [HP.out]
      rfl

set_option maxRecDepth 20000 in
theorem lput_calls (w : World) (t : Ty) (v0 v1 : Value) (ht : TyO w t [v0, v1]) (hlen : t.text.length ≤ 140737488355328)
    (htab : Lib.TabIs Tryd.prog w "internal/strconv.uint64pow10" .u64 Lib.pow10Tab) :
    Calls Tryd.prog 3 #[.agg #[v0, v1]] w (Ret w (.bool true)) := by
  obtain ⟨st, A, n, c, rfl, rfl⟩ := ht.vals
  have HT : Hid (Tab w.heap.size w) := Lib.tabBelow_of_tabIs htab
  have HTY := Lib.hid ht
  clear ht htab
  have hf0 := frm_alloc w (.cells #[.int .i64 st, .slice A n c] 24)
  go_enter Tryd.func3, Tryd.ntmps3
  go_wp2_with fail
  refine (put_calls t _ _ _ (stays_ty _ _ _ _ hf0 HTY.out) (HT.out.step (frm_below hf0 (Nat.le_refl _))).here hlen).mono ?_
  rintro e w1 ⟨rfl, hf1⟩
  have hfr1 := frm_trans hf0 hf1
  have hbox1 : TwoAt w1 w.heap.size (.int .i64 st) (.slice A n c) 24 := (TwoAt.new w _ _ _).frm hf1
  obtain ⟨x0, x1, _, _⟩ := hbox1.cells
  have hp := rput_calls t w1 _ _ (stays_ty _ _ _ _ hfr1 HTY.out) hlen
  have HP := Lib.hid hp
  clear hp
  generalize bs (Ty.put t).1 = Z at *
  generalize (Ty.put t).2 = z at *
  go_wp2_with fail
  refine HP.out.mono ?_
  rintro e w2 ⟨rfl, hf2⟩
  have hfr2 := frm_trans hfr1 hf2
  go_wp2_with fail
  refine (alive_calls _ (HT.out.step (frm_below hfr2 (Nat.le_refl _))).here).mono ?_
  rintro e w3 ⟨rfl, hf3⟩
  go_wp2_with fail
  exact bodyPost_ret (results_tmp rfl _ _ _) rfl ⟨rfl, frm_trans hfr2 hf3⟩
end Go.Proofs.YtmdgoalekkkpnaaDoor
