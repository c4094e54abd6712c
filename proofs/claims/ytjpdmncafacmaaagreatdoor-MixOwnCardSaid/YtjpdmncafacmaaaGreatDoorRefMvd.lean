/- The reference's moved, moves. -/
import Derived.Test.YtjpdmncafacmaaaGreatDoorRefIns
set_option linter.unusedVariables false
set_option linter.unusedSimpArgs false
namespace Go.Proofs.YtjpdmncafacmaaaGreatDoor
open Go.RowKit

theorem nd_lt (a b : Nd) : Nd.sgn a b < 0 ↔ Nd.cmp a b < 0 := sgn_lt a b
theorem nd_gt (a b : Nd) : 0 < Nd.sgn a b ↔ 0 < Nd.cmp a b := by
  have h1 := sgn_lt a b
  have h2 := sgn_zero a b
  constructor <;> intro h <;> (by_cases h3 : Nd.sgn a b = 0 <;> omega)
theorem uni_one : ∀ (acc : List Nd) (z : Nd), uni acc [z] = insL Nd.cmp z acc
  | [], z => by unfold uni insL; rfl
  | y :: acc, z => by
    unfold uni insL
    rw [uni_one acc z, uni_nil_right, uni_nil_right]
    by_cases h1 : Nd.sgn y z < 0
    · rw [if_pos h1, if_pos ((nd_lt _ _).1 h1)]
    · rw [if_neg h1, if_neg (fun h => h1 ((nd_lt _ _).2 h))]
      by_cases h2 : 0 < Nd.sgn y z
      · rw [if_pos h2, if_pos ((nd_gt _ _).1 h2)]
      · rw [if_neg h2, if_neg (fun h => h2 ((nd_gt _ _).2 h))]
/-- The new state, out of a list. -/
def toL (tl : List Int) (x : Nd) : Nd := (x.1, tl.getD x.2.toNat 0)
theorem setL_snoc {α : Type} (f : α → α → Int) (l : List α) (x : α) : setL f (l ++ [x]) = insL f x (setL f l) := by
  unfold setL
  rw [List.foldl_append]
  rfl

set_option maxRecDepth 100000 in
set_option maxHeartbeats 1000000 in
theorem rmoved_calls (l : List Nd) (tl : List Int) (w : World) (v u : Value) (hl : rdO AltR w l [v]) (hto : SlO w 1 (rdO IntR) tl u) (hb : ∀ x ∈ l, 0 ≤ x.2 ∧ x.2 < tl.length) (hlen : l.length ≤ 900) :
    Calls Tryz.prog 98 #[v, u] w fun e w' => ∃ A c, e = .returned (.slice A (ndSet (l.map (toL tl))).length c) ∧ Grew w w' ∧ WR AltR (Fresh w w') w' (ndSet (l.map (toL tl))) [.slice A (ndSet (l.map (toL tl))).length c] := by
  have hL := RowS.sl hl
  obtain ⟨A, c, rfl, hc, hm⟩ := hL.val
  obtain ⟨B, d, rfl, hd, hm'⟩ := hto.val
  have HB := Lib.hid hb
  clear hl hb
  go_enter Tryz.func98, Tryz.ntmps98
  go_wp2_with fail
  go_loopw [5, 10] (fun z i wr => ∃ (k : Nat), k ≤ l.length ∧ i = .int .i64 k ∧ Grew w wr ∧ ∃ A c acc, Hid (acc = ndSet ((l.take k).map (toL tl))) ∧ z = .slice A acc.length c ∧ WR AltR (Fresh w wr) wr acc [z]) (fun _ i _ => l.length - (intOf i).toNat)
  case atStart => exact ⟨0, Nat.zero_le _, rfl, grew_refl _, none, 0, [], rfl, rfl, _, rfl, none, 0, rfl, by simp, by simp, by simp⟩
  case round =>
    obtain ⟨k, hk, rfl, hfr, Az, cz, acc, HACC, rfl, hz⟩ := hrel
    have HZ := Lib.hid hz
    clear hz
    have hzl : acc.length ≤ 900 := by
      rw [HACC.out]
      have h1 := setL_len Nd.cmp ((l.take k).map (toL tl))
      rw [List.length_map, List.length_take] at h1
      show (setL Nd.cmp _).length ≤ _
      omega
    by_cases hlt : k < l.length
    · obtain ⟨b, o, x0, x1, rfl, hbb, hx0, hx1, hxt⟩ := (hL.frm hfr.1 (stays_rd moves_nd)).at2 k hlt
      obtain ⟨hxv, hbx⟩ := hxt
      simp only [List.cons.injEq, and_true] at hxv
      obtain ⟨rfl, rfl⟩ := hxv
      have HT : Hid (ndSet ((l.take (k + 1)).map (toL tl)) = uni acc [toL tl l[k]]) := by
        unfold Hid
        rw [HACC.out, List.take_succ_eq_append_getElem hlt, List.map_append, uni_one]
        exact setL_snoc _ _ _
      have hxb := HB.out _ (List.getElem_mem hlt)
      generalize l[k] = x at *
      have htl : x.2.toNat < tl.length := by omega
      obtain ⟨b2, o2, t0, rfl, hb2, ht0, htt⟩ := hto.at1 _ htl
      obtain ⟨htv, hbt⟩ := htt
      simp only [List.cons.injEq, and_true] at htv
      subst htv
      have hgd : toL tl x = (x.1, tl[x.2.toNat]) := by
        unfold toL
        rw [List.getD_eq_getElem?_getD, List.getElem?_eq_getElem htl, Option.getD_some]
      rw [hgd] at HT
      generalize tl[x.2.toNat] = t at *
      have xb := TwoAt.new wr (.int .i64 x.1) (.int .i64 x.2) 80
      have hG1 := grew_then_alloc hfr (.cells #[.int .i64 x.1, .int .i64 x.2] 80)
      obtain ⟨xc0, xc1, _, _⟩ := xb.cells
      have ht1 := frm_cell hG1.1 ht0
      have hxlt := xb.lt
      obtain ⟨wx, hwx⟩ : ∃ wx, wx = wr.alloc (.cells #[.int .i64 x.1, .int .i64 x.2] 80) := ⟨_, rfl⟩
      have hfx : Grew wr wx := by rw [hwx]; exact grew_alloc _ _
      have hk0 : ∀ w', Grew wx w' → (Grew wx w' ∧ w'.cell? ⟨wr.heap.size, 0, none⟩ = some (.int .i64 x.1) ∧ w'.cell? ⟨wr.heap.size, 1, none⟩ = some (.int .i64 x.2) ∧ w'.cell? ⟨b2, o2 + x.2.toNat, none⟩ = some (.int .i64 t)) := by
        subst hwx
        exact fun w' h => ⟨h, frm_cell h.1 xc0, frm_cell h.1 xc1, frm_cell h.1 ht1⟩
      have HK := Lib.hid hk0
      have hGw := grew_trans hfr hfx
      have HU : Hid (∀ v1, Grew wx v1 → Calls Tryz.prog 111 #[.slice Az acc.length cz, .slice (some ⟨v1.heap.size, 0, none⟩) 1 1] (v1.alloc (.cells #[.int .i64 x.1, .int .i64 t] 80)) fun e w' => ∃ A c acc', Hid (acc' = ndSet ((l.take (k + 1)).map (toL tl))) ∧ e = .returned (.slice A acc'.length c) ∧ Grew wx w' ∧ WR AltR (Fresh w w') w' acc' [.slice A acc'.length c]) := by
        intro v1 hv1
        have hv2 := grew_then_alloc hv1 (.cells #[.int .i64 x.1, .int .i64 t] 80)
        have hr1 : rdO AltR (v1.alloc (.cells #[.int .i64 x.1, .int .i64 t] 80)) acc [.slice Az acc.length cz] :=
          rdO_frm moves_alt (grew_trans hfx hv2).1 (WR.rd moves_alt (moves_WR moves_alt _ _ _ _ _ _ (fun q hq => hq.2) (fun _ _ => rfl) HZ.out))
        have tw := TwoAt.new v1 (.int .i64 x.1) (.int .i64 t) 80
        have hr2 : rdO AltR (v1.alloc (.cells #[.int .i64 x.1, .int .i64 t] 80)) [(x.1, t)] [.slice (some ⟨v1.heap.size, 0, none⟩) 1 1] := by
          refine ⟨_, rfl, some ⟨v1.heap.size, 0, none⟩, 1, rfl, by simp, by simp, fun _ => ⟨v1.heap.size, 0, rfl, by simp, fun i hi => ?_⟩⟩
          have hi0 : i = 0 := by simpa using hi
          subst hi0
          refine ⟨[.int .i64 x.1, .int .i64 t], rfl, fun j hj => ?_, rfl, by simp; omega, hbt⟩
          match j, hj with
          | 0, _ => exact tw.cells.1
          | 1, _ => exact tw.cells.2.1
        refine (union_calls _ _ _ _ _ hr1 hr2 (by omega) (by simp)).mono ?_
        rintro e w' ⟨z, rfl, hg, ho⟩
        have hlt' := ho.lt
        have hs1 := hGw.1.size
        have hs2 := hv2.1.size
        have hul : (uni acc [(x.1, t)]).length ≤ 140737488351232 := by
          rw [← HT.out]
          have h1 := setL_len Nd.cmp ((l.take (k + 1)).map (toL tl))
          rw [List.length_map, List.length_take] at h1
          show (setL Nd.cmp _).length ≤ _
          omega
        have hW : WR AltR (Fresh w w') w' (uni acc [(x.1, t)]) [z] := Own.slW (r := NdR) moves_nd (ok := fun _ => False) (show Own (WR NdR) w' _ _ 2 (fun _ => False) z _ from ho) hul (fun q h _ => h.elim) (fun q hq => ⟨by have := hlt' q hq; omega, (hlt' q hq).2⟩)
        obtain ⟨A5, c5, rfl, _⟩ := ho.val
        exact ⟨_, _, _, HT.out.symm, rfl, grew_trans hv2 hg, hW⟩
      have i0 : (0 : Int) ≤ x.2 := by omega
      have i1 : x.2 < tl.length := by omega
      have HG0 : Grew wx wx.drew := grew_drew _
      have HGA : Hid (∀ o, Grew wx (wx.alloc o).drew) := fun o => grew_trans (grew_alloc _ _) (grew_drew _)
      have HU2 : Hid (Calls Tryz.prog 111 #[.slice Az acc.length cz, .slice (some ⟨wx.heap.size, 0, none⟩) 1 1] (wx.alloc (.cells #[.int .i64 x.1, .int .i64 t] 80)).drew fun e w' => ∃ A c acc', Hid (acc' = ndSet ((l.take (k + 1)).map (toL tl))) ∧ e = .returned (.slice A acc'.length c) ∧ Grew wx w' ∧ WR AltR (Fresh w w') w' acc' [.slice A acc'.length c]) := HU.out wx.drew (grew_drew _)
      clear hk0 xc0 xc1 ht0 ht1 hgd xb HT
      go_wp2_with fail
      rw [← hwx]
      clear hwx HU
      go_region_held3 (fun w' => Grew wx w' ∧ w'.cell? ⟨wr.heap.size, 0, none⟩ = some (.int .i64 x.1) ∧ w'.cell? ⟨wr.heap.size, 1, none⟩ = some (.int .i64 x.2) ∧ w'.cell? ⟨b2, o2 + x.2.toNat, none⟩ = some (.int .i64 t)) (first | exact HK.out _ (by assumption) | exact HK.out _ (HGA.out _)) ((go_at_call 111; (with_reducible refine HU2.out.mono ?_); rintro e w5 ⟨A5, c5, acc5, HA5, rfl, hg5, hr5⟩))
      all_goals
        have HR5 := Lib.hid hr5
        clear hr5
        go_wp2_with fail
        exact ⟨⟨k + 1, by omega, by go_num, grew_trans hGw hg5, A5, c5, acc5, HA5, rfl, HR5.out⟩, by simp [intOf]; omega⟩
    · obtain rfl : k = l.length := by omega
      have HA2 : Hid (acc = ndSet (l.map (toL tl))) := by
        have h := HACC.out
        rw [List.take_length] at h
        exact h
      go_wp2_with fail
      exact bodyPost_ret (v := .slice Az acc.length cz) (by simp [results, Tryz.results98, go_sem]) rfl ⟨_, _, by rw [← HA2.out], hfr, by rw [← HA2.out]; exact HZ.out⟩
end Go.Proofs.YtjpdmncafacmaaaGreatDoor
