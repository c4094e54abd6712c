/- measure, Size and large: what they count. -/
import Derived.Test.YtmdgoalekkkpnaaDoorProg
import Derived.Test.YtmdgoalekkkpnaaDoorBase
set_option linter.unusedVariables false
set_option linter.unusedSimpArgs false
namespace Go.Proofs.YtmdgoalekkkpnaaDoor
open Go.RowKit

set_option maxRecDepth 20000 in
set_option maxHeartbeats 400000 in
theorem measure_calls : ∀ (t : Ty) (S : Nat → Prop) (w : World) (g : Nat) (x : Int) (v0 v1 : Value), TyR S w t [v0, v1] → (∀ b, S b → b ≠ g ∧ b < w.heap.size) →
    OneAt w g (.int .i64 x) 3 → 0 ≤ x → x ≤ 100000 →
    Calls Tryd.prog 62 #[.agg #[v0, v1], .pointer (some ⟨g, 0, none⟩)] w fun e w' => e = .returned (.tuple #[]) ∧ w.grownBy w' (some g) ∧
      OneAt w' g (.int .i64 (max (x - t.size) (-1))) 3 := by
  intro t
  induction t using Ty.ind with
  | h st args ih =>
    intro S w g x v0 v1 ht hS hg hx0 hx1
    rw [TyR_mk] at ht
    obtain ⟨v, hcs, h1, h2, hs⟩ := ht
    obtain ⟨rfl, rfl⟩ : v0 = .int .i64 st ∧ v1 = v := by simpa using hcs
    obtain ⟨A, c, rfl, hc, hm⟩ := hs.val
    have IH := Lib.hid ih
    clear ih
    have hgl := hg.lt
    have hcell := hg.cell
    have hfz := hg.free
    go_enter Tryd.func62, Tryd.ntmps62
    go_wp2_with fail
    go_loopw [16] (fun i wr => ∃ k : Nat, k ≤ args.length ∧ i = .int .i64 k ∧ w.grownBy wr (some g) ∧ OneAt wr g (.int .i64 (max (x - 1 - Ty.sizeRows (args.take k)) (-1))) 3) (fun i _ => args.length - (intOf i).toNat)
    case atStart => exact ⟨0, Nat.zero_le _, rfl, frm_then_alloc (frm_set (frm_refl _ _) _ _) _, by simpa [Ty.sizeRows, show max (x - 1) (-1) = x - 1 by omega] using (hg.set _).alloc _⟩
    case round =>
      obtain ⟨k, hk, rfl, hgr, hone⟩ := hrel
      clear hcell hfz
      have hcell := hone.cell
      have hfz := hone.free
      have hglr := hone.lt
      by_cases hlt : k < args.length
      · have hs' := hs.move (S' := S) (w' := wr) (fun _ h => h) (fun b hb => hgr.block b (hS b hb).2 (by intro e; injection e with e; exact (hS b hb).1 e)) (fun s hs cs h => SetR.move (S' := S) (w' := wr) (fun _ h => h) (fun b hb => hgr.block b (hS b hb).2 (by intro e; injection e with e; exact (hS b hb).1 e)) h)
        obtain ⟨b, o, v, rfl, hb, hcb, v', hv', hr⟩ := hs'.at1 k hlt
        obtain rfl : v = v' := by simpa using hv'
        obtain ⟨A2, c2, rfl, hc2, hm2⟩ := hr.val
        clear hv' hs' hs
        have hst := Ty.sizeRows_take args k hlt
        have HST := Lib.hid hst
        clear hst
        generalize hts : args[k] = ts at *
        have hmem : ts ∈ args := hts ▸ List.getElem_mem hlt
        clear hts
        go_wp2_with fail
        clear hcell hfz hglr hcb
        obtain ⟨wo, rfl⟩ : ∃ wo : World, wo = wr := ⟨_, rfl⟩
        go_loopw [22] (fun i w2 => ∃ j : Nat, j ≤ ts.length ∧ i = .int .i64 j ∧ wo.grownBy w2 (some g) ∧ OneAt w2 g (.int .i64 (max (x - 1 - Ty.sizeRows (args.take k) - Ty.sizeSet (ts.take j)) (-1))) 3) (fun i _ => ts.length - (intOf i).toNat)
        case atStart => exact ⟨0, Nat.zero_le _, rfl, frm_refl _ _, by simpa [Ty.sizeSet] using hone⟩
        case round =>
          obtain ⟨j, hj, rfl, hgr3, hone2⟩ := hrel
          have hcell := hone2.cell
          have hfz := hone2.free
          have hglr := hone2.lt
          by_cases hlt2 : j < ts.length
          · have hbl : ∀ b, S b → wr.heap[b]? = wo.heap[b]? := fun b hb => hgr3.block b (Nat.lt_of_lt_of_le (hS b hb).2 hgr.size) (by intro e; injection e with e; exact (hS b hb).1 e)
            have hr' := hr.move (S' := S) (w' := wr) (fun _ h => h) hbl (fun t ht cs h => TyR.move (S' := S) (w' := wr) (fun _ h => h) hbl h)
            obtain ⟨b2, o2, q0, q1, rfl, hb2, hq0, hq1, ht⟩ := hr'.at2 j hlt2
            obtain ⟨st2, A3, n3, c3, rfl, rfl⟩ := ht.vals
            clear hr' hr hbl
            have hsz : (Ty.mk st args).size = 1 + Ty.sizeRows args := rfl
            have hle1 := Ty.sizeRows_take_le args (k + 1)
            have hle2 := Ty.sizeSet_take_le ts (j + 1)
            have hst2 := Ty.sizeSet_take ts j hlt2
            have hmem2 : ts[j] ∈ ts := List.getElem_mem hlt2
            generalize ts[j] = t2 at *
            have HX : Hid (Ty.sizeRows (args.take k) + Ty.sizeSet ts ≤ Ty.sizeRows args ∧ Ty.sizeSet (ts.take j) + t2.size ≤ Ty.sizeSet ts ∧ Ty.sizeSet (ts.take (j + 1)) = Ty.sizeSet (ts.take j) + t2.size ∧ (Ty.mk st args).size = 1 + Ty.sizeRows args) := by
              rw [HST.out] at hle1
              exact ⟨by omega, by omega, hst2, hsz⟩
            clear hsz hle1 hle2 hst2
            by_cases hneg : x - 1 - Ty.sizeRows (args.take k) - Ty.sizeSet (ts.take j) < 0
            · go_wp2_with fail
              refine bodyPost_ret (results_none rfl _ _ _) rfl ⟨rfl, frm_then_alloc (frm_trans hgr hgr3) _, (hone2.alloc _).eq ?_⟩
              have := HX.out
              omega
            · go_wp2_with fail
              refine (IH.out _ hmem _ hmem2 S _ g _ _ _ (ht.move (fun _ h => h) (fun b hb => ?c1)) (fun b hb => ?c2) (hone2.alloc _) ?c3 ?c4).mono ?_
              case c1 => exact Below.heap_alloc _ _ _ (Nat.lt_of_lt_of_le (hS b hb).2 (Nat.le_trans hgr.size hgr3.size))
              case c2 => exact ⟨(hS b hb).1, by have := (hS b hb).2; have := hgr.size; have := hgr3.size; simp; omega⟩
              case c3 => omega
              case c4 => omega
              rintro e w3 ⟨rfl, hg3, ho3⟩
              go_wp2_with fail
              refine ⟨⟨j + 1, by omega, by go_num, frm_trans (frm_then_alloc hgr3 _) hg3, ho3.eq ?_⟩, by simp [intOf]; omega⟩
              have := HX.out
              omega
          · obtain rfl : j = ts.length := by omega
            go_wp2_with fail
            refine ⟨⟨k + 1, by omega, by go_num, frm_trans hgr hgr3, hone2.eq ?_⟩, by simp [intOf]; omega⟩
            have := HST.out
            rw [List.take_length]
            omega
      · obtain rfl : k = args.length := by omega
        go_wp2_with fail
        refine bodyPost_end (results_none rfl _ _ _) rfl ⟨rfl, hgr, hone.eq ?_⟩
        have hsz : (Ty.mk st args).size = 1 + Ty.sizeRows args := rfl
        rw [List.take_length, hsz]
        omega
end Go.Proofs.YtmdgoalekkkpnaaDoor
