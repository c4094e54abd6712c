/- Layer 1's checks of sorts, the program's and the reference's. -/
import Derived.Test.YtmdgoalekkkpnaaDoorSort
import Derived.Test.YtmdgoalekkkpnaaDoorNodes
set_option linter.unusedVariables false
set_option linter.unusedSimpArgs false
namespace Go.Proofs.YtmdgoalekkkpnaaDoor
open Go.RowKit

set_option maxRecDepth 20000 in
set_option maxHeartbeats 400000 in
theorem smeasure_calls : ∀ (t : Srt) (w : World) (B : Nat) (g : Nat) (x : Int) (v0 : Value), SrtR (fun b => b < B) w t [v0] → B ≤ g →
    OneAt w g (.int .i64 x) 3 → 0 ≤ x → x ≤ 100 →
    Calls Tryd.prog 114 #[.agg #[v0], .pointer (some ⟨g, 0, none⟩)] w fun e w' => ∃ d : Int, e = .returned (.int .i64 d) ∧ w.grownBy w' (some g) ∧
      OneAt w' g (.int .i64 (max (x - t.size) (-1))) 3 ∧ 0 ≤ d ∧ d ≤ x + 1 ∧ (t.size ≤ x → d = t.depth) := by
  intro t
  induction t using Srt.ind with
  | h args ih =>
    intro w B g x v0 ht hB hg hx0 hx1
    rw [SrtR_mk] at ht
    obtain ⟨v, hcs, hs⟩ := ht
    obtain rfl : v0 = v := by simpa using hcs
    obtain ⟨A, c, rfl, hc, hm⟩ := hs.val
    have IH := Lib.hid ih
    clear ih hcs
    have hgl := hg.lt
    have hcell := hg.cell
    have hfz := hg.free
    have HD : Hid ((Srt.mk args).size = 1 + Srt.sizes args ∧ (Srt.mk args).depth = Srt.depths args + 1) := ⟨rfl, rfl⟩
    go_enter Tryd.func114, Tryd.ntmps114
    go_wp2_with fail
    go_loopw [5, 16] (fun dv i wr => ∃ (k : Nat) (d : Int), k ≤ args.length ∧ i = .int .i64 k ∧ dv = .int .i64 d ∧ 0 ≤ d ∧ d ≤ x ∧ w.grownBy wr (some g) ∧ OneAt wr g (.int .i64 (max (x - 1 - Srt.sizes (args.take k)) (-1))) 3 ∧
      Hid (1 + Srt.sizes (args.take k) ≤ x → d = Srt.depths (args.take k))) (fun _ i _ => args.length - (intOf i).toNat)
    case atStart =>
      refine ⟨0, 0, Nat.zero_le _, rfl, rfl, by omega, by omega, frm_then_alloc (frm_set (frm_refl _ _) _ _) _, by simpa [Srt.sizes, show max (x - 1) (-1) = x - 1 by omega] using (hg.set _).alloc _, ?_⟩
      simp [Hid, Srt.depths]
    case round =>
      obtain ⟨k, d, hk, rfl, rfl, hd0, hd1, hgr, hone, HS⟩ := hrel
      clear hcell hfz
      have hcell := hone.cell
      have hfz := hone.free
      have hglr := hone.lt
      by_cases hlt : k < args.length
      · have hne : ∀ b, b < B → wr.heap[b]? = w.heap[b]? := fun b hb => hgr.block b (by omega) (by intro e; injection e with e; omega)
        have hs' := hs.move (S' := fun b => b < B) (w' := wr) (fun _ h => h) hne (fun s _ cs h => SrtR.move (S' := fun b => b < B) (w' := wr) (fun _ h => h) hne h)
        obtain ⟨b, o, v, rfl, hb, hcb, hr⟩ := hs'.at1 k hlt
        obtain ⟨A2, n2, c2, hcs2⟩ := SrtR_len hr
        obtain rfl : v = .slice A2 n2 c2 := by simpa using hcs2
        have HST := Lib.hid (Srt.sizes_take args k hlt)
        have HDT := Lib.hid (Srt.depths_take args k hlt)
        have HLE := Lib.hid (Srt.sizes_take_le args (k + 1))
        have hmem : args[k] ∈ args := List.getElem_mem hlt
        clear hcs2 hs' hs hne
        generalize args[k] = s2 at *
        have hpos := s2.size_pos
        by_cases hneg : x - 1 - Srt.sizes (args.take k) < 0
        · have hx : max (x - 1 - Srt.sizes (args.take k)) (-1) = -1 := by omega
          rw [hx] at hcell
          go_wp2_with fail
          refine bodyPost_ret (results_tmp rfl _ _ _) rfl ⟨0, rfl, frm_then_alloc hgr _, (hone.alloc _).eq ?_, by omega, by omega, ?_⟩
          · have h1 := HD.out.1
            have h2 := HLE.out
            have h3 := HST.out
            omega
          · have h1 := HD.out.1
            have h2 := HLE.out
            have h3 := HST.out
            omega
        · have hx : max (x - 1 - Srt.sizes (args.take k)) (-1) = x - 1 - Srt.sizes (args.take k) := by omega
          rw [hx] at hcell hone
          clear hx
          go_wp2_with fail
          refine (IH.out _ hmem _ B g _ _ (hr.move (fun _ h => h) (fun b hb => ?c1)) hB (hone.alloc _) ?c3 ?c4).mono ?_
          case c1 => exact Below.heap_alloc _ _ _ (by omega)
          case c3 => omega
          case c4 => omega
          rintro e w3 ⟨d2, rfl, hg3, ho3, hd20, hd21, hd2⟩
          have HD2 := Lib.hid hd2
          clear hd2 hcell hfz
          go_wp2_with fail
          refine ⟨⟨k + 1, max d d2, by omega, by go_num, ?_, by omega, by omega, frm_trans (frm_then_alloc hgr _) hg3, ho3.eq ?_, ?_⟩, by simp [intOf]; omega⟩
          · exact int_eq (by split <;> omega)
          · have h3 := HST.out
            omega
          · unfold Hid
            intro hle
            have h3 := HST.out
            have h4 := HDT.out
            have h5 := HS.out (by omega)
            have h6 := HD2.out (by omega)
            omega
      · obtain rfl : k = args.length := by omega
        go_wp2_with fail
        refine bodyPost_ret (results_tmp rfl _ _ _) rfl ⟨d + 1, rfl, hgr, hone.eq ?_, by omega, by omega, ?_⟩
        · have hsz := HD.out.1
          rw [List.take_length, hsz]
          omega
        · intro hle
          obtain ⟨h1, h2⟩ := HD.out
          have h3 := HS.out
          rw [List.take_length] at h3
          have h4 := h3 (by omega)
          omega

set_option maxRecDepth 20000 in
theorem ssize_calls (t : Srt) (w : World) (v0 : Value) (ht : SrtO w t [v0]) :
    Calls Tryd.prog 99 #[.agg #[v0]] w fun e w' => ∃ n d : Int, e = .returned (.tuple #[.int .i64 n, .int .i64 d]) ∧ w.grownBy w' none ∧
      ((60 < t.size ∧ n = 61 ∧ d = 0) ∨ (t.size ≤ 60 ∧ n = t.size ∧ d = t.depth)) := by
  obtain ⟨A, n, c, hcs⟩ := SrtR_len ht
  obtain rfl : v0 = .slice A n c := by simpa using hcs
  clear hcs
  go_enter Tryd.func99, Tryd.ntmps99
  go_wp2_with fail
  have h1 : OneAt ((w.alloc (.cells #[.slice A n c] 43)).alloc (.cells #[.int .i64 60] 3)) (w.heap.size + 1) (.int .i64 60) 3 := by simpa using OneAt.new (w.alloc (.cells #[.slice A n c] 43)) (.int .i64 60) 3
  refine (smeasure_calls t _ w.heap.size (w.heap.size + 1) 60 _ (SrtR.move (fun _ h => h) (fun b hb => ?_) ht) (by omega) h1 (by omega) (by omega)).mono ?_
  · rw [Below.heap_alloc _ _ _ (by simp; omega), Below.heap_alloc _ _ _ hb]
  rintro e w2 ⟨d, rfl, hg, ho, hd0, hd1, hd⟩
  have hf : w.grownBy w2 none := frm_new (frm_then_alloc (frm_alloc _ _) _) (by omega) hg
  have hcell := ho.cell
  have HD := Lib.hid hd
  clear hd h1
  by_cases hz : 60 < t.size
  · have hx : max (60 - (t.size : Int)) (-1) = -1 := by omega
    rw [hx] at hcell
    clear hx
    go_wp2_with fail
    exact bodyPost_ret (v := .tuple #[.int .i64 61, .int .i64 0]) (by simp [results, Tryd.results99, go_sem]) rfl ⟨61, 0, rfl, hf, .inl ⟨hz, rfl, rfl⟩⟩
  · have hx : max (60 - (t.size : Int)) (-1) = 60 - t.size := by omega
    rw [hx] at hcell
    clear hx
    go_wp2_with fail
    exact bodyPost_ret (v := .tuple #[.int .i64 t.size, .int .i64 d]) (by simp [results, Tryd.results99, go_sem]; omega) rfl ⟨t.size, d, rfl, hf, .inr ⟨by omega, rfl, HD.out (by omega)⟩⟩

theorem few1_calls (t : Srt) (w : World) (v0 : Value) (ht : SrtO w t [v0]) :
    Calls Tryd.prog 101 #[.agg #[v0]] w (Ret w (.bool (decide (t.args.length ≤ 8)))) := by
  obtain ⟨A, c, rfl, hc, hm⟩ := (SrtO_mk ht).val
  have HE : Hid (decide ((t.args.length : Int) ≤ 8) = decide (t.args.length ≤ 8)) := by
    unfold Hid
    congr 1
    apply propext
    omega
  go_enter Tryd.func101, Tryd.ntmps101
  go_wp2_with fail
  exact bodyPost_ret (results_tmp rfl _ _ _) rfl ⟨by rw [← HE.out]; rfl, frm_alloc _ _⟩

set_option maxRecDepth 20000 in
set_option maxHeartbeats 400000 in
theorem all_calls : ∀ (t : Srt) (w : World) (v0 : Value), SrtO w t [v0] →
    Calls Tryd.prog 100 #[.agg #[v0], .func (.func 101) #[] #[]] w (Ret w (.bool t.few)) := by
  intro t
  induction t using Srt.ind with
  | h args ih =>
    intro w v0 ht
    have hs := SrtO_mk ht
    change SlO w 1 SrtO args v0 at hs
    obtain ⟨A, c, rfl, hc, hm⟩ := hs.val
    have IH := Lib.hid ih
    have HT := Lib.hid ht
    clear ih ht
    have hbox := OneAt.new w (.slice A args.length c) 43
    have HF : Hid ((Srt.mk args).few = (Srt.fews args && decide (args.length ≤ 8))) := rfl
    go_enter Tryd.func100, Tryd.ntmps100
    go_wp2_with fail
    go_loopw [10] (fun i wr => ∃ k : Nat, k ≤ args.length ∧ i = .int .i64 k ∧ w.grownBy wr none ∧ OneAt wr w.heap.size (.slice A args.length c) 43 ∧ Hid (Srt.fews args = Srt.fews (args.drop k))) (fun i _ => args.length - (intOf i).toNat)
    case atStart => exact ⟨0, Nat.zero_le _, rfl, frm_alloc _ _, hbox, rfl⟩
    case round =>
      obtain ⟨k, hk, rfl, hfr, hone, HS⟩ := hrel
      by_cases hlt : k < args.length
      · obtain ⟨b, o, v, rfl, hb, hcb, hr⟩ := (hs.frm hfr stays_srt).at1 k hlt
        obtain ⟨A2, n2, c2, hcs2⟩ := SrtR_len hr
        obtain rfl : v = .slice A2 n2 c2 := by simpa using hcs2
        have HST := Lib.hid (Srt.fews_drop args k hlt)
        have hmem : args[k] ∈ args := List.getElem_mem hlt
        clear hcs2
        generalize args[k] = s2 at *
        go_wp2_with fail
        refine (IH.out _ hmem _ _ (stays_srt _ _ _ _ (frm_alloc _ _) hr)).mono ?_
        rintro e w1 ⟨rfl, hf1⟩
        have hf2 := frm_trans (frm_alloc wr (.cells #[.slice A2 n2 c2] 43)) hf1
        cases hfew : s2.few
        · have HW := Lib.hid hfew
          clear hfew
          go_wp2_with fail
          refine bodyPost_ret (results_tmp rfl _ _ _) rfl ⟨?_, frm_trans hfr hf2⟩
          rw [HF.out, HS.out, HST.out, HW.out]
          rfl
        · have HW := Lib.hid hfew
          clear hfew
          go_wp2_with fail
          refine ⟨⟨k + 1, by omega, by go_num, frm_trans hfr hf2, hone.move (frm_lt hf2 _ hone.lt), ?_⟩, by simp [intOf]; omega⟩
          unfold Hid
          rw [HS.out, HST.out, HW.out]
          rfl
      · obtain rfl : k = args.length := by omega
        have hcell := hone.cell
        have HS2 : Hid (Srt.fews args = true) := by
          unfold Hid
          rw [HS.out, List.drop_length]
          rfl
        go_wp2_with fail
        refine (few1_calls (.mk args) _ _ (stays_srt _ _ _ _ hfr HT.out)).mono ?_
        rintro e w1 ⟨rfl, hf1⟩
        go_wp2_with fail
        refine bodyPost_ret (results_tmp rfl _ _ _) rfl ⟨?_, frm_trans hfr hf1⟩
        rw [HF.out, HS2.out]
        rfl

/-- sorts.Check's answer. -/
def sortE (t : Srt) : Int := if t.good then 0 else 6

set_option maxRecDepth 20000 in
theorem scheck_calls (t : Srt) (w : World) (v0 : Value) (ht : SrtO w t [v0]) :
    Calls Tryd.prog 85 #[.agg #[v0]] w (Ret w (.int .i64 (sortE t))) := by
  obtain ⟨A, n, c, hcs⟩ := SrtR_len ht
  obtain rfl : v0 = .slice A n c := by simpa using hcs
  clear hcs
  have hbox := OneAt.new w (.slice A n c) 43
  have HT := Lib.hid ht
  clear ht
  go_enter Tryd.func85, Tryd.ntmps85
  go_wp2_with fail
  refine (ssize_calls t _ _ (stays_srt _ _ _ _ (frm_alloc _ _) HT.out)).mono ?_
  rintro e w1 ⟨n1, d1, rfl, hf1, hcase⟩
  have hfr := frm_trans (frm_alloc w (.cells #[.slice A n c] 43)) hf1
  have hone := hbox.move (frm_lt hf1 _ hbox.lt)
  have hcell := hone.cell
  have ht1 := Lib.hid (stays_srt _ _ _ _ hfr HT.out)
  clear hbox
  rcases hcase with ⟨hz, rfl, rfl⟩ | ⟨hz, rfl, rfl⟩
  · have hg : Hid (t.good = false) := by unfold Hid Srt.good; simp [show ¬ t.size ≤ 60 by omega]
    go_wp2_with fail
    refine bodyPost_ret (results_tmp rfl _ _ _) rfl ⟨?_, hfr⟩
    unfold sortE
    rw [hg.out]
    rfl
  · by_cases hd : t.depth ≤ 30
    · have hg : Hid (t.good = t.few) := by unfold Hid Srt.good; simp [hz, hd]
      go_wp2_with fail
      refine (all_calls t _ _ ht1.out).mono ?_
      rintro e w2 ⟨rfl, hf2⟩
      cases hw : t.few
      · have HW := Lib.hid hw
        clear hw
        go_wp2_with fail
        refine bodyPost_ret (results_tmp rfl _ _ _) rfl ⟨?_, frm_trans hfr hf2⟩
        unfold sortE
        rw [hg.out, HW.out]
        rfl
      · have HW := Lib.hid hw
        clear hw
        go_wp2_with fail
        refine bodyPost_ret (results_tmp rfl _ _ _) rfl ⟨?_, frm_trans hfr hf2⟩
        unfold sortE
        rw [hg.out, HW.out]
        rfl
    · have hg : Hid (t.good = false) := by unfold Hid Srt.good; simp [hd]
      have hd2 : 30 < t.depth := by omega
      go_wp2_with fail
      refine bodyPost_ret (results_tmp rfl _ _ _) rfl ⟨?_, hfr⟩
      unfold sortE
      rw [hg.out]
      rfl

/-- The error of a sort and a number of states. -/
def placeE (t : Srt) (n : Int) : Int := if t.good then (if n < 1 ∨ 6 < n then 2 else 0) else 6

set_option maxRecDepth 20000 in
theorem place_calls (t : Srt) (w : World) (v0 : Value) (n : Int) (ht : SrtO w t [v0]) :
    Calls Tryd.prog 57 #[.agg #[v0], .int .i64 n] w (Ret w (.int .i64 (placeE t n))) := by
  obtain ⟨A, n0, c, hcs⟩ := SrtR_len ht
  obtain rfl : v0 = .slice A n0 c := by simpa using hcs
  clear hcs
  have HT := Lib.hid ht
  clear ht
  go_enter Tryd.func57, Tryd.ntmps57
  go_wp2_with fail
  refine (scheck_calls t _ _ (stays_srt _ _ _ _ (frm_alloc _ _) HT.out)).mono ?_
  rintro e w1 ⟨rfl, hf1⟩
  have hfr := frm_trans (frm_alloc w (.cells #[.slice A n0 c] 43)) hf1
  by_cases hg : t.good = true
  · have HG := Lib.hid hg
    have HS : sortE t = 0 := by unfold sortE; rw [if_pos hg]
    rw [HS]
    clear hg HS
    by_cases h1 : n < 1
    · have HP : Hid (placeE t n = 2) := by unfold Hid placeE; rw [if_pos HG.out, if_pos (.inl h1)]
      go_wp2_with fail
      refine bodyPost_ret (results_tmp rfl _ _ _) rfl ⟨?_, hfr⟩
      rw [HP.out]
      rfl
    · by_cases h2 : 6 < n
      · have HP : Hid (placeE t n = 2) := by unfold Hid placeE; rw [if_pos HG.out, if_pos (.inr h2)]
        go_wp2_with fail
        refine bodyPost_ret (results_tmp rfl _ _ _) rfl ⟨?_, hfr⟩
        rw [HP.out]
        rfl
      · have HP : Hid (placeE t n = 0) := by unfold Hid placeE; rw [if_pos HG.out, if_neg (by omega)]
        go_wp2_with fail
        refine bodyPost_ret (results_tmp rfl _ _ _) rfl ⟨?_, hfr⟩
        rw [HP.out]
        rfl
  · have HP : Hid (placeE t n = 6) := by unfold Hid placeE; rw [if_neg hg]
    have HS : sortE t = 6 := by unfold sortE; rw [if_neg hg]
    rw [HS]
    clear hg HS
    go_wp2_with fail
    refine bodyPost_ret (results_tmp rfl _ _ _) rfl ⟨?_, hfr⟩
    rw [HP.out]
    rfl
end Go.Proofs.YtmdgoalekkkpnaaDoor
