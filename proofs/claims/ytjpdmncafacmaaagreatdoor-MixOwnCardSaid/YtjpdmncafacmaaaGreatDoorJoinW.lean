/- mix's joined. -/
import Derived.Test.YtjpdmncafacmaaaGreatDoorJoinD
import Derived.Deep.DeepCutAuto
set_option linter.unusedVariables false
set_option linter.unusedSimpArgs false
namespace Go.Proofs.YtjpdmncafacmaaaGreatDoor
open Go.RowKit

theorem grew_cells {w w1 : World} (h : Grew w w1) : (∀ b o, b < w.heap.size → w1.cell? ⟨b, o, none⟩ = w.cell? ⟨b, o, none⟩) ∧ (∀ b o, b < w.heap.size → w1.frozen? ⟨b, o, none⟩ = w.frozen? ⟨b, o, none⟩) :=
  ⟨fun b o hb => World.cell?_of_block (frm_lt h.1 b hb), fun b o hb => by unfold World.frozen?; rw [frm_lt h.1 b hb]⟩
theorem OneAt.frm_of {w w' : World} {g : Nat} {v : Value} {T : TypeId} (h : OneAt w g v T) (hf : w.grownBy w' none) : OneAt w' g v T := h.move (frm_lt hf _ h.lt)
/-- The result is made: its ranks, its start; no rows yet. -/
def JMid (w4 : World) (g : Nat) (rk : List Int) (st : Int) (wx : World) : Prop :=
  ∃ r, Grew w4 wx ∧ w4.heap.size ≤ g ∧ OutAt wx g wx.heap.size r st (.slice none 0 0) [] ∧ WR (RowS 1 IntR) (fun b => w4.heap.size ≤ b ∧ b < wx.heap.size ∧ b ≠ g) wx rk [r]
theorem own_int {w : World} {base e k : Nat} {ok ok' : Nat → Prop} {v : Value} {xs : List Int} (h : Own IntR w base e k ok v xs) : Own (WR IntR) w base e k ok' v xs := h
theorem JMid.one {w4 v4 v5 : World} {A : Option Addr} {c : Nat} {rk : List Int} {st : Int} (h4 : Grew w4 v4) (hg : Grew v4 v5) (ho : Own IntR v5 v4.heap.size 3 1 (fun _ => True) (.slice A rk.length c) rk) (hl : rk.length ≤ 24) :
    JMid w4 v5.heap.size rk st (v5.alloc (.cells #[.slice A rk.length c, .int .i64 st, .slice none 0 0] 25)) := by
  have hs := h4.1.size
  have hs2 := hg.1.size
  refine ⟨_, grew_then_alloc (grew_trans h4 hg) _, by omega, ⟨ThreeAt.new _ _ _ _ _, by simp, Nat.le_refl _, Own.nil _ _ _ _ _ _⟩, ?_⟩
  have h1 := (own_int (ok' := fun _ => False) ho).slW moves_int (by omega) (S := fun b => w4.heap.size ≤ b ∧ b < v5.heap.size) (fun b h _ => h.elim) (fun b hb => by have := ho.lt b hb; omega)
  exact moves_WR (moves_row moves_int) _ _ _ _ _ _ (fun b hb => ⟨hb.1, by simp; omega, by omega⟩) (fun b hb => Below.heap_alloc _ _ _ hb.2) h1
theorem JMid.two {w4 v4 v5 : World} {A : Option Addr} {c : Nat} {rk : List Int} {st : Int} (h4 : Grew w4 v4) {g : Nat} (hgs : w4.heap.size ≤ g) (ht : ThreeAt v4 g (.slice none 0 0) (.int .i64 0) (.slice none 0 0) 25) (hg : Grew v4 v5)
    (ho : Own IntR v5 v4.heap.size 3 1 (fun _ => True) (.slice A rk.length c) rk) (hl : rk.length ≤ 24) :
    JMid w4 g rk st (((v5.setCell ⟨g, 0, none⟩ (.slice A rk.length c)).setCell ⟨g, 1, none⟩ (.int .i64 st)).setCell ⟨g, 2, none⟩ (.slice none 0 0)) := by
  have hs := h4.1.size
  have hs2 := hg.1.size
  have hlt := ht.lt
  have hset : ∀ b, b ≠ g → (((v5.setCell ⟨g, 0, none⟩ (.slice A rk.length c)).setCell ⟨g, 1, none⟩ (.int .i64 st)).setCell ⟨g, 2, none⟩ (.slice none 0 0)).heap[b]? = v5.heap[b]? := fun b hb => by
    rw [Below.heap_setCell _ _ _ _ hb, Below.heap_setCell _ _ _ _ hb, Below.heap_setCell _ _ _ _ hb]
  refine ⟨_, grew_set_new (grew_set_new (grew_set_new (grew_trans h4 hg) hgs _ _) hgs _ _) hgs _ _, hgs, ⟨(((ht.frm hg.1).set0 _).set1 _).set2 _, by simp; omega, Nat.le_refl _, Own.nil _ _ _ _ _ _⟩, ?_⟩
  have h1 := (own_int (ok' := fun _ => False) ho).slW moves_int (by omega) (S := fun b => v4.heap.size ≤ b ∧ b < v5.heap.size) (fun b h _ => h.elim) (fun b hb => by have := ho.lt b hb; omega)
  exact moves_WR (moves_row moves_int) _ _ _ _ _ _ (fun b hb => ⟨by omega, by simp; omega, by omega⟩) (fun b hb => hset b (by omega)) h1

/-- The start, its two arguments made one behind the other. -/
theorem start12 {F : Nat} {st : List (List Nd) → List (List Nd) → List (List Nd)} (hst : StFn F st) {x y : List (List Nd)} (hx : altsSmall x) (hy : altsSmall y) {wq v4 v5 v6 : World} {ux uy : Value} (h4 : Grew wq v4) (h45 : Grew v4 v5)
    (hox : Own (WR AltR) v5 v4.heap.size 76 1 (fun b => v4.heap.size ≤ b) ux x) (hg : Grew v5 v6) (hoy : Own (WR AltR) v6 v5.heap.size 76 1 (fun b => v5.heap.size ≤ b) uy y) :
    Calls Tryz.prog F #[ux, uy] v6 fun e w' => ∃ z, e = .returned z ∧ Grew wq w' ∧ Own (WR AltR) w' wq.heap.size 76 1 (fun b => wq.heap.size ≤ b) z (st x y) := by
  have hs4 := h4.1.size
  have hs5 := h45.1.size
  have hs6 := hg.1.size
  have hltx := hox.lt
  have hox6 := ((hox.kept (moves_WR moves_alt) hg.1 (ownNone _) (by simp)).lower hs4).ok_mono (moves_WR moves_alt) (ok' := fun b => wq.heap.size ≤ b) (fun b h _ => by omega)
  have hyl := hy.1
  have hoyW := hoy.slW moves_alt (by omega) (S := fun b => v5.heap.size ≤ b ∧ b < v6.heap.size) (fun b h1 h2 => ⟨h1, h2⟩) (fun b hb => hoy.lt b hb)
  refine (hst x y v6 wq.heap.size ux uy hx hy (by omega) hox6 (moves_WR moves_alts _ _ _ _ _ _ (fun b hb => ⟨by omega, hb.2, fun e => by have := hltx b e.symm; omega⟩) (fun _ _ => rfl) hoyW)).mono ?_
  rintro e w' ⟨z, rfl, hgz, hoz⟩
  exact ⟨z, rfl, grew_own (grew_trans (grew_trans h4 h45) hg) (fun b hb => by have := hltx b hb; omega) hgz.1 hgz.2, hoz⟩
theorem start21 {F : Nat} {st : List (List Nd) → List (List Nd) → List (List Nd)} (hst : StFn F st) {x y : List (List Nd)} (hx : altsSmall x) (hy : altsSmall y) {wq v4 v5 v6 : World} {ux uy : Value} (h4 : Grew wq v4) (h45 : Grew v4 v5)
    (hoy : Own (WR AltR) v5 v4.heap.size 76 1 (fun b => v4.heap.size ≤ b) uy y) (hg : Grew v5 v6) (hox : Own (WR AltR) v6 v5.heap.size 76 1 (fun b => v5.heap.size ≤ b) ux x) :
    Calls Tryz.prog F #[ux, uy] v6 fun e w' => ∃ z, e = .returned z ∧ Grew wq w' ∧ Own (WR AltR) w' wq.heap.size 76 1 (fun b => wq.heap.size ≤ b) z (st x y) := by
  have hs4 := h4.1.size
  have hs5 := h45.1.size
  have hs6 := hg.1.size
  have hltx := hox.lt
  have hox6 := (hox.lower (show wq.heap.size ≤ v5.heap.size by omega)).ok_mono (moves_WR moves_alt) (ok' := fun b => wq.heap.size ≤ b) (fun b h _ => by omega)
  have hyl := hy.1
  have hoyW := hoy.slW moves_alt (by omega) (S := fun b => v4.heap.size ≤ b ∧ b < v5.heap.size) (fun b h1 h2 => ⟨h1, h2⟩) (fun b hb => hoy.lt b hb)
  refine (hst x y v6 wq.heap.size ux uy hx hy (by omega) hox6 (moves_WR moves_alts _ _ _ _ _ _ (fun b hb => ⟨by omega, by omega, fun e => by have := hltx b e.symm; omega⟩) (fun b hb => frm_lt hg.1 b hb.2) hoyW)).mono ?_
  rintro e w' ⟨z, rfl, hgz, hoz⟩
  exact ⟨z, rfl, grew_own (grew_trans (grew_trans h4 h45) hg) (fun b hb => by have := hltx b hb; omega) hgz.1 hgz.2, hoz⟩
/-- once, and what follows: the list is added to the rows so far. -/
theorem once_app {L : List (List Nd)} (hL : L.length ≤ 10000 ∧ ∀ l ∈ L, ∀ n ∈ l, Nd.small n) {w6 wq wx : World} {z vf : Value} {acc : List (List (List Nd))} (h6 : Grew w6 wq) (hq : Grew wq wx)
    (hz : Own (WR AltR) wx wq.heap.size 76 1 (fun b => wq.heap.size ≤ b) z L) (hacc : acc.length ≤ 100) (hf : Own (WR AltsR) wq w6.heap.size 50 1 (fun b => w6.heap.size ≤ b) vf acc) :
    Calls Tryz.prog 92 #[z] wx fun e w' => ∃ A c, e = .returned (.slice A (altSet L).length c) ∧ Grew wq w' ∧ ∃ A9 c9 w9,
      (Builtin.append_ #[49, 49] 49 #[vf, .slice (some ⟨w'.heap.size, 0, none⟩) 1 1]).run Tryz.prog (w'.alloc (.cells #[.slice A (altSet L).length c] 50)) = .ok (.slice A9 (acc.length + 1) c9) w9 ∧
      Grew w6 w9 ∧ Own (WR AltsR) w9 w6.heap.size 50 1 (fun b => w6.heap.size ≤ b) (.slice A9 (acc.length + 1) c9) (acc ++ [altSet L]) := by
  have hlz := hz.lt
  refine (once_calls L hL.2 (by omega) wx z hz).mono ?_
  rintro e w' ⟨A, c, rfl, hg, hr⟩
  have hG : Grew wq w' := grew_own hq (fun b hb => (hlz b hb).1) hg.1 hg.2
  have hG2 := grew_then_alloc hG (.cells #[.slice A (altSet L).length c] 50)
  have hf2 := hf.kept (moves_WR moves_alts) hG2.1 (ownNone _) (by simp)
  have htw := OneAt.new w' (.slice A (altSet L).length c) 50
  have hs6 := h6.1.size
  have hsq := hq.1.size
  have hs' := hg.1.size
  have hsG := hG.1.size
  have hlf := hf.lt
  obtain ⟨v9, w9, hrun, ho9, hg9, hp9⟩ := Own.app_run (moves_WR moves_alts) elem_alts hf2 49 (g := w'.heap.size) (altSet L) [.slice A (altSet L).length c] rfl (by
      intro j u hj
      match j with
      | 0 => simp at hj; subst hj; exact htw.cell
      | j + 1 => simp at hj) (by
      intro u hu
      simp at hu
      subst hu
      rfl) (by
      refine moves_WR moves_alts _ _ _ _ _ _ (fun b hb => ?_) (fun b hb => ?_) hr
      · rcases hb with hb | hb
        · refine ⟨by have := hb.1; omega, by have := hb.2.1; simp; omega, fun e => by have := hlf b e.symm; have := hb.1; omega⟩
        · have := hlz b hb.symm
          refine ⟨by omega, by simp; omega, fun e => by have := hlf b e.symm; omega⟩
      · rcases hb with hb | hb
        · exact Below.heap_alloc _ _ _ (by have := hb.2.1; omega)
        · exact Below.heap_alloc _ _ _ (by have := hlz b hb.symm; omega)) (by omega) (by omega) (by simp; omega)
  obtain ⟨A9, c9, he9, _⟩ := ho9.val
  rw [List.length_append, List.length_singleton] at he9
  subst he9
  exact ⟨A, c, rfl, hG, A9, c9, w9, hrun, grew_own (grew_trans h6 hG2) (fun b hb => (hlf b hb).1) hg9.1 hg9.2, ho9⟩

set_option maxRecDepth 100000 in
set_option maxHeartbeats 2000000 in
theorem joined_calls (F : Nat) (st : List (List Nd) → List (List Nd) → List (List Nd)) (hst : StFn F st) (eg : ∀ args w, (callFunc F args).run Tryz.prog w = .ok (.enter F args) w)
    (hsl : ∀ x y, altsSmall x → altsSmall y → (st x y).length ≤ 10000 ∧ ∀ l ∈ st x y, ∀ n ∈ l, Nd.small n)
    (a b : Au) (w : World) (r m r' m' : Value) (ha : rdO AuR w a [r, .int .i64 a.start, m]) (hb : rdO AuR w b [r', .int .i64 b.start, m']) :
    Calls Tryz.prog 58 #[.agg #[r, .int .i64 a.start, m], .agg #[r', .int .i64 b.start, m'], .func (.func F) #[] #[]] w (RetA w (joinV st a b) (joinE st a b)) := by
  obtain ⟨hR, hM, hs1, hs2⟩ := AuR.parts ha
  obtain ⟨hR', hM', hs1', hs2'⟩ := AuR.parts hb
  obtain ⟨A, c, rfl, hc, hlm⟩ := hR.val
  obtain ⟨B, d, rfl, hd, hlm2⟩ := hM.val
  obtain ⟨A', c', rfl, hc', hlm'⟩ := hR'.val
  obtain ⟨B', d', rfl, hd', hlm2'⟩ := hM'.val
  have HA := Lib.hid ha
  have HB := Lib.hid hb
  clear ha hb
  obtain ⟨w2, hw2⟩ : ∃ w2, w2 = ((w.alloc (.cells #[.slice A a.ranks.length c, .int .i64 a.start, .slice B a.moves.length d] 25)).alloc (.cells #[.slice A' b.ranks.length c', .int .i64 b.start, .slice B' b.moves.length d'] 25)).alloc (.cells #[.slice none 0 0, .int .i64 0, .slice none 0 0] 25) := ⟨_, rfl⟩
  have hG2 : Grew w w2 := by rw [hw2]; exact grew_then_alloc (grew_then_alloc (grew_alloc _ _) _) _
  have xa : ThreeAt w2 w.heap.size (.slice A a.ranks.length c) (.int .i64 a.start) (.slice B a.moves.length d) 25 := by
    rw [hw2]; exact ((ThreeAt.new w _ _ _ _).frm (frm_alloc _ _)).frm (frm_alloc _ _)
  have xb : ThreeAt w2 (w.heap.size + 1) (.slice A' b.ranks.length c') (.int .i64 b.start) (.slice B' b.moves.length d') 25 := by
    have h := ThreeAt.new (w.alloc (.cells #[.slice A a.ranks.length c, .int .i64 a.start, .slice B a.moves.length d] 25)) (.slice A' b.ranks.length c') (.int .i64 b.start) (.slice B' b.moves.length d') 25
    rw [World.size_alloc] at h
    rw [hw2]; exact h.frm (frm_alloc _ _)
  have xo : ThreeAt w2 (w.heap.size + 2) (.slice none 0 0) (.int .i64 0) (.slice none 0 0) 25 := by
    have h := ThreeAt.new ((w.alloc (.cells #[.slice A a.ranks.length c, .int .i64 a.start, .slice B a.moves.length d] 25)).alloc (.cells #[.slice A' b.ranks.length c', .int .i64 b.start, .slice B' b.moves.length d'] 25)) (.slice none 0 0) (.int .i64 0) (.slice none 0 0) 25
    rw [World.size_alloc, World.size_alloc] at h
    rw [hw2]; exact h
  have hP := pair_calls a b w2 _ _ _ _ (rdO_frm moves_au hG2.1 HA.out) (rdO_frm moves_au hG2.1 HB.out)
  rw [hw2] at hP
  have HP := Lib.hid hP
  have HW2 := Lib.hid hw2
  clear hw2 hP
  go_enter Tryz.func58, Tryz.ntmps58
  go_wp2_with fail
  refine HP.out.mono ?_
  rw [← HW2.out]
  rintro e w3 ⟨rfl, hf3⟩
  have hG3 := grew_trans hG2 hf3
  replace xa := xa.frm hf3.1
  replace xb := xb.frm hf3.1
  replace xo := xo.frm hf3.1
  obtain ⟨xa0, xa1, xa2⟩ := xa.cells
  obtain ⟨xb0, xb1, xb2⟩ := xb.cells
  obtain ⟨xo0, xo1, xo2⟩ := xo.cells
  have xof := xo.free
  have hs3 := xo.lt
  by_cases hE : pairE a b = 0
  · obtain ⟨hao, hbo, hrk⟩ : a.ok = true ∧ b.ok = true ∧ a.ranks = b.ranks := by
      unfold pairE at hE
      cases h1 : a.ok
      · simp [h1] at hE
      · cases h2 : b.ok
        · simp [h1, h2] at hE
        · by_cases h3 : a.ranks = b.ranks
          · exact ⟨rfl, rfl, h3⟩
          · simp [h1, h2, h3] at hE
    have hla := (ok_rows hao).1
    have hlb := (ok_rows hbo).1
    have hlr := (ranksOk_parts (ok_parts hao).1).1
    have HAO := Lib.hid hao
    have HBO := Lib.hid hbo
    have HRK := Lib.hid hrk
    rw [hE]
    have HE := Lib.hid hE
    clear hao hbo hrk hE
    go_wp2_with fail
    have tn := OneAt.new w3 (.int .i64 a.moves.length) 3
    have hG4 : Grew w (w3.alloc (.cells #[.int .i64 a.moves.length] 3)) := grew_then_alloc hG3 _
    have hs4 : (w3.alloc (.cells #[.int .i64 a.moves.length] 3)).heap.size = w3.heap.size + 1 := World.size_alloc _ _
    replace xa := xa.frm (frm_alloc w3 (.cells #[.int .i64 a.moves.length] 3))
    replace xb := xb.frm (frm_alloc w3 (.cells #[.int .i64 a.moves.length] 3))
    replace xo := xo.frm (frm_alloc w3 (.cells #[.int .i64 a.moves.length] 3))
    have HN : Hid (a.n = a.moves.length) := rfl
    clear xa0 xa1 xa2 xb0 xb1 xb2 xo0 xo1 xo2 xof
    generalize w3.alloc (.cells #[.int .i64 a.moves.length] 3) = w4 at *
    go_cut [10] (fun s10 wx => ∃ g, s10 = .pointer (some ⟨g, 0, none⟩) ∧ JMid w4 g a.ranks (a.moves.length + b.moves.length) wx)
    case first =>
      obtain ⟨xa0, xa1, xa2⟩ := xa.cells
      obtain ⟨xb0, xb1, xb2⟩ := xb.cells
      have tn0 := tn.cell
      have hk0 : ∀ wx, wx = w4.drew → (Grew w4 wx ∧ wx.cell? ⟨w.heap.size, 0, none⟩ = some (.slice A a.ranks.length c) ∧ wx.cell? ⟨w3.heap.size, 0, none⟩ = some (.int .i64 a.moves.length) ∧ wx.cell? ⟨w.heap.size + 1, 2, none⟩ = some (.slice B' b.moves.length d')) := by
        rintro wx rfl
        exact ⟨grew_drew _, xa0, tn0, xb2⟩
      have hks : ∀ v1 v2 : World, Grew v1 v2 → (Grew w4 v1 ∧ v1.cell? ⟨w.heap.size, 0, none⟩ = some (.slice A a.ranks.length c) ∧ v1.cell? ⟨w3.heap.size, 0, none⟩ = some (.int .i64 a.moves.length) ∧ v1.cell? ⟨w.heap.size + 1, 2, none⟩ = some (.slice B' b.moves.length d')) → (Grew w4 v2 ∧ v2.cell? ⟨w.heap.size, 0, none⟩ = some (.slice A a.ranks.length c) ∧ v2.cell? ⟨w3.heap.size, 0, none⟩ = some (.int .i64 a.moves.length) ∧ v2.cell? ⟨w.heap.size + 1, 2, none⟩ = some (.slice B' b.moves.length d')) :=
        fun v1 v2 hf h => ⟨grew_trans h.1 hf, frm_cell hf.1 h.2.1, frm_cell hf.1 h.2.2.1, frm_cell hf.1 h.2.2.2⟩
      have hka : ∀ (v1 : World) (o : Obj), (Grew w4 v1 ∧ v1.cell? ⟨w.heap.size, 0, none⟩ = some (.slice A a.ranks.length c) ∧ v1.cell? ⟨w3.heap.size, 0, none⟩ = some (.int .i64 a.moves.length) ∧ v1.cell? ⟨w.heap.size + 1, 2, none⟩ = some (.slice B' b.moves.length d')) → (Grew w4 (v1.alloc o) ∧ (v1.alloc o).cell? ⟨w.heap.size, 0, none⟩ = some (.slice A a.ranks.length c) ∧ (v1.alloc o).cell? ⟨w3.heap.size, 0, none⟩ = some (.int .i64 a.moves.length) ∧ (v1.alloc o).cell? ⟨w.heap.size + 1, 2, none⟩ = some (.slice B' b.moves.length d')) :=
        fun v1 o h => hks _ _ (grew_alloc _ _) h
      have hkc : ∀ (v1 : World) (g o : Nat) (x : Value), w4.heap.size ≤ g → (Grew w4 v1 ∧ v1.cell? ⟨w.heap.size, 0, none⟩ = some (.slice A a.ranks.length c) ∧ v1.cell? ⟨w3.heap.size, 0, none⟩ = some (.int .i64 a.moves.length) ∧ v1.cell? ⟨w.heap.size + 1, 2, none⟩ = some (.slice B' b.moves.length d')) → (Grew w4 (v1.setCell ⟨g, o, none⟩ x) ∧ (v1.setCell ⟨g, o, none⟩ x).cell? ⟨w.heap.size, 0, none⟩ = some (.slice A a.ranks.length c) ∧ (v1.setCell ⟨g, o, none⟩ x).cell? ⟨w3.heap.size, 0, none⟩ = some (.int .i64 a.moves.length) ∧ (v1.setCell ⟨g, o, none⟩ x).cell? ⟨w.heap.size + 1, 2, none⟩ = some (.slice B' b.moves.length d')) := by
        intro v1 g o x hg h
        refine ⟨grew_set_new h.1 hg _ _, ?_, ?_, ?_⟩
        · rw [World.cell?_setCell_other _ _ _ _ (by intro e; injection e with e; omega)]; exact h.2.1
        · rw [World.cell?_setCell_other _ _ _ _ (by intro e; injection e with e; omega)]; exact h.2.2.1
        · rw [World.cell?_setCell_other _ _ _ _ (by intro e; injection e with e; omega)]; exact h.2.2.2
      have HKC := Lib.hid hkc
      have HK := Lib.hid hks
      have HK0 := Lib.hid hk0
      have HKA := Lib.hid hka
      have HC : Hid (∀ wx, Grew w4 wx → Calls Tryz.prog 41 #[.slice A a.ranks.length c] wx fun e w' => ∃ u, e = .returned u ∧ Grew wx w' ∧ Own IntR w' wx.heap.size 3 1 (fun _ => True) u a.ranks) := fun wx hg => cloneI_calls a.ranks wx _ (hR.frm (grew_trans hG4 hg).1 (stays_rd moves_int)) (by omega)
      have hsum : IntKind.i64.wrap ((a.moves.length : Int) + b.moves.length) = (a.moves.length : Int) + b.moves.length := IntWalk.i64_in _ (by omega)
      clear hks hk0 hka hkc
      go_region_held3 (fun wx => Grew w4 wx ∧ wx.cell? ⟨w.heap.size, 0, none⟩ = some (.slice A a.ranks.length c) ∧ wx.cell? ⟨w3.heap.size, 0, none⟩ = some (.int .i64 a.moves.length) ∧ wx.cell? ⟨w.heap.size + 1, 2, none⟩ = some (.slice B' b.moves.length d')) (first | exact HK0.out _ rfl | exact HK.out _ _ (by assumption) (by assumption) | exact HKA.out _ _ (by assumption) | exact HKC.out _ _ _ _ (by omega) (HKC.out _ _ _ _ (by omega) (HKC.out _ _ _ _ (by omega) (by assumption)))) ((go_at_call 41; refine (HC.out _ (And.left (by assumption))).mono ?_; rintro e v5 ⟨u5, rfl, hg5, ho5⟩; obtain ⟨Au5, cu5, rfl, hcu5⟩ := ho5.val; obtain ⟨hcc5, hcf5⟩ := grew_cells hg5; have hS5 := HK.out _ _ hg5 (by assumption)))
      · go_wp2_with fail
        go_meet
        case rel => exact ⟨_, rfl, JMid.one (grew_drew _) hg5 ho5 hlr⟩
      · go_wp2_with fail
        go_meet
        case rel => exact ⟨_, rfl, by rw [← hs4]; exact JMid.two (grew_trans (grew_alloc _ _) (grew_drew _)) (Nat.le_refl _) (ThreeAt.new _ _ _ _ _) hg5 ho5 hlr⟩
    case rest =>
      obtain ⟨g, rfl, r5, hG5, hg4, hO5, hR5⟩ := hcut
      obtain ⟨Ar, cr, hr5⟩ : ∃ Ar cr, r5 = .slice Ar a.ranks.length cr := by
        obtain ⟨v', hve, hsl⟩ := id hR5
        obtain ⟨A9, c9, rfl, _⟩ := hsl.val
        simp only [List.cons.injEq, and_true] at hve
        exact ⟨_, _, hve⟩
      subst hr5
      obtain ⟨tA0, tA1, tA2⟩ := (xa.frm hG5.1).cells
      obtain ⟨tB0, tB1, tB2⟩ := (xb.frm hG5.1).cells
      have tn5 := (tn.frm_of hG5.1).cell
      have hgs : g < wc.heap.size := hO5.1.lt
      have hGw5 : Grew w wc := grew_trans hG4 hG5
      have HM := Lib.hid hM
      have HM' := Lib.hid hM'
      have hrA : MovesR (fun b => b < w.heap.size) wc a.moves [.slice B a.moves.length d] := ⟨_, rfl, (HM.out.move (fun b hb => hb) (frm_lt hGw5.1) fun x _ cs h => moves_rule _ _ _ _ _ _ (fun b hb => hb) (frm_lt hGw5.1) h)⟩
      have hws : w.heap.size + 2 < g := by omega
      have HRA := Lib.hid (rows_calls a.moves id 100 #[] g wc.heap.size (.slice Ar a.ranks.length cr) (a.moves.length + b.moves.length) (.slice none 0 0) [] wc _ (enters_of Tryz.func100 (by kernel_rfl) rfl)
        ⟨by omega, fun row hrow => ⟨by have := (ok_rows HAO.out).2 row hrow; omega, fun alts halts => ⟨by have := ((ok_rows HAO.out).2 row hrow).2 alts halts; omega, fun l hl => ⟨by have := (((ok_rows HAO.out).2 row hrow).2 alts halts).2 l hl; omega, fun x hx => ⟨fun w' _ => stay_calls x w', by
          have := ((((ok_rows HAO.out).2 row hrow).2 alts halts).2 l hl).2 x hx
          unfold Nd.small
          simp only [id]
          omega⟩⟩⟩⟩⟩ (by simp) hO5 (fun b hb => by omega) hrA)
      clear hrA hM hM'
      go_wp2_with fail
      refine HRA.out.mono ?_
      rintro e w6 ⟨rfl, hG6, mv6, hO6⟩
      rw [List.nil_append] at hO6
      have tA0' := hG6.cell (by omega) (by omega) tA0
      have tA1' := hG6.cell (by omega) (by omega) tA1
      have tA2' := hG6.cell (by omega) (by omega) tA2
      have tB0' := hG6.cell (by omega) (by omega) tB0
      have tB1' := hG6.cell (by omega) (by omega) tB1
      have tB2' := hG6.cell (by omega) (by omega) tB2
      have tn6 : w6.cell? ⟨w3.heap.size, 0, none⟩ = some (.int .i64 a.n) := hG6.cell (by omega) (by omega) tn5
      have hn06 : 0 ≤ a.n ∧ a.n ≤ 6 := by rw [HN.out]; omega
      have TN6 := Lib.hid tn6
      have hb6 : ∀ b, b < w.heap.size → w6.heap[b]? = w.heap[b]? := fun b hb => (hG6.block b (by omega) (by omega)).trans (frm_lt hGw5.1 b hb)
      have hrB : MovesR (fun b => b < w.heap.size) w6 b.moves [.slice B' b.moves.length d'] := ⟨_, rfl, (HM'.out.move (fun b hb => hb) hb6 fun x _ cs h => moves_rule _ _ _ _ _ _ (fun b hb => hb) hb6 h)⟩
      have HRB := Lib.hid (rows_calls b.moves (later a.n) 101 #[.pointer (some ⟨w3.heap.size, 0, none⟩)] g wc.heap.size (.slice Ar a.ranks.length cr) (a.moves.length + b.moves.length) mv6 (a.moves.map (·.map (mvd id))) w6 _ (enters_of Tryz.func101 (by kernel_rfl) rfl)
        ⟨by omega, fun row hrow => ⟨by have := (ok_rows HBO.out).2 row hrow; omega, fun alts halts => ⟨by have := ((ok_rows HBO.out).2 row hrow).2 alts halts; omega, fun l hl => ⟨by have := (((ok_rows HBO.out).2 row hrow).2 alts halts).2 l hl; omega, fun x hx => by
          have := ((((ok_rows HBO.out).2 row hrow).2 alts halts).2 l hl).2 x hx
          refine ⟨fun w' hw' => later_calls x a.n w' _ (hw'.cell (by omega) (by omega) TN6.out) (by omega) (by omega) (by omega) (by omega), ?_⟩
          unfold Nd.small later
          simp only []
          omega⟩⟩⟩⟩ (by simp; omega) hO6 (fun b hb => by omega) hrB)
      have HN6 := Lib.hid hn06
      clear hrB hb6 tA0 tA1 tA2 tB0 tB1 tB2 tn5 tn6 hn06 hO5 hO6
      go_wp2_with fail
      refine HRB.out.mono ?_
      rintro e w7 ⟨rfl, hG7, mv7, hO7⟩
      have tA0 := hG7.cell (by omega) (by omega) tA0'
      have tA1 := hG7.cell (by omega) (by omega) tA1'
      have tA2 := hG7.cell (by omega) (by omega) tA2'
      have tB1 := hG7.cell (by omega) (by omega) tB1'
      have tB2 := hG7.cell (by omega) (by omega) tB2'
      have tn7 := hG7.cell (by omega) (by omega) TN6.out
      have HG57 := Lib.hid (hG6.trans hG7)
      have HGw7 : Hid (Grew w w7) := GrewG.grew hGw5 (by omega) (by omega) (hG6.trans hG7)
      have HO7 := Lib.hid hO7
      have HR5 := Lib.hid hR5
      have TN7 := Lib.hid tn7
      have hg7 := hO7.1.lt
      clear tA0' tA1' tA2' tB0' tB1' tB2' hO7 hG7 hR5 tn7 HRA HRB
      go_wp2_with fail
      go_loopw [14, 50] (fun z i wr => ∃ k : Nat, k ≤ a.ranks.length ∧ i = .int .i64 k ∧ Grew w7 wr ∧ Own (WR AltsR) wr w7.heap.size 50 1 (fun b => w7.heap.size ≤ b) z ((List.range k).map (joinAt st a b))) (fun _ i _ => a.ranks.length - (intOf i).toNat)
      case atStart => exact ⟨0, Nat.zero_le _, rfl, grew_refl _, Own.nil _ _ _ _ _ _⟩
      case round =>
        obtain ⟨k, hk, rfl, hfr, hQ⟩ := hrel
        by_cases hlt : k < a.ranks.length
        · have hGr : Grew w wr := grew_trans HGw7.out hfr
          obtain ⟨haR, ha1, ha6, ha0, haq, haM⟩ := ok_parts HAO.out
          obtain ⟨hbR, hb1, hb6, hb0, hbq, hbM⟩ := ok_parts HBO.out
          obtain ⟨bA, oA, pA, hBA, hbA, hpA, hrA⟩ := HM.out.at1 _ haq
          obtain ⟨bB, oB, pB, hBB, hbB, hpB, hrB⟩ := HM'.out.at1 _ hbq
          subst hBA hBB
          obtain ⟨hla1, hla2⟩ := haM _ (List.getElem_mem haq)
          obtain ⟨hlb1, hlb2⟩ := hbM _ (List.getElem_mem hbq)
          have hkb : k < b.ranks.length := by rw [← HRK.out]; exact hlt
          have hlaS := symOk_parts (hla2 k (by omega) hlt)
          have hlbS := symOk_parts (hlb2 k (by omega) hkb)
          have eA : a.alts a.start.toNat k = (a.moves[a.start.toNat])[k]'(by omega) := by
            unfold Au.alts
            rw [List.getD_eq_getElem?_getD, List.getD_eq_getElem?_getD, List.getElem?_eq_getElem haq, Option.getD_some, List.getElem?_eq_getElem (by omega), Option.getD_some]
          have eB : b.alts b.start.toNat k = (b.moves[b.start.toNat])[k]'(by omega) := by
            unfold Au.alts
            rw [List.getD_eq_getElem?_getD, List.getD_eq_getElem?_getD, List.getElem?_eq_getElem hbq, Option.getD_some, List.getElem?_eq_getElem (by omega), Option.getD_some]
          have hA2 := RowS.sl hrA
          have hB2 := RowS.sl hrB
          obtain ⟨A2, c2, rfl, hc2, hm2⟩ := hA2.val
          obtain ⟨A4, c4, rfl, hc4, hm4⟩ := hB2.val
          obtain ⟨bA2, oA2, pA2, rfl, hbA2, hpA2, hrA2⟩ := hA2.at1 k (by omega)
          obtain ⟨bB2, oB2, pB2, rfl, hbB2, hpB2, hrB2⟩ := hB2.at1 k (by omega)
          rw [hla1] at hpA
          rw [hlb1, ← HRK.out] at hpB
          rw [← eA] at hrA2 hlaS
          rw [← eB] at hrB2 hlbS
          have hA3 := RowS.sl hrA2
          have hB3 := RowS.sl hrB2
          obtain ⟨A3, c3, rfl, hc3, hm3⟩ := hA3.val
          obtain ⟨A5, c5, rfl, hc5, hm5⟩ := hB3.val
          have hkg : ∀ wx, Grew w7 wx → (Grew w7 wx ∧ wx.cell? ⟨w.heap.size, 1, none⟩ = some (.int .i64 a.start) ∧ wx.cell? ⟨w.heap.size, 2, none⟩ = some (.slice (some ⟨bA, oA, none⟩) a.moves.length d) ∧ wx.cell? ⟨w.heap.size + 1, 1, none⟩ = some (.int .i64 b.start) ∧ wx.cell? ⟨w.heap.size + 1, 2, none⟩ = some (.slice (some ⟨bB, oB, none⟩) b.moves.length d') ∧ wx.cell? ⟨bA, oA + a.start.toNat, none⟩ = some (.slice (some ⟨bA2, oA2, none⟩) a.ranks.length c2) ∧ wx.cell? ⟨bA2, oA2 + k, none⟩ = some (.slice A3 (a.alts a.start.toNat k).length c3) ∧ wx.cell? ⟨bB, oB + b.start.toNat, none⟩ = some (.slice (some ⟨bB2, oB2, none⟩) a.ranks.length c4) ∧ wx.cell? ⟨bB2, oB2 + k, none⟩ = some (.slice A5 (b.alts b.start.toNat k).length c5)) := fun wx hx => by
            have h1 := (grew_trans HGw7.out hx).1
            refine ⟨hx, frm_cell hx.1 tA1, frm_cell hx.1 tA2, frm_cell hx.1 tB1, frm_cell hx.1 tB2, frm_cell h1 hpA, frm_cell h1 hpA2, frm_cell h1 hpB, frm_cell h1 hpB2⟩
          have HKG := Lib.hid hkg
          have hbA3 : ∀ l ∈ a.alts a.start.toNat k, ∀ x ∈ l, 0 ≤ x.1 ∧ x.1 < 4 ∧ 0 ≤ x.2 ∧ x.2 < 6 := by
            rw [eA]
            exact fun l hl => ((((ok_rows HAO.out).2 _ (List.getElem_mem haq)).2 _ (List.getElem_mem _)).2 l hl).2
          have hbB3 : ∀ l ∈ b.alts b.start.toNat k, ∀ x ∈ l, 0 ≤ x.1 ∧ x.1 < 4 ∧ 0 ≤ x.2 ∧ x.2 < 6 := by
            rw [eB]
            exact fun l hl => ((((ok_rows HBO.out).2 _ (List.getElem_mem hbq)).2 _ (List.getElem_mem _)).2 l hl).2
          have hn6 := HN6.out
          have hsA : altsSmall (mvd id (a.alts a.start.toNat k)) := by
            unfold mvd
            refine ⟨by rw [List.length_map]; omega, fun l hl => ?_⟩
            obtain ⟨l', hl', rfl⟩ := List.mem_map.1 hl
            refine ⟨Nat.le_trans (ndSet_len _) (by rw [List.length_map]; have := (hlaS.2.2 l' hl').1; omega), fun n hn => ?_⟩
            rw [List.map_id] at hn
            have := hbA3 l' hl' n ((setL_mem ord_nd _ _).1 hn)
            unfold Nd.small
            omega
          have hsB : altsSmall (mvd (later a.n) (b.alts b.start.toNat k)) := by
            unfold mvd
            refine ⟨by rw [List.length_map]; omega, fun l hl => ?_⟩
            obtain ⟨l', hl', rfl⟩ := List.mem_map.1 hl
            refine ⟨Nat.le_trans (ndSet_len _) (by rw [List.length_map]; have := (hlbS.2.2 l' hl').1; omega), fun n hn => ?_⟩
            obtain ⟨n', hn', rfl⟩ := List.mem_map.1 ((setL_mem ord_nd _ _).1 hn)
            have := hbB3 l' hl' n' hn'
            unfold Nd.small later
            simp only []
            omega
          have HM1 : Hid (∀ wx, Grew wr wx → Calls Tryz.prog 93 #[.slice A3 (a.alts a.start.toNat k).length c3, .func (.func 100) #[] #[]] wx fun e w' => ∃ u, e = .returned u ∧ Grew wr wx ∧ Grew wx w' ∧ Grew wr w' ∧ Own (WR AltR) w' wx.heap.size 76 1 (fun b => wx.heap.size ≤ b) u (mvd id (a.alts a.start.toNat k))) := fun wx hx => by
            refine (moved_calls _ id 100 #[] wx _ (enters_of Tryz.func100 (by kernel_rfl) rfl) (fun l hl x hxl => ⟨fun w' _ => stay_calls x w', ?_⟩) (rdO_frm moves_alts (grew_trans hGr hx).1 hrA2) (by omega) (fun l hl => by have := (hlaS.2.2 l hl).1; omega)).mono ?_
            · have := hbA3 l hl x hxl
              unfold Nd.small
              simp only [id]
              omega
            · rintro e w' ⟨u, rfl, hg, ho⟩
              exact ⟨u, rfl, hx, hg, grew_trans hx hg, ho⟩
          have HM2 : Hid (∀ wx, Grew wr wx → Calls Tryz.prog 93 #[.slice A5 (b.alts b.start.toNat k).length c5, .func (.func 101) #[] #[.pointer (some ⟨w3.heap.size, 0, none⟩)]] wx fun e w' => ∃ u, e = .returned u ∧ Grew wr wx ∧ Grew wx w' ∧ Grew wr w' ∧ Own (WR AltR) w' wx.heap.size 76 1 (fun b => wx.heap.size ≤ b) u (mvd (later a.n) (b.alts b.start.toNat k))) := fun wx hx => by
            refine (moved_calls _ (later a.n) 101 #[.pointer (some ⟨w3.heap.size, 0, none⟩)] wx _ (enters_of Tryz.func101 (by kernel_rfl) rfl) (fun l hl x hxl => ?_) (rdO_frm moves_alts (grew_trans hGr hx).1 hrB2) (by omega) (fun l hl => by have := (hlbS.2.2 l hl).1; omega)).mono ?_
            · have := hbB3 l hl x hxl
              refine ⟨fun w' hw' => later_calls x a.n w' _ (frm_cell (grew_trans hfr (grew_trans hx hw')).1 TN7.out) (by omega) (by omega) (by omega) (by omega), ?_⟩
              unfold Nd.small later
              simp only []
              omega
            · rintro e w' ⟨u, rfl, hg, ho⟩
              exact ⟨u, rfl, hx, hg, grew_trans hx hg, ho⟩
          have HS12 : Hid (∀ v4 v5 v6 ux uy, Grew wr v4 → Grew v4 v5 → Own (WR AltR) v5 v4.heap.size 76 1 (fun b => v4.heap.size ≤ b) ux (mvd id (a.alts a.start.toNat k)) → Grew v5 v6 → Own (WR AltR) v6 v5.heap.size 76 1 (fun b => v5.heap.size ≤ b) uy (mvd (later a.n) (b.alts b.start.toNat k)) →
              Calls Tryz.prog F #[ux, uy] v6 fun e w' => ∃ z, e = .returned z ∧ Grew wr w' ∧ Own (WR AltR) w' wr.heap.size 76 1 (fun b => wr.heap.size ≤ b) z (st (mvd id (a.alts a.start.toNat k)) (mvd (later a.n) (b.alts b.start.toNat k)))) :=
            fun v4 v5 v6 ux uy h4 h45 hx hg hy => start12 hst hsA hsB h4 h45 hx hg hy
          have HS21 : Hid (∀ v4 v5 v6 ux uy, Grew wr v4 → Grew v4 v5 → Own (WR AltR) v5 v4.heap.size 76 1 (fun b => v4.heap.size ≤ b) uy (mvd (later a.n) (b.alts b.start.toNat k)) → Grew v5 v6 → Own (WR AltR) v6 v5.heap.size 76 1 (fun b => v5.heap.size ≤ b) ux (mvd id (a.alts a.start.toNat k)) →
              Calls Tryz.prog F #[ux, uy] v6 fun e w' => ∃ z, e = .returned z ∧ Grew wr w' ∧ Own (WR AltR) w' wr.heap.size 76 1 (fun b => wr.heap.size ≤ b) z (st (mvd id (a.alts a.start.toNat k)) (mvd (later a.n) (b.alts b.start.toNat k)))) :=
            fun v4 v5 v6 ux uy h4 h45 hy hg hx => start21 hst hsA hsB h4 h45 hy hg hx
          have hlk : ((List.range k).map (joinAt st a b)).length = k := by simp
          obtain ⟨Az, cz, hze, hzc⟩ := hQ.val
          rw [hlk] at hze hzc
          subst hze
          have HT : Hid ((List.range (k + 1)).map (joinAt st a b) = (List.range k).map (joinAt st a b) ++ [joinAt st a b k]) := by
            unfold Hid
            rw [List.range_succ, List.map_append]
            rfl
          have HON : Hid (∀ wx z, Grew wr wx → Own (WR AltR) wx wr.heap.size 76 1 (fun b => wr.heap.size ≤ b) z (st (mvd id (a.alts a.start.toNat k)) (mvd (later a.n) (b.alts b.start.toNat k))) →
              Calls Tryz.prog 92 #[z] wx fun e w' => ∃ A c, e = .returned (.slice A (joinAt st a b k).length c) ∧ Grew wr w' ∧ ∃ A9 c9 w9,
                (Builtin.append_ #[49, 49] 49 #[.slice Az k cz, .slice (some ⟨w'.heap.size, 0, none⟩) 1 1]).run Tryz.prog (w'.alloc (.cells #[.slice A (joinAt st a b k).length c] 50)) = .ok (.slice A9 (k + 1) c9) w9 ∧
                Grew w7 w9 ∧ Own (WR AltsR) w9 w7.heap.size 50 1 (fun b => w7.heap.size ≤ b) (.slice A9 (k + 1) c9) ((List.range (k + 1)).map (joinAt st a b))) := fun wx z hx hz => by
            have h := once_app (hsl _ _ hsA hsB) hfr hx hz (by rw [hlk]; omega) hQ
            rw [hlk] at h
            rw [HT.out]
            exact h
          have HFR := Lib.hid hfr
          have ia0 : (0 : Int) ≤ a.start := ha0
          have ia1 : a.start < a.moves.length := by omega
          have ib0 : (0 : Int) ≤ b.start := hb0
          have ib1 : b.start < b.moves.length := by omega
          have ik0 : (0 : Int) ≤ (k : Int) := by omega
          have ik1 : (k : Int) < a.ranks.length := by omega
          have HG0 : Grew wr wr.drew := grew_drew _
          clear hQ hfr hkg hsA hsB hbA3 hbB3 hlaS hlbS eA eB hA2 hB2 hA3 hB3 hrA hrB hrA2 hrB2 haM hbM hla2 hlb2 hpA hpA2 hpB hpB2 haR hbR hst hlk
          go_wp2_with fail
          go_region_held3 (fun wx => Grew w7 wx ∧ wx.cell? ⟨w.heap.size, 1, none⟩ = some (.int .i64 a.start) ∧ wx.cell? ⟨w.heap.size, 2, none⟩ = some (.slice (some ⟨bA, oA, none⟩) a.moves.length d) ∧ wx.cell? ⟨w.heap.size + 1, 1, none⟩ = some (.int .i64 b.start) ∧ wx.cell? ⟨w.heap.size + 1, 2, none⟩ = some (.slice (some ⟨bB, oB, none⟩) b.moves.length d') ∧ wx.cell? ⟨bA, oA + a.start.toNat, none⟩ = some (.slice (some ⟨bA2, oA2, none⟩) a.ranks.length c2) ∧ wx.cell? ⟨bA2, oA2 + k, none⟩ = some (.slice A3 (a.alts a.start.toNat k).length c3) ∧ wx.cell? ⟨bB, oB + b.start.toNat, none⟩ = some (.slice (some ⟨bB2, oB2, none⟩) a.ranks.length c4) ∧ wx.cell? ⟨bB2, oB2 + k, none⟩ = some (.slice A5 (b.alts b.start.toNat k).length c5)) (first | exact HKG.out _ (grew_trans HFR.out (by assumption)) | exact HKG.out _ (grew_then_alloc (grew_trans HFR.out (by assumption)) _) | exact HKG.out _ (by assumption)) (first | (rw [if_pos (by rfl)]; refine append_wp (.tmp 53) (.tmp 79) rfl rfl rfl hrun9 ?_) | (go_at_call 93; (with_reducible refine (HM1.out _ (by assumption)).mono ?_); rintro e v5 ⟨ux, rfl, hPx, hgx, hqx, hox⟩; obtain ⟨Ax, cx, rfl, hcx⟩ := hox.val) | (go_at_call 93; (with_reducible refine (HM2.out _ (by assumption)).mono ?_); rintro e v6 ⟨uy, rfl, hPy, hgy, hqy, hoy⟩; obtain ⟨Ay, cy, rfl, hcy⟩ := hoy.val) | (go_at_call 92; (with_reducible refine (HON.out _ _ (by assumption) hoz).mono ?_); rintro e v8 ⟨A8, c8, rfl, hq8, A9, c9, w9, hrun9, hG9, ho9⟩) | (go_at_fn F; (with_reducible refine (HS12.out _ _ _ _ _ hPx hgx hox hgy hoy).mono ?_); rintro e vz ⟨z, rfl, hqz, hoz⟩; obtain ⟨Az5, cz5, rfl, hcz5⟩ := hoz.val) | (go_at_fn F; (with_reducible refine (HS21.out _ _ _ _ _ hPy hgy hoy hgx hox).mono ?_); rintro e vz ⟨z, rfl, hqz, hoz⟩; obtain ⟨Az5, cz5, rfl, hcz5⟩ := hoz.val))
          all_goals
            have HO9 := Lib.hid ho9
            clear ho9 hrun9
            go_wp2_with fail
            exact ⟨⟨k + 1, by omega, by go_num, hG9, HO9.out⟩, by simp [intOf]; omega⟩
        · obtain rfl : k = a.ranks.length := by omega
          obtain ⟨Az, cz, hze, hzc⟩ := hQ.val
          have hlk : ((List.range a.ranks.length).map (joinAt st a b)).length = a.ranks.length := by simp
          rw [hlk] at hze hzc
          subst hze
          have hs7 := hfr.1.size
          have hs57 := HG57.out.size
          have hWq := hQ.slW moves_alts (by omega) (S := fun b => w7.heap.size ≤ b ∧ b < wr.heap.size) (fun b h1 h2 => ⟨h1, h2⟩) (fun b hb => hQ.lt b hb)
          have hO1 := HO7.out.grew hfr
          obtain ⟨hc0, hc1, hc2'⟩ := hO1.1.cells
          obtain ⟨Am, cm, hme, hmc⟩ := hO1.2.2.2.val
          have hlx : (a.moves.map (·.map (mvd id)) ++ b.moves.map (·.map (mvd (later a.n)))).length = a.moves.length + b.moves.length := by simp
          rw [hlx] at hme hmc
          subst hme
          have HWq := Lib.hid hWq
          have HO1 := Lib.hid hO1
          have HLX := Lib.hid hlx
          clear hWq hQ hO1 hlk hlx
          repeat ((fail_if_success at_builtin); first | go_values | go_skip | go_guarded | go_step | go_upon)
          have hf5 : Grew wr (wr.alloc (.cells #[.slice Az a.ranks.length cz] 49)) := grew_alloc _ _
          have hO5 := (HO1.out.grew hf5)
          have htw := OneAt.new wr (.slice Az a.ranks.length cz) 49
          have hlen := HLX.out
          have hltO := hO5.2.2.2.lt
          have hltO1 := HO1.out.2.2.2.lt
          refine Own.app1 (moves_WR moves_rule) elem_rule hO5.2.2.2 rfl _ _ rfl rfl rfl (joinFirst st a b) [.slice Az a.ranks.length cz] rfl ?_ ?_ ?_ (by rw [hlen]; omega) (by omega) (by simp; omega) ?_
          · intro j u hj
            match j with
            | 0 => simp at hj; subst hj; exact htw.cell
            | j + 1 => simp at hj
          · intro u hu
            simp at hu
            subst hu
            rfl
          · refine moves_WR moves_rule _ _ _ _ _ _ (fun q hq => ⟨by omega, by simp; omega, fun e => ?_⟩) (fun q hq => Below.heap_alloc _ _ _ (by omega)) HWq.out
            have hO2 := HO7.out.2.2.2.lt q e.symm
            omega
          intro v8 w8 hO8 hg8 hp8
          have hT8 : ThreeAt w8 g (.slice Ar a.ranks.length cr) (.int .i64 (a.moves.length + b.moves.length)) (.slice Am (a.moves.length + b.moves.length) cm) 25 := hO5.1.move (hg8.1.block g (by simp; omega) (fun e => by have := (hltO g e.symm).1; omega))
          have hG8 : GrewG g wc.heap.size wr w8 := (GrewG.of hf5 (by omega)).trans (.ofR hg8 (by simp; omega) (fun q hq => by have := (hltO q hq).1; omega))
          obtain ⟨A8, c8, he8, hcc8⟩ := hO8.val
          rw [List.length_append, HLX.out, List.length_singleton] at he8
          subst he8
          have hO9 := hO8.kept (moves_WR moves_rule) (w' := w8.setCell ⟨g, 2, none⟩ (.slice A8 (a.moves.length + b.moves.length + 1) c8)) (row := some g) (frm_set (frm_refl _ _) _ _) (.inr fun e => by have := (hO8.lt g e).1; omega) (fun q hq e => by injection e with e; omega)
          have hT9 := hT8.set2 (.slice A8 (a.moves.length + b.moves.length + 1) c8)
          have hG9 := hG8.set 2 (.slice A8 (a.moves.length + b.moves.length + 1) c8)
          have hfz8 := hT8.free 2
          obtain ⟨hd0, hd1, hd2⟩ := hT8.cells
          have hGc9 : GrewG g wc.heap.size wc (w8.setCell ⟨g, 2, none⟩ (.slice A8 (a.moves.length + b.moves.length + 1) c8)) := (HG57.out.trans (.of hfr (by omega))).trans hG9
          have hGw9 : Grew w (w8.setCell ⟨g, 2, none⟩ (.slice A8 (a.moves.length + b.moves.length + 1) c8)) := GrewG.grew hGw5 (by omega) (by omega) hGc9
          have hxo9 : ThreeAt (w8.setCell ⟨g, 2, none⟩ (.slice A8 (a.moves.length + b.moves.length + 1) c8)) (w.heap.size + 2) (.slice none 0 0) (.int .i64 0) (.slice none 0 0) 25 := ((xo.frm hG5.1).move (hGc9.block _ (by omega) (by omega)))
          have HT9 := Lib.hid hT9
          have HXO := Lib.hid hxo9
          have hm13 : a.moves.length + b.moves.length + 1 ≤ 13 := by omega
          have hsl9 := hO9.slW moves_rule (S := fun q => w4.heap.size ≤ q ∧ q < (w8.setCell ⟨g, 2, none⟩ (.slice A8 (a.moves.length + b.moves.length + 1) c8)).heap.size) (by rw [List.length_append, hlen, List.length_singleton]; omega) (fun q h1 h2 => ⟨by omega, h2⟩) (fun q hq => by have := hO9.lt q hq; omega)
          have hsz9 : wc.heap.size ≤ (w8.setCell ⟨g, 2, none⟩ (.slice A8 (a.moves.length + b.moves.length + 1) c8)).heap.size := hGc9.size
          have hrk9 : WR (RowS 1 IntR) (fun q => w4.heap.size ≤ q ∧ q < (w8.setCell ⟨g, 2, none⟩ (.slice A8 (a.moves.length + b.moves.length + 1) c8)).heap.size) (w8.setCell ⟨g, 2, none⟩ (.slice A8 (a.moves.length + b.moves.length + 1) c8)) a.ranks [.slice Ar a.ranks.length cr] := by
            refine moves_WR (moves_row moves_int) _ _ _ _ _ _ (fun q hq => ⟨by omega, by omega⟩) (fun q hq => hGc9.block q hq.2.1 hq.2.2) HR5.out
          generalize hw9 : w8.setCell ⟨g, 2, none⟩ (.slice A8 (a.moves.length + b.moves.length + 1) c8) = w9 at *
          have hAu : WR AuR (fun q => w4.heap.size ≤ q ∧ q < w9.heap.size) w9 (joinA st a b) [.slice Ar a.ranks.length cr, .int .i64 (joinA st a b).start, .slice A8 (a.moves.length + b.moves.length + 1) c8] :=
            ⟨.slice Ar a.ranks.length cr, _, rfl, hrk9, hsl9, by show _ ≤ a.n + b.n; unfold Au.n; omega, by show a.n + b.n ≤ _; unfold Au.n; omega⟩
          have HAU := Lib.hid hAu
          have HCK := Lib.hid (acheck_calls (joinA st a b) w9 _ _ (WR.rd moves_au (moves_WR moves_au _ _ _ _ _ _ (fun q hq => hq.2) (fun _ _ => rfl) hAu)))
          have hst9 : ((a.moves.length : Int) + b.moves.length) = (joinA st a b).start := rfl
          rw [hst9] at hT9
          obtain ⟨he0, he1, he2⟩ := HT9.out.cells
          obtain ⟨hx0, hx1, hx2⟩ := HXO.out.cells
          have hxf := HXO.out.free
          have hxf0 := hxf 0
          have hxf1 := hxf 1
          have hxf2 := hxf 2
          have HGW9 := Lib.hid hGw9
          have hsz := hGw9.1.size
          clear hAu hsl9 hrk9 hO9 hT9 hxf hGc9 hGw9 hst9 hO8 hG8 hT8 hO5
          go_wp2_with fail
          refine HCK.out.mono ?_
          rintro e w10 ⟨rfl, hf10⟩
          have hxo10 := HXO.out.frm hf10.1
          obtain ⟨kx0, kx1, kx2⟩ := hxo10.cells
          have kxf0 := hxo10.free 0
          have kxf1 := hxo10.free 1
          have kxf2 := hxo10.free 2
          obtain ⟨ke0, ke1, ke2⟩ := (HT9.out.frm hf10.1).cells
          rw [show ((a.moves.length : Int) + b.moves.length) = (joinA st a b).start from rfl] at ke1
          have HXO10 := Lib.hid hxo10
          have hG10 := grew_trans HGW9.out hf10
          clear he0 he1 he2 hx0 hx1 hx2 hxf0 hxf1 hxf2 hxo10 hw9
          cases hok : (joinA st a b).ok
          · have HJ : Hid (joinE st a b = 3 ∧ joinV st a b = Au.zero) := by
              have h1 : joinE st a b = 3 := by unfold joinE; rw [if_pos HE.out, if_neg (by rw [hok]; simp)]
              exact ⟨h1, by unfold joinV; rw [h1, if_neg (by omega)]⟩
            clear hok
            go_wp2_with fail
            refine bodyPost_ret (v := .tuple #[.agg #[.slice none 0 0, .int .i64 0, .slice none 0 0], .int .i64 3]) (by simp [results, Tryz.results58, go_sem, kx0, kx1, kx2, kxf0, kxf1, kxf2]) rfl ⟨.slice none 0 0, .slice none 0 0, ?_, ?_, ?_⟩
            · rw [HJ.out.1, HJ.out.2]; rfl
            · exact grew_set_new (grew_set_new (grew_set_new hG10 (by omega) _ _) (by omega) _ _) (by omega) _ _
            · rw [HJ.out.2]
              exact au_zero _ _
          · have HJ : Hid (joinE st a b = 0 ∧ joinV st a b = joinA st a b) := by
              have h1 : joinE st a b = 0 := by unfold joinE; rw [if_pos HE.out, if_pos hok]
              exact ⟨h1, by unfold joinV; rw [if_pos h1]⟩
            clear hok
            go_wp2_with fail
            refine bodyPost_ret (v := .tuple #[.agg #[.slice Ar a.ranks.length cr, .int .i64 (joinA st a b).start, .slice A8 (a.moves.length + b.moves.length + 1) c8], .int .i64 0]) (by simp [results, Tryz.results58, go_sem, kx0, kx1, kx2, kxf0, kxf1, kxf2]) rfl ⟨.slice Ar a.ranks.length cr, .slice A8 (a.moves.length + b.moves.length + 1) c8, ?_, ?_, ?_⟩
            · rw [HJ.out.1, HJ.out.2]
            · exact grew_set_new (grew_set_new (grew_set_new hG10 (by omega) _ _) (by omega) _ _) (by omega) _ _
            · rw [HJ.out.2]
              have hs10 := hf10.1.size
              refine moves_WR moves_au _ _ _ _ _ _ (fun q hq => ⟨by omega, by simp; omega⟩) (fun q hq => ?_) HAU.out
              rw [Below.heap_setCell _ _ _ _ (by show q ≠ w.heap.size + 2; omega), Below.heap_setCell _ _ _ _ (by show q ≠ w.heap.size + 2; omega), Below.heap_setCell _ _ _ _ (by show q ≠ w.heap.size + 2; omega)]
              exact frm_lt hf10.1 q hq.2
  · have hE' : (pairE a b != 0) = true := by simpa using hE
    have xf0 := xof 0
    have xf1 := xof 1
    have xf2 := xof 2
    have HJ : Hid (joinE st a b = pairE a b ∧ joinV st a b = Au.zero) := by
      have h1 : joinE st a b = pairE a b := by unfold joinE; rw [if_neg hE]
      exact ⟨h1, by unfold joinV; rw [h1, if_neg hE]⟩
    clear hE
    go_wp2_with fail
    refine bodyPost_ret (v := .tuple #[.agg #[.slice none 0 0, .int .i64 0, .slice none 0 0], .int .i64 (pairE a b)]) (by simp [results, Tryz.results58, go_sem, xo0, xo1, xo2, xf0, xf1, xf2]) rfl ⟨.slice none 0 0, .slice none 0 0, ?_, ?_, ?_⟩
    · rw [HJ.out.1, HJ.out.2]; rfl
    · exact grew_set_new (grew_set_new (grew_set_new hG3 (by omega) _ _) (by omega) _ _) (by omega) _ _
    · rw [HJ.out.2]
      exact au_zero _ _
end Go.Proofs.YtjpdmncafacmaaaGreatDoor
