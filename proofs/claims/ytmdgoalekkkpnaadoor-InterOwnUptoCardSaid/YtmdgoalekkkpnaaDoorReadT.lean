/- The reader's read: it reads what the plain parser reads. -/
import Derived.Test.YtmdgoalekkkpnaaDoorRead
set_option linter.unusedVariables false
set_option linter.unusedSimpArgs false
namespace Go.Proofs.YtmdgoalekkkpnaaDoor
open Go.RowKit

theorem info_ty : (Tryd.prog.info? 24).map (fun i => (i.zero, i.size, i.bytes)) = some (some (.agg #[.int .i64 0, .slice none 0 0]), 2, 32) := by kernel_rfl
theorem info_set : (Tryd.prog.info? 36).map (fun i => (i.zero, i.size, i.bytes)) = some (some (.slice none 0 0), 1, 24) := by kernel_rfl
theorem elem_ty : ElemInfo Tryd.prog 36 24 2 32 := .of Tryd.underlying36 info_ty rfl (by omega)
theorem elem_set : ElemInfo Tryd.prog 22 36 1 24 := .of Tryd.underlying22 info_set rfl (by omega)

/-- What has been read of a type: the reader's caller's world `w`, the sets so far. -/
structure St (w : World) (g H : Nat) (wr : World) (va : Value) (args : List (List Ty)) : Prop where
  frm : w.grownBy wr (some g)
  res : TwoAt wr w.heap.size (.int .i64 0) (.slice none 0 0) 24
  typ : TwoAt wr (w.heap.size + 1) (.int .i64 0) va 24
  own : Own SetR wr (w.heap.size + 2) 36 1 (fun b => w.heap.size + 2 ≤ b ∧ b < H) va args
  lt : g < w.heap.size
  top : ∀ b, va.ownBlock = some b → b < H
  high : w.heap.size + 2 ≤ H
theorem St.step {w : World} {g H : Nat} {wr w1 : World} {va : Value} {args : List (List Ty)} (h : St w g H wr va args) {row : Option Nat} (hg : wr.grownBy w1 row) (hrow : ∀ b, row = some b → b = g ∨ H ≤ b) : St w g H w1 va args := by
  have hr : ∀ b, w.heap.size ≤ b → b < H → some b ≠ row := fun b h1 h2 e => by
    rcases hrow b e.symm with e | e
    · have := h.lt
      omega
    · omega
  have hH := h.high
  refine ⟨⟨hg.os.trans h.frm.os, hg.tape.trans h.frm.tape, hg.output.trans h.frm.output, Nat.le_trans h.frm.size hg.size, fun i hi hn => ?_⟩, h.res.move (hg.block _ h.res.lt (hr _ (by omega) (by omega))), h.typ.move (hg.block _ h.typ.lt (hr _ (by omega) (by omega))),
    h.own.kept moves_set hg ?_ (fun b hb => hr b (by omega) hb.2), h.lt, h.top, h.high⟩
  · exact (hg.block i (Nat.lt_of_lt_of_le hi h.frm.size) (fun e => by
      rcases hrow i e.symm with e | e
      · exact hn (by rw [e])
      · omega)).trans (h.frm.block i hi hn)
  · cases hv : va.ownBlock with
    | none => exact .inl rfl
    | some b =>
      have := h.own.lt b hv
      exact .inr (hr b (by omega) (h.top b hv))
theorem St.raise {w : World} {g H : Nat} {wr : World} {va : Value} {args : List (List Ty)} (h : St w g H wr va args) {H' : Nat} (hH : H ≤ H') : St w g H' wr va args :=
  ⟨h.frm, h.res, h.typ, h.own.ok_mono moves_set (fun b hb _ => ⟨hb.1, by omega⟩), h.lt, fun b hb => Nat.lt_of_lt_of_le (h.top b hb) hH, Nat.le_trans h.high hH⟩

theorem take_bad (s : ByteArray) (q : Int) (c : UInt8) (hq : q = c.toNat) (w : World) (g : Nat) (hr : RdAt w g s true) :
    Calls Tryd.prog 75 #[.pointer (some ⟨g, 0, none⟩), .int .u8 q] w fun e w' => e = .returned (.bool false) ∧ w = w' := by
  rw [bs_of s] at hr
  exact take_no c _ true q hq (.inl rfl) w g hr

/-- The row of sets with one set more. -/
theorem St.more {w : World} {g H : Nat} {wr : World} {va : Value} {args : List (List Ty)} (h : St w g H wr va args) {w1 : World} {v1 : Value} {args1 : List (List Ty)} (hH : H ≤ wr.heap.size)
    (ho : Own SetR w1 (w.heap.size + 2) 36 1 (fun b => w.heap.size + 2 ≤ b ∧ b < wr.heap.size) v1 args1) (hg : wr.grownBy w1 va.ownBlock) (hp : v1.ownBlock = va.ownBlock ∨ v1.ownBlock = some wr.heap.size) :
    St w g w1.heap.size (w1.setCell ⟨w.heap.size + 1, 1, none⟩ v1) v1 args1 := by
  have hh := h.high
  have hlt := h.lt
  have hlo := h.own.lt
  have hne : ∀ b, b < w.heap.size + 2 → some b ≠ va.ownBlock := fun b hb e => by
    have := hlo b e.symm
    omega
  have h1 := h.res.move (hg.block _ h.res.lt (hne _ (by omega)))
  have h2 := h.typ.move (hg.block _ h.typ.lt (hne _ (by omega)))
  have hg2 : w1.grownBy (w1.setCell ⟨w.heap.size + 1, 1, none⟩ v1) (some (w.heap.size + 1)) := frm_set (frm_refl _ _) _ _
  refine ⟨⟨hg.os.trans h.frm.os, hg.tape.trans h.frm.tape, hg.output.trans h.frm.output, Nat.le_trans h.frm.size (Nat.le_trans hg.size hg2.size), fun i hi hn => ?_⟩, h1.move (hg2.block _ h1.lt (by simp)), h2.set1 _,
    (ho.kept moves_set hg2 ?_ (fun b hb => by simp; omega)).ok_mono moves_set (fun b hb h2 => ⟨hb.1, by simpa using h2⟩), hlt, fun b hb => (ho.lt b hb).2, by have := hg.size; omega⟩
  · rw [hg2.block i (Nat.lt_of_lt_of_le (Nat.lt_of_lt_of_le hi h.frm.size) hg.size) (by simp; omega), hg.block i (Nat.lt_of_lt_of_le hi h.frm.size) (hne _ (by omega))]
    exact h.frm.block i hi hn
  · cases hv : v1.ownBlock with
    | none => exact .inl rfl
    | some b =>
      have := ho.lt b hv
      right
      simp
      omega

/-- One set more is appended: the walk's step. -/
theorem St.app {w : World} {g H : Nat} {wr : World} {va : Value} {args : List (List Ty)} (h : St w g H wr va args) (hH : H ≤ wr.heap.size) {vs : Value} {ts : List Ty}
    (hs : SetR (fun b => H ≤ b ∧ b < wr.heap.size) wr ts [vs]) (hlen : args.length ≤ 70000) {q : Nat} (hq : q = wr.heap.size)
    {ops : Array Oper} {rest : List Oper} {o : Oper} {a : Act} {Q : Exit → Act → World → Prop} (hgd : o.guard = none) (s x : Operand)
    (ho : o.op = .call { callee := .builtin .append, args := #[s, x], argTypes := #[22, 22] }) (hes : a.eval s = va) (hex : a.eval x = .slice (some ⟨q, 0, none⟩) 1 1)
    (K : ∀ v' w4, TwoAt w4 (w.heap.size + 1) (.int .i64 0) va 24 → St w g w4.heap.size (w4.setCell ⟨w.heap.size + 1, 1, none⟩ v') v' (args ++ [ts]) → w4.heap[g]? = wr.heap[g]? → wpList Tryd.prog ops Q rest (a.put o.dst v') w4) :
    wpList Tryd.prog ops Q (o :: rest) a (wr.alloc (.cells #[vs] 36)) := by
  subst hq
  have hA : wr.grownBy (wr.alloc (.cells #[vs] 36)) none := frm_alloc _ _
  have hst := (h.step hA (by simp)).raise hH
  have hhi := h.high
  have hval : vs.oneCell' = true := by
    obtain ⟨v, hv, A, c, rfl, _⟩ := hs
    rw [show vs = .slice A ts.length c by simpa using hv]
    rfl
  refine Own.append1 moves_set elem_set (ok := fun b => w.heap.size + 2 ≤ b ∧ b < wr.heap.size) (hst.own.ok_mono moves_set (fun b hb _ => hb)) hgd s x ho hes hex ts [vs] rfl ?_ ?_ ?_ (by omega) (by omega) (by simp; omega) ?_
  · intro j u hj
    match j with
    | 0 => simp at hj; subst hj; simp
    | j + 1 => simp at hj
  · intro u hu
    rw [List.mem_singleton.1 hu]
    exact hval
  · refine hs.move (fun b hb => ⟨⟨by omega, hb.2⟩, by simp; omega, fun e => ?_⟩) (fun b hb => Below.heap_alloc _ _ _ hb.2)
    have := h.top b e.symm
    omega
  · intro v' w4 hO hg hp
    have hne : ∀ b, b < w.heap.size + 2 → some b ≠ va.ownBlock := fun b hb e => by
      have := h.own.lt b e.symm
      omega
    refine K v' w4 (hst.typ.move (hg.block _ hst.typ.lt (hne _ (by omega)))) ?_ ?_
    · exact (h.step hA (by simp)).more (by simp; omega) (hO.ok_mono moves_set (fun b hb _ => ⟨hb.1, by simp; omega⟩)) hg hp
    · have := h.lt
      rw [hg.block _ (by simp; omega) (hne _ (by omega)), Below.heap_alloc _ _ _ (by omega)]

/-- What read's contract says. -/
def ReadPost (n : Nat) (l : List UInt8) (w : World) (g : Nat) (e : Ending) (w' : World) : Prop :=
  ∃ v0 v1 t, e = .returned (.agg #[v0, v1]) ∧ w.grownBy w' (some g) ∧ TyR (fun b => w.heap.size ≤ b ∧ b < w'.heap.size) w' t [v0, v1] ∧
    ((∃ r, rdT n l [] = some (t, r) ∧ RdAt w' g (bs r) false) ∨ (rdT n l [] = none ∧ ∃ s, RdAt w' g s true))

set_option maxRecDepth 100000 in
set_option maxHeartbeats 1000000 in
theorem read_calls : ∀ (n : Nat) (l : List UInt8), l.length < n → l.length ≤ 65536 → ∀ (w : World) (g : Nat), RdAt w g (bs l) false →
    Calls Tryd.prog 50 #[.pointer (some ⟨g, 0, none⟩)] w (ReadPost n l w g) := by
  intro n
  induction n using Nat.strongRecOn with
  | _ n ih =>
    intro l hln hl w g hrd
    have IH := Lib.hid ih
    clear ih
    have hglt := hrd.lt
    go_enter Tryd.func50, Tryd.ntmps50
    go_wp2_with fail
    go_loopg [] (l.length + 1) (fun k wr => ∃ va args H, St w g H wr va args ∧ H ≤ wr.heap.size ∧ args.length ≤ l.length + 1 ∧
      ((∃ m l', l'.length < m ∧ m ≤ n ∧ l'.length + 1 ≤ k ∧ args.length + l'.length ≤ l.length ∧ RdAt wr g (bs l') false ∧ Hid (rdT n l [] = rdT m l' args)) ∨ (Hid (rdT n l [] = none) ∧ ∃ s, RdAt wr g s true)))
    case atStart =>
      refine ⟨.slice none 0 0, [], w.heap.size + 2, ⟨frm_then_alloc (frm_then_alloc (frm_refl _ _) _) _, (TwoAt.new _ _ _ _).alloc _, by simpa using TwoAt.new (w.alloc _) _ _ _, Own.nil _ _ _ _ _ _, hglt, by simp [Value.ownBlock], Nat.le_refl _⟩, by simp, by simp, .inl ⟨n, l, hln, Nat.le_refl _, Nat.le_refl _, by simp, hrd.move ?_, rfl⟩⟩
      rw [Below.heap_alloc _ _ _ (by simp; omega), Below.heap_alloc _ _ _ hglt]
    case round =>
      obtain ⟨va, args, H, hst, hHw, hal, hmode⟩ := hrel
      rcases hmode with ⟨m, l', hlm, hmn, hlk, hlal, hrd', hspec⟩ | ⟨hspec, s, hrd'⟩
      · obtain ⟨m, rfl⟩ : ∃ q, m = q + 1 := ⟨m - 1, by omega⟩
        by_cases hc : l'.head? = some 91
        · obtain ⟨l1, rfl⟩ : ∃ l1, l' = 91 :: l1 := by
            cases l' with
            | nil => simp at hc
            | cons c l1 => exact ⟨l1, by simpa using hc⟩
          simp only [List.length_cons] at hlm hlk hlal
          clear hc
          go_wp2_with fail
          refine (take_yes 91 l1 91 rfl _ _ hrd').mono ?_
          rintro e w1 ⟨rfl, hg1, hrd1⟩
          have hst1 := hst.step hg1 (fun b hb => .inl (by injection hb with hb; exact hb.symm))
          have hH1 := Nat.le_trans hHw hg1.size
          clear hst hHw hrd'
          by_cases hc : l1.head? = some 93
          · obtain ⟨l2, rfl⟩ : ∃ l2, l1 = 93 :: l2 := by
              cases l1 with
              | nil => simp at hc
              | cons c l2 => exact ⟨l2, by simpa using hc⟩
            simp only [List.length_cons] at hlm hlk hlal
            clear hc
            go_wp2_with fail
            refine (take_yes 93 l2 93 rfl _ _ hrd1).mono ?_
            rintro e w2 ⟨rfl, hg2, hrd2⟩
            have hst2 := hst1.step hg2 (fun b hb => .inl (by injection hb with hb; exact hb.symm))
            have hH2 := Nat.le_trans hH1 hg2.size
            clear hst1 hH1 hrd1
            obtain ⟨k1, k2, k3, k4⟩ := hst2.typ.cells
            have kl := hst2.typ.lt
            dsimp only
            repeat ((fail_if_success at_builtin); first | go_values | go_skip | go_guarded | go_step | go_upon)
            refine hst2.app hH2 (vs := .slice none 0 0) (ts := []) ⟨_, rfl, none, 0, rfl, by simp, by simp, by simp⟩ (by omega) rfl rfl _ _ rfl rfl rfl ?_
            intro v4 w4 ht4 hst4 hg4
            obtain ⟨A4, c4, rfl, _⟩ := hst4.own.val
            simp only [List.length_append, List.length_cons, List.length_nil, Nat.zero_add] at hst4
            clear k1 k2 k3 k4 kl
            obtain ⟨k1, k2, k3, k4⟩ := ht4.cells
            have kl := ht4.lt
            repeat ((fail_if_success at_builtin); first | go_values | go_skip | go_guarded | go_step | go_upon)
            go_roundg (l2.length + 1)
            case measure => omega
            case rel => exact ⟨_, args ++ [[]], _, hst4, by simp, by simp; omega, .inl ⟨m, l2, by omega, by omega, Nat.le_refl _, by simp; omega, hrd2.move (by rw [Below.heap_setCell _ _ _ _ (by have := hst2.lt; simp; omega)]; exact hg4), by unfold Hid; rw [hspec.out, rdT_empty]⟩⟩
          · go_wp2_with fail
            refine (take_no 93 l1 false 93 rfl (.inr hc) _ _ hrd1).mono ?_
            rintro e w2 ⟨rfl, rfl⟩
            go_wp2_with fail
            refine (IH.out m (by omega) l1 (by omega) (by omega) _ _ hrd1).mono ?_
            rintro e w2 ⟨v0, v1, t, rfl, hg2, hty, hcase⟩
            obtain ⟨s1, A1, n1, c1, rfl, rfl⟩ := hty.vals
            have hst2 := (hst1.step hg2 (fun b hb => .inl (by injection hb with hb; exact hb.symm))).raise hH1
            have hA : w2.grownBy (w2.alloc (.cells #[.int .i64 s1, .slice A1 n1 c1] 24)) none := frm_alloc _ _
            have hHk := hg2.size
            dsimp only
            repeat ((fail_if_success at_builtin); first | go_values | go_skip | go_guarded | go_step | go_upon)
            refine Own.append1 moves_ty elem_ty (Own.nil TyR _ w1.heap.size 24 2 (fun b => w1.heap.size ≤ b)) rfl _ _ rfl rfl rfl t [.int .i64 s1, .slice A1 n1 c1] rfl ?_ ?_ ?_ (by simp) (by omega) (by simp; omega) ?_
            · intro j u hj
              match j with
              | 0 => simp at hj; subst hj; simp
              | 1 => simp at hj; subst hj; simp
              | j + 2 => simp at hj
            · intro u hu
              simp at hu
              rcases hu with rfl | rfl <;> rfl
            · exact hty.move (fun b hb => ⟨hb.1, by simp; omega, by simp [Value.ownBlock]⟩) (fun b hb => Below.heap_alloc _ _ _ hb.2)
            intro v4 w4 hO4 hg4 hp4
            have hst4 := (hst2.step hA (by simp)).step hg4 (by simp [Value.ownBlock])
            have hg24 := frm_trans hA hg4
            obtain ⟨A4, c4, rfl, _⟩ := hO4.val
            simp only [List.nil_append, List.length_cons, List.length_nil, Nat.zero_add] at hO4 hO4
            have HS1 : Hid (∀ us l4, ∀ r, rdT m l1 [] = some (t, r) → rdS m r [t] = some (us, l4) → rdT (m + 1) (91 :: l1) args = rdT m l4 (args ++ [us])) := fun us l4 r h1 h2 => rdT_set m l1 r l4 args t us hc h1 h2
            have HS2 : Hid (∀ r, rdT m l1 [] = some (t, r) → rdS m r [t] = none → rdT (m + 1) (91 :: l1) args = none) := fun r h1 h2 => rdT_none2 m l1 r args t hc h1 h2
            have HS3 : Hid (rdT m l1 [] = none → rdT (m + 1) (91 :: l1) args = none) := fun h => rdT_none m l1 args hc h
            clear hc hst1 hrd1 hst2 hty
            repeat ((fail_if_success at_builtin); first | go_values | go_skip | go_guarded | go_step | go_upon)
            obtain ⟨wo, rfl⟩ : ∃ wo : World, wo = wr := ⟨_, rfl⟩
            go_loopg [4] (l1.length + 1) (fun k vs wr => ∃ ts, Own TyR wr w1.heap.size 24 2 (fun b => w1.heap.size ≤ b) vs ts ∧ St w g w1.heap.size wr va args ∧ ts.length ≤ l1.length + 1 ∧ w1.heap.size ≤ wr.heap.size ∧
              ((∃ m2 l2, l2.length < m2 ∧ m2 ≤ m ∧ l2.length + 1 ≤ k ∧ ts.length + l2.length ≤ l1.length ∧ RdAt wr g (bs l2) false ∧ Hid (∀ us l4, rdS m2 l2 ts = some (us, l4) → rdT (m + 1) (91 :: l1) args = rdT m l4 (args ++ [us])) ∧ Hid (rdS m2 l2 ts = none → rdT (m + 1) (91 :: l1) args = none)) ∨
                (Hid (rdT n l [] = none) ∧ ∃ s, RdAt wr g s true)))
            case atStart =>
              have hgg : w4.heap[g]? = w2.heap[g]? := hg24.block _ (Nat.lt_of_lt_of_le hglt (Nat.le_trans (Nat.le_trans (Nat.le_of_lt hst4.res.lt |> fun _ => hst4.frm.size |> fun _ => Nat.le_refl _) (Nat.le_refl _)) (by have := hst4.high; have := hg2.size; omega))) (by simp)
              refine ⟨[t], hO4, hst4, by simp, by have := hg24.size; omega, ?_⟩
              rcases hcase with ⟨r, h1, h2⟩ | ⟨h1, s, h2⟩
              · have := (rd_less m).1 _ _ _ _ h1
                exact .inl ⟨m, r, by omega, Nat.le_refl _, by omega, by simp; omega, h2.move hgg, fun us l4 h => HS1.out us l4 r h1 h, fun h => HS2.out r h1 h⟩
              · exact .inr ⟨by unfold Hid; rw [hspec.out]; exact HS3.out h1, s, h2.move hgg⟩
            case round =>
              obtain ⟨ts, hO, hst5, htl, hHw, hmode2⟩ := hrel
              clear hO4 hst4 hcase HS1 HS2 HS3
              rcases hmode2 with ⟨m2, l2, hlm2, hm2, hlk2, htl2, hrd2, hs1, hs2⟩ | ⟨hbad, s, hrd2⟩
              · obtain ⟨A5, c5, rfl, _⟩ := hO.val
                by_cases hc2 : l2.head? = some 44
                · obtain ⟨l5, rfl⟩ : ∃ l5, l2 = 44 :: l5 := by
                    cases l2 with
                    | nil => simp at hc2
                    | cons c l5 => exact ⟨l5, by simpa using hc2⟩
                  obtain ⟨m3, rfl⟩ : ∃ q, m2 = q + 1 := ⟨m2 - 1, by omega⟩
                  simp only [List.length_cons] at hlm2 hlk2 htl2
                  clear hc2
                  go_wp2_with fail
                  refine (take_yes 44 l5 44 rfl _ _ hrd2).mono ?_
                  rintro e w5 ⟨rfl, hg5, hrd5⟩
                  go_wp2_with fail
                  refine (IH.out m3 (by omega) l5 (by omega) (by omega) _ _ hrd5).mono ?_
                  rintro e w6 ⟨v0, v1, t6, rfl, hg6, hty6, hcase6⟩
                  obtain ⟨s6, A6, n6, c6, rfl, rfl⟩ := hty6.vals
                  have hg56 := frm_trans hg5 hg6
                  have hst6 := hst5.step hg56 (fun b hb => .inl (by injection hb with hb; exact hb.symm))
                  have hO6 := hO.kept moves_ty hg56 (by
                    cases hv : Value.ownBlock (.slice A5 ts.length c5) with
                    | none => exact .inl rfl
                    | some b =>
                      have := hO.lt b hv
                      have := hst5.high
                      right
                      intro e
                      injection e with e
                      omega) (fun b hb e => by have := hst5.high; injection e with e; omega)
                  have hA6 : w6.grownBy (w6.alloc (.cells #[.int .i64 s6, .slice A6 n6 c6] 24)) none := frm_alloc _ _
                  have hO7 := hO6.kept moves_ty hA6 (by cases Value.ownBlock (.slice A5 ts.length c5) <;> simp) (by simp)
                  have hs56 := hg5.size
                  have hs66 := hg6.size
                  have hrc : ∀ r, rdT m3 l5 [] = some (t6, r) → r.length < l5.length := fun r h => (rd_less m3).1 _ _ _ _ h
                  have hlt5 := hO.lt
                  dsimp only
                  repeat ((fail_if_success at_builtin); first | go_values | go_skip | go_guarded | go_step | go_upon)
                  refine Own.append1 moves_ty elem_ty hO7 rfl _ _ rfl rfl rfl t6 [.int .i64 s6, .slice A6 n6 c6] rfl ?_ ?_ ?_ (by omega) (by omega) (by simp; omega) ?_
                  · intro j u hj
                    match j with
                    | 0 => simp at hj; subst hj; simp
                    | 1 => simp at hj; subst hj; simp
                    | j + 2 => simp at hj
                  · intro u hu
                    simp at hu
                    rcases hu with rfl | rfl <;> rfl
                  · exact hty6.move (fun b hb => ⟨by omega, by simp; omega, fun e => by have := (hlt5 b e.symm).2; omega⟩) (fun b hb => Below.heap_alloc _ _ _ hb.2)
                  intro v7 w7 hO8 hg7 hp7
                  have hst7 := (hst6.step hA6 (by simp)).step hg7 (fun b hb => .inr (hlt5 b hb).1)
                  obtain ⟨A7, c7, rfl, _⟩ := hO8.val
                  simp only [List.length_append, List.length_cons, List.length_nil, Nat.zero_add] at hO8
                  have hgg : w7.heap[g]? = w6.heap[g]? := by
                    have hh := hst5.high
                    rw [hg7.block g (by simp; omega) (fun e => by have := (hlt5 g e.symm).1; omega), Below.heap_alloc _ _ _ (by omega)]
                  repeat ((fail_if_success at_builtin); first | go_values | go_skip | go_guarded | go_step | go_upon)
                  go_roundg (l5.length + 1)
                  case measure => omega
                  case rel =>
                    refine ⟨ts ++ [t6], by simpa using hO8, hst7, by simp; omega, by have := hg7.size; simp at this; omega, ?_⟩
                    rcases hcase6 with ⟨r, h1, h2⟩ | ⟨h1, s, h2⟩
                    · have := hrc r h1
                      exact .inl ⟨m3, r, by omega, by omega, by omega, by simp; omega, h2.move hgg, fun us l4 h => hs1.out us l4 (by rw [rdS_comma m3 l5 r ts t6 h1]; exact h), fun h => hs2.out (by rw [rdS_comma m3 l5 r ts t6 h1]; exact h)⟩
                    · exact .inr ⟨by unfold Hid; rw [hspec.out]; exact hs2.out (rdS_comma_none m3 l5 ts h1), s, h2.move hgg⟩
                · go_wp2_with fail
                  refine (take_no 44 l2 false 44 rfl (.inr hc2) _ _ hrd2).mono ?_
                  rintro e w5 ⟨rfl, rfl⟩
                  by_cases hc3 : l2.head? = some 93
                  · obtain ⟨l6, rfl⟩ : ∃ l5, l2 = 93 :: l5 := by
                      cases l2 with
                      | nil => simp at hc3
                      | cons c l5 => exact ⟨l5, by simpa using hc3⟩
                    obtain ⟨m3, rfl⟩ : ∃ q, m2 = q + 1 := ⟨m2 - 1, by omega⟩
                    simp only [List.length_cons] at hlm2 hlk2 htl2
                    clear hc2 hc3
                    go_wp2_with fail
                    refine (take_yes 93 l6 93 rfl _ _ hrd2).mono ?_
                    rintro e w6 ⟨rfl, hg6, hrd6⟩
                    have hspec6 : Hid (rdT n l [] = rdT m l6 (args ++ [ts])) := by
                      unfold Hid
                      rw [hspec.out]
                      exact hs1.out ts l6 (rdS_close m3 l6 ts)
                    have hst6 := hst5.step hg6 (fun b hb => .inl (by injection hb with hb; exact hb.symm))
                    have hH6 := Nat.le_trans hHw hg6.size
                    have hhi := hst5.high
                    have hO6 := hO.kept moves_ty hg6 (by
                      cases hv : Value.ownBlock (.slice A5 ts.length c5) with
                      | none => exact .inl rfl
                      | some b =>
                        have := hO.lt b hv
                        right
                        intro e
                        injection e with e
                        omega) (fun b hb e => by injection e with e; omega)
                    clear hs1 hs2 hO hst5 hrd2
                    obtain ⟨k1, k2, k3, k4⟩ := hst6.typ.cells
                    have kl := hst6.typ.lt
                    obtain ⟨q1, q2, q3, q4⟩ := hrd6.cells
                    have hgl6 := hrd6.lt
                    have hne6 : g ≠ w.heap.size + 1 := by omega
                    have hst7 := hst6.step (frm_set (g := g) (frm_refl w6 _) 1 (.bool false)) (fun b hb => .inl (by injection hb with hb; exact hb.symm))
                    have hrd7 := hrd6.set1 false
                    have hO7 := hO6.kept moves_ty (frm_set (g := g) (frm_refl w6 _) 1 (.bool false)) (by
                      cases hv : Value.ownBlock (.slice A5 ts.length c5) with
                      | none => exact .inl rfl
                      | some b =>
                        have := hO6.lt b hv
                        right
                        intro e
                        injection e with e
                        omega) (fun b hb e => by injection e with e; omega)
                    have hsr : SetR (fun b => w1.heap.size ≤ b ∧ b < (w6.setCell ⟨g, 1, none⟩ (.bool false)).heap.size) (w6.setCell ⟨g, 1, none⟩ (.bool false)) ts [.slice A5 ts.length c5] :=
                      ⟨_, rfl, hO7.sl moves_ty (by omega) (fun b h1 h2 => ⟨h1, h2⟩) (fun b h1 h2 => ⟨h1, h2⟩)⟩
                    dsimp only
                    repeat ((fail_if_success at_builtin); first | go_values | go_skip | go_guarded | go_step | go_upon)
                    refine hst7.app (by simpa using hH6) (ts := ts) hsr (by omega) (by simp) rfl _ _ rfl rfl rfl ?_
                    intro v9 w9 ht9 hst9 hg9
                    obtain ⟨A9, c9, rfl, _⟩ := hst9.own.val
                    simp only [List.length_append, List.length_cons, List.length_nil, Nat.zero_add] at hst9
                    clear k1 k2 k3 k4 kl
                    obtain ⟨k1, k2, k3, k4⟩ := ht9.cells
                    have kl := ht9.lt
                    repeat ((fail_if_success at_builtin); first | go_values | go_skip | go_guarded | go_step | go_upon)
                    have hrd9 := hrd7.move (w' := w9.setCell ⟨w.heap.size + 1, 1, none⟩ (.slice A9 (args.length + 1) c9)) (by rw [Below.heap_setCell _ _ _ _ (by simp; omega)]; exact hg9)
                    go_roundg (l6.length + 1)
                    case measure => omega
                    case rel => exact ⟨_, args ++ [ts], _, hst9, by simp, by simp; omega, .inl ⟨m, l6, by omega, by omega, Nat.le_refl _, by simp; omega, hrd9, hspec6⟩⟩
                    
                  · go_wp2_with fail
                    refine (take_no 93 l2 false 93 rfl (.inr hc3) _ _ hrd2).mono ?_
                    rintro e w6 ⟨rfl, rfl⟩
                    have hbadT : Hid (rdT n l [] = none) := by
                      unfold Hid
                      rw [hspec.out]
                      exact hs2.out (rdS_other m2 l2 ts hc2 hc3)
                    clear hc2 hc3 hs1 hs2
                    obtain ⟨w6, rfl⟩ : ∃ w6 : World, w6 = wr := ⟨_, rfl⟩
                    have hst6 := hst5
                    have hO6 := hO
                    have hH6 := hHw
                    have hrd6 := hrd2
                    have hhi := hst5.high
                    clear hO hst5 hrd2 hHw
                    obtain ⟨k1, k2, k3, k4⟩ := hst6.typ.cells
                    have kl := hst6.typ.lt
                    obtain ⟨q1, q2, q3, q4⟩ := hrd6.cells
                    have hgl6 := hrd6.lt
                    have hne6 : g ≠ w.heap.size + 1 := by omega
                    have hst7 := hst6.step (frm_set (g := g) (frm_refl w6 _) 1 (.bool true)) (fun b hb => .inl (by injection hb with hb; exact hb.symm))
                    have hrd7 := hrd6.set1 true
                    have hO7 := hO6.kept moves_ty (frm_set (g := g) (frm_refl w6 _) 1 (.bool true)) (by
                      cases hv : Value.ownBlock (.slice A5 ts.length c5) with
                      | none => exact .inl rfl
                      | some b =>
                        have := hO6.lt b hv
                        right
                        intro e
                        injection e with e
                        omega) (fun b hb e => by injection e with e; omega)
                    have hsr : SetR (fun b => w1.heap.size ≤ b ∧ b < (w6.setCell ⟨g, 1, none⟩ (.bool true)).heap.size) (w6.setCell ⟨g, 1, none⟩ (.bool true)) ts [.slice A5 ts.length c5] :=
                      ⟨_, rfl, hO7.sl moves_ty (by omega) (fun b h1 h2 => ⟨h1, h2⟩) (fun b h1 h2 => ⟨h1, h2⟩)⟩
                    dsimp only
                    repeat ((fail_if_success at_builtin); first | go_values | go_skip | go_guarded | go_step | go_upon)
                    refine hst7.app (by simpa using hH6) (ts := ts) hsr (by omega) (by simp) rfl _ _ rfl rfl rfl ?_
                    intro v9 w9 ht9 hst9 hg9
                    obtain ⟨A9, c9, rfl, _⟩ := hst9.own.val
                    simp only [List.length_append, List.length_cons, List.length_nil, Nat.zero_add] at hst9
                    clear k1 k2 k3 k4 kl
                    obtain ⟨k1, k2, k3, k4⟩ := ht9.cells
                    have kl := ht9.lt
                    repeat ((fail_if_success at_builtin); first | go_values | go_skip | go_guarded | go_step | go_upon)
                    have hrd9 := hrd7.move (w' := w9.setCell ⟨w.heap.size + 1, 1, none⟩ (.slice A9 (args.length + 1) c9)) (by rw [Below.heap_setCell _ _ _ _ (by simp; omega)]; exact hg9)
                    go_roundg 0
                    case measure => omega
                    case rel => exact ⟨_, args ++ [ts], _, hst9, by simp, by simp; omega, .inr ⟨hbadT, _, hrd9⟩⟩
              · obtain ⟨A5, c5, rfl, _⟩ := hO.val
                go_wp2_with fail
                refine (take_bad s 44 44 rfl _ _ hrd2).mono ?_
                rintro e w5 ⟨rfl, rfl⟩
                go_wp2_with fail
                refine (take_bad s 93 93 rfl _ _ hrd2).mono ?_
                rintro e w6 ⟨rfl, rfl⟩
                have hbadT := hbad
                clear hbad
                obtain ⟨w6, rfl⟩ : ∃ w6 : World, w6 = wr := ⟨_, rfl⟩
                have hst6 := hst5
                have hO6 := hO
                have hH6 := hHw
                have hrd6 := hrd2
                have hhi := hst5.high
                clear hO hst5 hrd2 hHw
                obtain ⟨k1, k2, k3, k4⟩ := hst6.typ.cells
                have kl := hst6.typ.lt
                obtain ⟨q1, q2, q3, q4⟩ := hrd6.cells
                have hgl6 := hrd6.lt
                have hne6 : g ≠ w.heap.size + 1 := by omega
                have hst7 := hst6.step (frm_set (g := g) (frm_refl w6 _) 1 (.bool true)) (fun b hb => .inl (by injection hb with hb; exact hb.symm))
                have hrd7 := hrd6.set1 true
                have hO7 := hO6.kept moves_ty (frm_set (g := g) (frm_refl w6 _) 1 (.bool true)) (by
                  cases hv : Value.ownBlock (.slice A5 ts.length c5) with
                  | none => exact .inl rfl
                  | some b =>
                    have := hO6.lt b hv
                    right
                    intro e
                    injection e with e
                    omega) (fun b hb e => by injection e with e; omega)
                have hsr : SetR (fun b => w1.heap.size ≤ b ∧ b < (w6.setCell ⟨g, 1, none⟩ (.bool true)).heap.size) (w6.setCell ⟨g, 1, none⟩ (.bool true)) ts [.slice A5 ts.length c5] :=
                  ⟨_, rfl, hO7.sl moves_ty (by omega) (fun b h1 h2 => ⟨h1, h2⟩) (fun b h1 h2 => ⟨h1, h2⟩)⟩
                dsimp only
                repeat ((fail_if_success at_builtin); first | go_values | go_skip | go_guarded | go_step | go_upon)
                refine hst7.app (by simpa using hH6) (ts := ts) hsr (by omega) (by simp) rfl _ _ rfl rfl rfl ?_
                intro v9 w9 ht9 hst9 hg9
                obtain ⟨A9, c9, rfl, _⟩ := hst9.own.val
                simp only [List.length_append, List.length_cons, List.length_nil, Nat.zero_add] at hst9
                clear k1 k2 k3 k4 kl
                obtain ⟨k1, k2, k3, k4⟩ := ht9.cells
                have kl := ht9.lt
                repeat ((fail_if_success at_builtin); first | go_values | go_skip | go_guarded | go_step | go_upon)
                have hrd9 := hrd7.move (w' := w9.setCell ⟨w.heap.size + 1, 1, none⟩ (.slice A9 (args.length + 1) c9)) (by rw [Below.heap_setCell _ _ _ _ (by simp; omega)]; exact hg9)
                go_roundg 0
                case measure => omega
                case rel => exact ⟨_, args ++ [ts], _, hst9, by simp, by simp; omega, .inr ⟨hbadT, _, hrd9⟩⟩
        · go_wp2_with fail
          refine (take_no 91 l' false 91 rfl (.inr hc) _ _ hrd').mono ?_
          rintro e w1 ⟨rfl, rfl⟩
          obtain ⟨Av, cv, rfl, _⟩ := hst.own.val
          obtain ⟨k1, k2, k3, k4⟩ := hst.typ.cells
          obtain ⟨j1, j2, j3, j4⟩ := hst.res.cells
          have kl := hst.typ.lt
          obtain ⟨q1, q2, q3, q4⟩ := hrd'.cells
          have hgl6 := hrd'.lt
          cases l' with
          | nil =>
            have hn : (bs []).toList = [] := by simp [bs_list]
            have hn2 : (bs []).toList.isEmpty = true := by simp [bs_list]
            go_wp2_with fail
            have hfin : TwoAt (((wr.setCell ⟨g, 1, none⟩ (.bool true)).setCell ⟨w.heap.size, 0, none⟩ (.int .i64 0)).setCell ⟨w.heap.size, 1, none⟩ (.slice Av args.length cv)) w.heap.size (.int .i64 0) (.slice Av args.length cv) 24 :=
              ((hst.res.move (Below.heap_setCell _ _ _ _ (by simp; omega))).set0 _).set1 _
            obtain ⟨f1, f2, _, _⟩ := hfin.cells
            refine bodyPost_ret (v := .agg #[.int .i64 0, .slice Av args.length cv]) (by simp [results, Tryd.results50, go_sem, f1, f2]) rfl ⟨_, _, .mk 0 args, rfl, frm_set_new (frm_set_new (frm_set hst.frm _ _) (Nat.le_refl _) _ _) (Nat.le_refl _) _ _, ?_, .inr ⟨by rw [hspec.out, rdT_nil], _, ((hrd'.set1 true).move (Below.heap_setCell _ _ _ _ (by simp; omega))).move (Below.heap_setCell _ _ _ _ (by simp; omega))⟩⟩
            refine TyR_mk.2 ⟨_, rfl, by omega, by omega, (hst.own.sl moves_set (by omega) (S := fun b => w.heap.size + 2 ≤ b ∧ b < wr.heap.size) (fun b h1 h2 => ⟨h1.1, h2⟩) (fun b h1 h2 => ⟨h1, h2⟩)).move (fun b hb => ⟨by omega, by simpa using hb.2⟩) (fun b hb => ?_) (fun x _ cs hx => hx.move (fun b hb => ⟨by omega, by simpa using hb.2⟩) (fun b hb => ?_))⟩
            all_goals rw [Below.heap_setCell _ _ _ _ (by simp; omega), Below.heap_setCell _ _ _ _ (by simp; omega), Below.heap_setCell _ _ _ _ (by simp; omega)]
          | cons d l1 =>
            have hs : 0 < (bs (d :: l1)).size := by simp [bs_size]
            have hh : ((bs (d :: l1))[0].toNat : Int) = d.toNat := rfl
            have hn : ¬ (bs (d :: l1)).toList = [] := by simp [bs_list]
            have hn2 : (bs (d :: l1)).toList.isEmpty = false := by simp [bs_list]
            have ht := bs_tail d l1
            by_cases hdig : 48 ≤ d.toNat ∧ d.toNat ≤ 57
            · obtain ⟨hd1, hd2⟩ := hdig
              go_wp2_with fail
              have hfin : TwoAt ((((wr.setCell ⟨w.heap.size + 1, 0, none⟩ (.int .i64 ((d.toNat : Int) - 48))).setCell ⟨g, 0, none⟩ (.string (bs l1))).setCell ⟨w.heap.size, 0, none⟩ (.int .i64 ((d.toNat : Int) - 48))).setCell ⟨w.heap.size, 1, none⟩ (.slice Av args.length cv)) w.heap.size (.int .i64 ((d.toNat : Int) - 48)) (.slice Av args.length cv) 24 :=
                (((hst.res.move (Below.heap_setCell _ _ _ _ (by simp))).move (Below.heap_setCell _ _ _ _ (by simp; omega))).set0 _).set1 _
              obtain ⟨f1, f2, _, _⟩ := hfin.cells
              have hspec2 : rdT n l [] = some (.mk ((d.toNat : Int) - 48) args, l1) := by
                rw [hspec.out, rdT_end m d l1 args (by rintro rfl; simp at hc), if_pos]
                simp only [UInt8.le_iff_toNat_le]
                exact ⟨hd1, hd2⟩
              refine bodyPost_ret (v := .agg #[.int .i64 ((d.toNat : Int) - 48), .slice Av args.length cv]) (by simp [results, Tryd.results50, go_sem, f1, f2]) rfl ⟨_, _, .mk ((d.toNat : Int) - 48) args, rfl, frm_set_new (frm_set_new (frm_set (frm_set_new hst.frm (by omega) _ _) _ _) (Nat.le_refl _) _ _) (Nat.le_refl _) _ _, ?_, .inl ⟨l1, hspec2, (((hrd'.move (Below.heap_setCell _ _ _ _ (by simp; omega))).set0 (bs l1)).move (Below.heap_setCell _ _ _ _ (by simp; omega))).move (Below.heap_setCell _ _ _ _ (by simp; omega))⟩⟩
              refine TyR_mk.2 ⟨_, rfl, by omega, by omega, (hst.own.sl moves_set (by omega) (S := fun b => w.heap.size + 2 ≤ b ∧ b < wr.heap.size) (fun b h1 h2 => ⟨h1.1, h2⟩) (fun b h1 h2 => ⟨h1, h2⟩)).move (fun b hb => ⟨by omega, by simpa using hb.2⟩) (fun b hb => ?_) (fun x _ cs hx => hx.move (fun b hb => ⟨by omega, by simpa using hb.2⟩) (fun b hb => ?_))⟩
              all_goals rw [Below.heap_setCell _ _ _ _ (by simp; omega), Below.heap_setCell _ _ _ _ (by simp; omega), Below.heap_setCell _ _ _ _ (by simp; omega), Below.heap_setCell _ _ _ _ (by simp; omega)]
            · have hbadT : rdT n l [] = none := by
                rw [hspec.out, rdT_end m d l1 args (by rintro rfl; simp at hc), if_neg]
                simp only [UInt8.le_iff_toNat_le]
                exact hdig
              by_cases hlow : d.toNat < 48
              · clear hdig
                go_wp2_with fail
                have hfin : TwoAt (((wr.setCell ⟨g, 1, none⟩ (.bool true)).setCell ⟨w.heap.size, 0, none⟩ (.int .i64 0)).setCell ⟨w.heap.size, 1, none⟩ (.slice Av args.length cv)) w.heap.size (.int .i64 0) (.slice Av args.length cv) 24 :=
                  ((hst.res.move (Below.heap_setCell _ _ _ _ (by simp; omega))).set0 _).set1 _
                obtain ⟨f1, f2, _, _⟩ := hfin.cells
                refine bodyPost_ret (v := .agg #[.int .i64 0, .slice Av args.length cv]) (by simp [results, Tryd.results50, go_sem, f1, f2]) rfl ⟨_, _, .mk 0 args, rfl, frm_set_new (frm_set_new (frm_set hst.frm _ _) (Nat.le_refl _) _ _) (Nat.le_refl _) _ _, ?_, .inr ⟨hbadT, _, ((hrd'.set1 true).move (Below.heap_setCell _ _ _ _ (by simp; omega))).move (Below.heap_setCell _ _ _ _ (by simp; omega))⟩⟩
                refine TyR_mk.2 ⟨_, rfl, by omega, by omega, (hst.own.sl moves_set (by omega) (S := fun b => w.heap.size + 2 ≤ b ∧ b < wr.heap.size) (fun b h1 h2 => ⟨h1.1, h2⟩) (fun b h1 h2 => ⟨h1, h2⟩)).move (fun b hb => ⟨by omega, by simpa using hb.2⟩) (fun b hb => ?_) (fun x _ cs hx => hx.move (fun b hb => ⟨by omega, by simpa using hb.2⟩) (fun b hb => ?_))⟩
                all_goals rw [Below.heap_setCell _ _ _ _ (by simp; omega), Below.heap_setCell _ _ _ _ (by simp; omega), Below.heap_setCell _ _ _ _ (by simp; omega)]
              · have hhigh : 57 < d.toNat := by omega
                clear hdig
                go_wp2_with fail
                have hfin : TwoAt (((wr.setCell ⟨g, 1, none⟩ (.bool true)).setCell ⟨w.heap.size, 0, none⟩ (.int .i64 0)).setCell ⟨w.heap.size, 1, none⟩ (.slice Av args.length cv)) w.heap.size (.int .i64 0) (.slice Av args.length cv) 24 :=
                  ((hst.res.move (Below.heap_setCell _ _ _ _ (by simp; omega))).set0 _).set1 _
                obtain ⟨f1, f2, _, _⟩ := hfin.cells
                refine bodyPost_ret (v := .agg #[.int .i64 0, .slice Av args.length cv]) (by simp [results, Tryd.results50, go_sem, f1, f2]) rfl ⟨_, _, .mk 0 args, rfl, frm_set_new (frm_set_new (frm_set hst.frm _ _) (Nat.le_refl _) _ _) (Nat.le_refl _) _ _, ?_, .inr ⟨hbadT, _, ((hrd'.set1 true).move (Below.heap_setCell _ _ _ _ (by simp; omega))).move (Below.heap_setCell _ _ _ _ (by simp; omega))⟩⟩
                refine TyR_mk.2 ⟨_, rfl, by omega, by omega, (hst.own.sl moves_set (by omega) (S := fun b => w.heap.size + 2 ≤ b ∧ b < wr.heap.size) (fun b h1 h2 => ⟨h1.1, h2⟩) (fun b h1 h2 => ⟨h1, h2⟩)).move (fun b hb => ⟨by omega, by simpa using hb.2⟩) (fun b hb => ?_) (fun x _ cs hx => hx.move (fun b hb => ⟨by omega, by simpa using hb.2⟩) (fun b hb => ?_))⟩
                all_goals rw [Below.heap_setCell _ _ _ _ (by simp; omega), Below.heap_setCell _ _ _ _ (by simp; omega), Below.heap_setCell _ _ _ _ (by simp; omega)]

      · go_wp2_with fail
        refine (take_bad s 91 91 rfl _ _ hrd').mono ?_
        rintro e w1 ⟨rfl, rfl⟩
        obtain ⟨Av, cv, rfl, _⟩ := hst.own.val
        obtain ⟨k1, k2, k3, k4⟩ := hst.typ.cells
        obtain ⟨j1, j2, j3, j4⟩ := hst.res.cells
        have kl := hst.typ.lt
        obtain ⟨q1, q2, q3, q4⟩ := hrd'.cells
        have hgl6 := hrd'.lt
        go_wp2_with fail
        have hfin : TwoAt (((wr.setCell ⟨g, 1, none⟩ (.bool true)).setCell ⟨w.heap.size, 0, none⟩ (.int .i64 0)).setCell ⟨w.heap.size, 1, none⟩ (.slice Av args.length cv)) w.heap.size (.int .i64 0) (.slice Av args.length cv) 24 :=
          ((hst.res.move (Below.heap_setCell _ _ _ _ (by simp; omega))).set0 _).set1 _
        obtain ⟨f1, f2, _, _⟩ := hfin.cells
        refine bodyPost_ret (v := .agg #[.int .i64 0, .slice Av args.length cv]) (by simp [results, Tryd.results50, go_sem, f1, f2]) rfl ⟨_, _, .mk 0 args, rfl, frm_set_new (frm_set_new (frm_set hst.frm _ _) (Nat.le_refl _) _ _) (Nat.le_refl _) _ _, ?_, .inr ⟨hspec.out, _, ((hrd'.set1 true).move (Below.heap_setCell _ _ _ _ (by simp; omega))).move (Below.heap_setCell _ _ _ _ (by simp; omega))⟩⟩
        refine TyR_mk.2 ⟨_, rfl, by omega, by omega, (hst.own.sl moves_set (by omega) (S := fun b => w.heap.size + 2 ≤ b ∧ b < wr.heap.size) (fun b h1 h2 => ⟨h1.1, h2⟩) (fun b h1 h2 => ⟨h1, h2⟩)).move (fun b hb => ⟨by omega, by simpa using hb.2⟩) (fun b hb => ?_) (fun x _ cs hx => hx.move (fun b hb => ⟨by omega, by simpa using hb.2⟩) (fun b hb => ?_))⟩
        all_goals rw [Below.heap_setCell _ _ _ _ (by simp; omega), Below.heap_setCell _ _ _ _ (by simp; omega), Below.heap_setCell _ _ _ _ (by simp; omega)]
end Go.Proofs.YtmdgoalekkkpnaaDoor
