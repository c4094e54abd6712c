/- The reference's parse: it reads what the plain parser reads. -/
import Derived.Test.YtmdgoalekkkpnaaDoorReadT
set_option linter.unusedVariables false
set_option linter.unusedSimpArgs false
namespace Go.Proofs.YtmdgoalekkkpnaaDoor
open Go.RowKit

/-- What has been read of a type: the caller's world `w`, the sets so far. -/
structure StP (w : World) (H : Nat) (wr : World) (va : Value) (args : List (List Ty)) : Prop where
  frm : w.grownBy wr none
  res : TwoAt wr w.heap.size (.int .i64 0) (.slice none 0 0) 24
  typ : TwoAt wr (w.heap.size + 1) (.int .i64 0) va 24
  own : Own SetR wr (w.heap.size + 2) 36 1 (fun b => w.heap.size + 2 ≤ b ∧ b < H) va args
  top : ∀ b, va.ownBlock = some b → b < H
  high : w.heap.size + 2 ≤ H
theorem StP.step {w : World} {H : Nat} {wr w1 : World} {va : Value} {args : List (List Ty)} (h : StP w H wr va args) {row : Option Nat} (hg : wr.grownBy w1 row) (hrow : ∀ b, row = some b → H ≤ b) : StP w H w1 va args := by
  have hr : ∀ b, b < H → some b ≠ row := fun b h2 e => by
    have := hrow b e.symm
    omega
  have hH := h.high
  refine ⟨⟨hg.os.trans h.frm.os, hg.tape.trans h.frm.tape, hg.output.trans h.frm.output, Nat.le_trans h.frm.size hg.size, fun i hi hn => ?_⟩, h.res.move (hg.block _ h.res.lt (hr _ (by omega))), h.typ.move (hg.block _ h.typ.lt (hr _ (by omega))),
    h.own.kept moves_set hg ?_ (fun b hb => hr b hb.2), h.top, h.high⟩
  · exact (hg.block i (Nat.lt_of_lt_of_le hi h.frm.size) (hr i (by omega))).trans (h.frm.block i hi hn)
  · cases hv : va.ownBlock with
    | none => exact .inl rfl
    | some b => exact .inr (hr b (h.top b hv))
theorem StP.raise {w : World} {H : Nat} {wr : World} {va : Value} {args : List (List Ty)} (h : StP w H wr va args) {H' : Nat} (hH : H ≤ H') : StP w H' wr va args :=
  ⟨h.frm, h.res, h.typ, h.own.ok_mono moves_set (fun b hb _ => ⟨hb.1, by omega⟩), fun b hb => Nat.lt_of_lt_of_le (h.top b hb) hH, Nat.le_trans h.high hH⟩
theorem StP.more {w : World} {H : Nat} {wr : World} {va : Value} {args : List (List Ty)} (h : StP w H wr va args) {w1 : World} {v1 : Value} {args1 : List (List Ty)} (hH : H ≤ wr.heap.size)
    (ho : Own SetR w1 (w.heap.size + 2) 36 1 (fun b => w.heap.size + 2 ≤ b ∧ b < wr.heap.size) v1 args1) (hg : wr.grownBy w1 va.ownBlock) :
    StP w w1.heap.size (w1.setCell ⟨w.heap.size + 1, 1, none⟩ v1) v1 args1 := by
  have hh := h.high
  have hlo := h.own.lt
  have hne : ∀ b, b < w.heap.size + 2 → some b ≠ va.ownBlock := fun b hb e => by
    have := hlo b e.symm
    omega
  have h1 := h.res.move (hg.block _ h.res.lt (hne _ (by omega)))
  have h2 := h.typ.move (hg.block _ h.typ.lt (hne _ (by omega)))
  have hg2 : w1.grownBy (w1.setCell ⟨w.heap.size + 1, 1, none⟩ v1) (some (w.heap.size + 1)) := frm_set (frm_refl _ _) _ _
  refine ⟨⟨hg.os.trans h.frm.os, hg.tape.trans h.frm.tape, hg.output.trans h.frm.output, Nat.le_trans h.frm.size (Nat.le_trans hg.size hg2.size), fun i hi hn => ?_⟩, h1.move (hg2.block _ h1.lt (by simp)), h2.set1 _,
    (ho.kept moves_set hg2 ?_ (fun b hb => by simp; omega)).ok_mono moves_set (fun b hb h2 => ⟨hb.1, by simpa using h2⟩), fun b hb => (ho.lt b hb).2, by have := hg.size; omega⟩
  · rw [hg2.block i (Nat.lt_of_lt_of_le (Nat.lt_of_lt_of_le hi h.frm.size) hg.size) (by simp; omega), hg.block i (Nat.lt_of_lt_of_le hi h.frm.size) (hne _ (by omega))]
    exact h.frm.block i hi hn
  · cases hv : v1.ownBlock with
    | none => exact .inl rfl
    | some b =>
      have := ho.lt b hv
      right
      simp
      omega
/-- One set more is appended: the walk's step. -/
theorem StP.app {w : World} {H : Nat} {wr : World} {va : Value} {args : List (List Ty)} (h : StP w H wr va args) (hH : H ≤ wr.heap.size) {vs : Value} {ts : List Ty}
    (hs : SetR (fun b => H ≤ b ∧ b < wr.heap.size) wr ts [vs]) (hlen : args.length ≤ 70000) {q : Nat} (hq : q = wr.heap.size)
    {ops : Array Oper} {rest : List Oper} {o : Oper} {a : Act} {Q : Exit → Act → World → Prop} (hgd : o.guard = none) (s x : Operand)
    (ho : o.op = .call { callee := .builtin .append, args := #[s, x], argTypes := #[22, 22] }) (hes : a.eval s = va) (hex : a.eval x = .slice (some ⟨q, 0, none⟩) 1 1)
    (K : ∀ v' w4, TwoAt w4 (w.heap.size + 1) (.int .i64 0) va 24 → StP w w4.heap.size (w4.setCell ⟨w.heap.size + 1, 1, none⟩ v') v' (args ++ [ts]) → wpList Tryd.prog ops Q rest (a.put o.dst v') w4) :
    wpList Tryd.prog ops Q (o :: rest) a (wr.alloc (.cells #[vs] 36)) := by
  subst hq
  have hA : wr.grownBy (wr.alloc (.cells #[vs] 36)) none := frm_alloc _ _
  have hst := (h.step hA (by simp)).raise hH
  have hhi := h.high
  have hval : vs.oneCell' = true := by
    obtain ⟨v, hv, A, c, rfl, _⟩ := hs
    rw [show vs = .slice A ts.length c by simpa using hv]
    rfl
  refine Own.append1 moves_set elem_set (ok := fun b => w.heap.size + 2 ≤ b ∧ b < wr.heap.size) (hst.own.ok_mono moves_set (fun b hb _ => hb)) hgd s x ho hes hex ts [vs] rfl ?_ ?_ ?_ (by omega) (by omega) (by simp; omega) ?_
  · intro j u hj
    match j with
    | 0 => simp at hj; subst hj; simp
    | j + 1 => simp at hj
  · intro u hu
    rw [List.mem_singleton.1 hu]
    exact hval
  · refine hs.move (fun b hb => ⟨⟨by omega, hb.2⟩, by simp; omega, fun e => ?_⟩) (fun b hb => Below.heap_alloc _ _ _ hb.2)
    have := h.top b e.symm
    omega
  · intro v' w4 hO hg hp
    have hne : ∀ b, b < w.heap.size + 2 → some b ≠ va.ownBlock := fun b hb e => by
      have := h.own.lt b e.symm
      omega
    exact K v' w4 (hst.typ.move (hg.block _ hst.typ.lt (hne _ (by omega)))) ((h.step hA (by simp)).more (by simp; omega) (hO.ok_mono moves_set (fun b hb _ => ⟨hb.1, by simp; omega⟩)) hg)

/-- The result cell holds what was read so far. -/
def FailAt (w W' : World) (va : Value) (args : List (List Ty)) : Prop :=
  TwoAt W' w.heap.size (.int .i64 0) va 24 ∧ w.grownBy W' none ∧ TyR (fun b => w.heap.size ≤ b ∧ b < W'.heap.size) W' (.mk 0 args) [.int .i64 0, va]
theorem StP.fail {w : World} {H : Nat} {wr : World} {va : Value} {args : List (List Ty)} (h : StP w H wr va args) (hlen : args.length ≤ 70000) :
    FailAt w ((wr.setCell ⟨w.heap.size, 0, none⟩ (.int .i64 0)).setCell ⟨w.heap.size, 1, none⟩ va) va args := by
  refine ⟨(h.res.set0 _).set1 _, frm_set_new (frm_set_new h.frm (Nat.le_refl _) _ _) (Nat.le_refl _) _ _, ?_⟩
  refine TyR_mk.2 ⟨_, rfl, by omega, by omega, (h.own.sl moves_set (by omega) (S := fun b => w.heap.size + 2 ≤ b ∧ b < wr.heap.size) (fun b h1 h2 => ⟨h1.1, h2⟩) (fun b h1 h2 => ⟨h1, h2⟩)).move (fun b hb => ⟨by omega, by simpa using hb.2⟩) (fun b hb => ?_) (fun x _ cs hx => hx.move (fun b hb => ⟨by omega, by simpa using hb.2⟩) (fun b hb => ?_))⟩
  all_goals rw [Below.heap_setCell _ _ _ _ (by simp; omega), Below.heap_setCell _ _ _ _ (by simp; omega)]
theorem FailAt.alloc {w W' : World} {va : Value} {args : List (List Ty)} (h : FailAt w W' va args) (o : Obj) : FailAt w (W'.alloc o) va args :=
  ⟨h.1.alloc _, frm_then_alloc h.2.1 _, h.2.2.move (fun b hb => ⟨hb.1, by simp; omega⟩) (fun b hb => Below.heap_alloc _ _ _ hb.2)⟩

/-- What parse's contract says. -/
def ParsePost (n : Nat) (l : List UInt8) (at_ : Nat) (w : World) (e : Ending) (w' : World) : Prop :=
  ∃ v0 v1 t q ok, e = .returned (.tuple #[.agg #[v0, v1], .int .i64 q, .bool ok]) ∧ w.grownBy w' none ∧ TyR (fun b => w.heap.size ≤ b ∧ b < w'.heap.size) w' t [v0, v1] ∧
    ((ok = true ∧ ∃ k : Nat, q = k ∧ at_ ≤ k ∧ k ≤ l.length ∧ rdT n (l.drop at_) [] = some (t, l.drop k)) ∨ (ok = false ∧ rdT n (l.drop at_) [] = none))

theorem bs_at (l : List UInt8) (k : Nat) (h : k < l.length) (h' : k < (bs l).size) : (bs l)[k] = l[k] := by
  rfl

set_option maxRecDepth 100000 in
set_option maxHeartbeats 1000000 in
theorem parse_calls : ∀ (n : Nat) (l : List UInt8) (at_ : Nat), at_ ≤ l.length → l.length - at_ < n → l.length ≤ 65536 → ∀ (w : World) (S : ByteArray) (z : Int), S = bs l → z = at_ →
    Calls Tryd.prog 51 #[.string S, .int .i64 z] w (ParsePost n l at_ w) := by
  intro n
  induction n using Nat.strongRecOn with
  | _ n ih =>
    rintro l at_ hal hln hl w S z hS rfl
    have IH := Lib.hid ih
    clear ih
    have HB : Hid (∀ (k : Nat) (h : k < l.length) (h' : k < S.size), S[k] = l[k]) := by
      subst hS
      exact bs_at l
    have HSZ : Hid (S.size = l.length) := by
      subst hS
      exact bs_size l
    have hs1 : S.size ≤ 65536 := by
      rw [HSZ.out]
      exact hl
    have HSS := Lib.hid hS
    clear hS
    go_enter Tryd.func51, Tryd.ntmps51
    go_wp2_with fail
    go_loopg [1] (l.length + 1) (fun k v wr => ∃ va args H m at1, v = .int .i64 (at1 : Nat) ∧ StP w H wr va args ∧ H ≤ wr.heap.size ∧ args.length ≤ l.length + 1 ∧ at_ ≤ at1 ∧ at1 ≤ l.length ∧ l.length - at1 < m ∧ m ≤ n ∧ l.length - at1 + 1 ≤ k ∧ args.length ≤ at1 ∧ Hid (rdT n (l.drop at_) [] = rdT m (l.drop at1) args))
    case atStart =>
      exact ⟨.slice none 0 0, [], w.heap.size + 2, n, at_, rfl, ⟨frm_then_alloc (frm_then_alloc (frm_refl _ _) _) _, (TwoAt.new _ _ _ _).alloc _, TwoAt.new2 _ _ _ _ _, Own.nil _ _ _ _ _ _, by simp [Value.ownBlock], Nat.le_refl _⟩, by simp, by simp, Nat.le_refl _, hal, hln, Nat.le_refl _, by omega, by simp, rfl⟩
    case round =>
      obtain ⟨va, args, H, m, at1, rfl, hst, hHw, hal2, ha1, ha2, hlm, hmn, hlk, haa, hspec⟩ := hrel
      obtain ⟨m, rfl⟩ : ∃ q, m = q + 1 := ⟨m - 1, by omega⟩
      obtain ⟨Av, cv, rfl, _⟩ := hst.own.val
      by_cases hlt : at1 < l.length
      · have hlt' : at1 < S.size := by rw [HSZ.out]; exact hlt
        have hat := HB.out at1 hlt hlt'
        have HD : Hid (l.drop at1 = l[at1] :: l.drop (at1 + 1)) := List.drop_eq_getElem_cons hlt
        generalize l[at1] = c at *
        by_cases hc : c = 91
        · subst hc
          have hn : ((S[at1]).toNat : Int) = 91 := by rw [hat]; rfl
          go_wp2_with fail
          have hs91 : Hid (rdT n (l.drop at_) [] = rdT (m + 1) (91 :: l.drop (at1 + 1)) args) := by
            unfold Hid
            rw [hspec.out, HD.out]
          have HDR : Hid (∀ k, (h : k < l.length) → l.drop k = l[k] :: l.drop (k + 1)) := fun k h => List.drop_eq_getElem_cons h
          clear hat hn HD hlt'
          have hst0 := hst.raise hHw
          obtain ⟨wo, rfl⟩ : ∃ wo : World, wo = wr := ⟨_, rfl⟩
          go_loopg [1, 8] (l.length + 1) (fun k v vs wr => ∃ ts at2, v = .int .i64 (at2 : Nat) ∧ Own TyR wr wo.heap.size 24 2 (fun b => wo.heap.size ≤ b) vs ts ∧ StP w wo.heap.size wr (.slice Av args.length cv) args ∧ wo.heap.size ≤ wr.heap.size ∧
            at1 + 1 ≤ at2 ∧ at2 ≤ l.length ∧ ts.length ≤ at2 ∧ l.length - at2 + 1 ≤ k ∧
            ((ts = [] ∧ at2 = at1 + 1) ∨ (ts ≠ [] ∧ ∃ m2, l.length - at2 < m2 ∧ m2 ≤ m ∧ Hid (∀ us l4, rdS m2 (l.drop at2) ts = some (us, l4) → rdT (m + 1) (91 :: l.drop (at1 + 1)) args = rdT m l4 (args ++ [us])) ∧
              Hid (rdS m2 (l.drop at2) ts = none → rdT (m + 1) (91 :: l.drop (at1 + 1)) args = none))))
          case atStart =>
            refine ⟨[], at1 + 1, by go_num, Own.nil _ _ _ _ _ _, hst0, Nat.le_refl _, Nat.le_refl _, by omega, by simp, by omega, .inl ⟨rfl, rfl⟩⟩
          case round =>
            obtain ⟨ts, at2, rfl, hO, hst2, hHw2, hb1, hb2, hb3, hbk, hmode⟩ := hrel
            have hfail := hst2.fail (by omega)
            obtain ⟨k1, k2, k3, k4⟩ := hst2.typ.cells
            obtain ⟨j1, j2, j3, j4⟩ := hst2.res.cells
            have kl := hst2.typ.lt
            have hhi := hst2.high
            obtain ⟨A5, c5, rfl, _⟩ := hO.val
            by_cases hend : at2 < l.length
            · have hlt2 : at2 < S.size := by rw [HSZ.out]; exact hend
              have hat2 := HB.out at2 hend hlt2
              have HD2 := Lib.hid (HDR.out at2 hend)
              generalize l[at2] = d at *
              by_cases hd : d = 93
              · subst hd
                have hn2 : ((S[at2]).toNat : Int) = 93 := by rw [hat2]; rfl
                have hsr : SetR (fun b => wo.heap.size ≤ b ∧ b < wr.heap.size) wr ts [.slice A5 ts.length c5] := ⟨_, rfl, hO.sl moves_ty (by omega) (fun b h1 h2 => ⟨h1, h2⟩) (fun b h1 h2 => ⟨h1, h2⟩)⟩
                have hspec6 : Hid (rdT n (l.drop at_) [] = rdT m (l.drop (at2 + 1)) (args ++ [ts])) := by
                  unfold Hid
                  rw [hs91.out]
                  rcases hmode with ⟨rfl, rfl⟩ | ⟨_, m2, hm2, _, h1, _⟩
                  · rw [HD2.out, rdT_empty]
                  · obtain ⟨m3, rfl⟩ : ∃ q, m2 = q + 1 := ⟨m2 - 1, by omega⟩
                    exact h1.out ts _ (by rw [HD2.out, rdS_close])
                repeat ((fail_if_success at_builtin); first | go_values | go_skip | go_guarded | go_step | go_upon)
                refine hst2.app hHw2 (ts := ts) hsr (by omega) (by simp) rfl _ _ rfl rfl rfl ?_
                intro v9 w9 ht9 hst9
                obtain ⟨A9, c9, rfl, _⟩ := hst9.own.val
                simp only [List.length_append, List.length_cons, List.length_nil, Nat.zero_add] at hst9
                clear k1 k2 k3 k4 kl
                obtain ⟨k1, k2, k3, k4⟩ := ht9.cells
                have kl := ht9.lt
                repeat ((fail_if_success at_builtin); first | go_values | go_skip | go_guarded | go_step | go_upon)
                go_roundg (l.length - (at2 + 1) + 1)
                case measure => omega
                case rel => exact ⟨_, args ++ [ts], _, m, at2 + 1, by go_num, hst9, by simp, by simp; omega, by omega, by omega, by omega, by omega, Nat.le_refl _, by simp; omega, hspec6⟩
              · have hn2 : ((S[at2]).toNat : Int) ≠ 93 := by
                  rw [hat2]
                  intro e
                  have h93 : (93 : UInt8).toNat = 93 := rfl
                  exact hd (UInt8.toNat_inj.1 (by omega))
                have hn3 : (((S[at2]).toNat : Int) != 93) = true := by rw [bne_iff_ne]; exact hn2
                have hhd : (l.drop at2).head? ≠ some 93 := by
                  rw [HD2.out]
                  simpa using hd
                have HHD := Lib.hid hhd
                clear hhd hn2
                rcases hmode with ⟨rfl, he⟩ | ⟨hne, m2, hm2, hmm, hs1x, hs2x⟩
                · have HE := Lib.hid he
                  clear he hat2
                  go_wp2_with fail
                  refine (IH.out m (by omega) l at2 hb2 (by have := HE.out; omega) hl wr S _ HSS.out rfl).mono ?_
                  rintro e w5 ⟨v0, v1, t, q, ok, rfl, hf5, hty, hcase⟩
                  obtain ⟨s1, A1, n1, c1, rfl, rfl⟩ := hty.vals
                  have hst5 := hst2.step hf5 (by simp)
                  have hfail5 := hst5.fail (by omega)
                  clear k1 k2 k3 k4 kl j1 j2 j3 j4 hfail
                  obtain ⟨k1, k2, k3, k4⟩ := hst5.typ.cells
                  obtain ⟨j1, j2, j3, j4⟩ := hst5.res.cells
                  have kl := hst5.typ.lt
                  have hsz5 := hf5.size
                  rcases hcase with ⟨rfl, k, rfl, hk1, hk2, hrd⟩ | ⟨rfl, hrd⟩
                  · have hless := (rd_less m).1 _ _ _ _ hrd
                    simp only [List.length_drop] at hless
                    have HRD := Lib.hid hrd
                    clear hrd
                    have hf6 : w5.grownBy ((w5.alloc (.cells #[.int .i64 s1, .slice A1 n1 c1] 24)).alloc (.cells #[.int .i64 s1, .slice A1 n1 c1] 24)) none := frm_then_alloc (frm_alloc _ _) _
                    have hO5 := (hO.kept moves_ty hf5 (ownNone _) (by simp)).kept moves_ty hf6 (ownNone _) (by simp)
                    have hlt5 := hO.lt
                    have hst6 := hst5.step hf6 (by simp)
                    dsimp only
                    repeat ((fail_if_success at_builtin); first | go_values | go_skip | go_guarded | go_step | go_upon)
                    refine Own.append1 moves_ty elem_ty hO5 rfl _ _ rfl rfl rfl t [.int .i64 s1, .slice A1 n1 c1] rfl ?_ ?_ ?_ (by omega) (by omega) (by simp; omega) ?_
                    · intro j u hj
                      match j with
                      | 0 => simp at hj; subst hj; exact (TwoAt.new2 w5 _ (.int .i64 s1) (.slice A1 n1 c1) 24).cells.1
                      | 1 => simp at hj; subst hj; exact (TwoAt.new2 w5 _ (.int .i64 s1) (.slice A1 n1 c1) 24).cells.2.1
                      | j + 2 => simp at hj
                    · intro u hu
                      simp at hu
                      rcases hu with rfl | rfl <;> rfl
                    · exact hty.move (fun b hb => ⟨by omega, by simp; omega, fun e => by have := (hlt5 b e.symm).2; omega⟩) (fun b hb => frm_lt hf6 b hb.2)
                    intro v7 w7 hO8 hg7 hp7
                    have hst7 := hst6.step hg7 (fun b hb => (hlt5 b hb).1)
                    obtain ⟨A7, c7, rfl, _⟩ := hO8.val
                    simp only [List.length_append, List.length_cons, List.length_nil, Nat.zero_add] at hO8
                    repeat ((fail_if_success at_builtin); first | go_values | go_skip | go_guarded | go_step | go_upon)
                    go_roundg (l.length - k + 1)
                    case measure => omega
                    case rel =>
                      refine ⟨_, k, rfl, hO8, hst7, by have := hg7.size; simp at this; omega, by omega, hk2, by simp; omega, Nat.le_refl _, .inr ⟨by simp, m, by have := HE.out; omega, Nat.le_refl _, fun us l4 h => by rw [← HE.out]; exact rdT_set m _ _ l4 args t us HHD.out HRD.out h, fun h => by rw [← HE.out]; exact rdT_none2 m _ _ args t HHD.out HRD.out h⟩⟩
                  · have HRD := Lib.hid hrd
                    clear hrd
                    have hstA := hst5.step (frm_alloc w5 (.cells #[.int .i64 s1, .slice A1 n1 c1] 24)) (by simp)
                    have hfailA := hstA.fail (by omega)
                    clear k1 k2 k3 k4 kl j1 j2 j3 j4 hfail5
                    obtain ⟨k1, k2, k3, k4⟩ := hstA.typ.cells
                    obtain ⟨j1, j2, j3, j4⟩ := hstA.res.cells
                    have kl := hstA.typ.lt
                    go_wp2_with fail
                    obtain ⟨f, hfg, hfty⟩ := hfailA
                    obtain ⟨f1, f2, _, _⟩ := f.cells
                    exact bodyPost_ret (v := .tuple #[.agg #[.int .i64 0, .slice Av args.length cv], .int .i64 at2, .bool false]) (by simp [results, Tryd.results51, go_sem, f1, f2]) rfl ⟨_, _, _, _, _, rfl, hfg, hfty, .inr ⟨rfl, by rw [hs91.out, ← HE.out]; exact rdT_none m _ args HHD.out HRD.out⟩⟩
                · have hpos : 0 < ts.length := by
                    cases ts with
                    | nil => exact absurd rfl hne
                    | cons x ts => simp
                  have HNE := Lib.hid hne
                  clear hne
                  obtain ⟨m3, rfl⟩ : ∃ q, m2 = q + 1 := ⟨m2 - 1, by omega⟩
                  by_cases hd4 : d = 44
                  · subst hd4
                    have hn4 : (((S[at2]).toNat : Int) != 44) = false := by rw [hat2]; rfl
                    clear hat2
                    go_wp2_with fail
                    refine (IH.out m3 (by omega) l (at2 + 1) (by omega) (by omega) hl wr S _ HSS.out (by omega)).mono ?_
                    rintro e w5 ⟨v0, v1, t, q, ok, rfl, hf5, hty, hcase⟩
                    obtain ⟨s1, A1, n1, c1, rfl, rfl⟩ := hty.vals
                    have hst5 := hst2.step hf5 (by simp)
                    have hfail5 := hst5.fail (by omega)
                    clear k1 k2 k3 k4 kl j1 j2 j3 j4 hfail
                    obtain ⟨k1, k2, k3, k4⟩ := hst5.typ.cells
                    obtain ⟨j1, j2, j3, j4⟩ := hst5.res.cells
                    have kl := hst5.typ.lt
                    have hsz5 := hf5.size
                    rcases hcase with ⟨rfl, k, rfl, hk1, hk2, hrd⟩ | ⟨rfl, hrd⟩
                    · have hless := (rd_less m3).1 _ _ _ _ hrd
                      simp only [List.length_drop] at hless
                      have HRD := Lib.hid hrd
                      clear hrd
                      have hf6 : w5.grownBy ((w5.alloc (.cells #[.int .i64 s1, .slice A1 n1 c1] 24)).alloc (.cells #[.int .i64 s1, .slice A1 n1 c1] 24)) none := frm_then_alloc (frm_alloc _ _) _
                      have hO5 := (hO.kept moves_ty hf5 (ownNone _) (by simp)).kept moves_ty hf6 (ownNone _) (by simp)
                      have hlt5 := hO.lt
                      have hst6 := hst5.step hf6 (by simp)
                      dsimp only
                      repeat ((fail_if_success at_builtin); first | go_values | go_skip | go_guarded | go_step | go_upon)
                      refine Own.append1 moves_ty elem_ty hO5 rfl _ _ rfl rfl rfl t [.int .i64 s1, .slice A1 n1 c1] rfl ?_ ?_ ?_ (by omega) (by omega) (by simp; omega) ?_
                      · intro j u hj
                        match j with
                        | 0 => simp at hj; subst hj; exact (TwoAt.new2 w5 _ (.int .i64 s1) (.slice A1 n1 c1) 24).cells.1
                        | 1 => simp at hj; subst hj; exact (TwoAt.new2 w5 _ (.int .i64 s1) (.slice A1 n1 c1) 24).cells.2.1
                        | j + 2 => simp at hj
                      · intro u hu
                        simp at hu
                        rcases hu with rfl | rfl <;> rfl
                      · exact hty.move (fun b hb => ⟨by omega, by simp; omega, fun e => by have := (hlt5 b e.symm).2; omega⟩) (fun b hb => frm_lt hf6 b hb.2)
                      intro v7 w7 hO8 hg7 hp7
                      have hst7 := hst6.step hg7 (fun b hb => (hlt5 b hb).1)
                      obtain ⟨A7, c7, rfl, _⟩ := hO8.val
                      simp only [List.length_append, List.length_cons, List.length_nil, Nat.zero_add] at hO8
                      repeat ((fail_if_success at_builtin); first | go_values | go_skip | go_guarded | go_step | go_upon)
                      go_roundg (l.length - k + 1)
                      case measure => omega
                      case rel =>
                        refine ⟨_, k, rfl, hO8, hst7, by have := hg7.size; simp at this; omega, by omega, hk2, by simp; omega, Nat.le_refl _, .inr ⟨by simp, m3, by omega, by omega, fun us l4 h => hs1x.out us l4 (by rw [HD2.out, rdS_comma m3 _ _ ts t HRD.out]; exact h), fun h => hs2x.out (by rw [HD2.out, rdS_comma m3 _ _ ts t HRD.out]; exact h)⟩⟩
                    · have HRD := Lib.hid hrd
                      clear hrd
                      have hstA := hst5.step (frm_alloc w5 (.cells #[.int .i64 s1, .slice A1 n1 c1] 24)) (by simp)
                      have hfailA := hstA.fail (by omega)
                      clear k1 k2 k3 k4 kl j1 j2 j3 j4 hfail5
                      obtain ⟨k1, k2, k3, k4⟩ := hstA.typ.cells
                      obtain ⟨j1, j2, j3, j4⟩ := hstA.res.cells
                      have kl := hstA.typ.lt
                      go_wp2_with fail
                      obtain ⟨f, hfg, hfty⟩ := hfailA
                      obtain ⟨f1, f2, _, _⟩ := f.cells
                      exact bodyPost_ret (v := .tuple #[.agg #[.int .i64 0, .slice Av args.length cv], .int .i64 (at2 + 1), .bool false]) (by simp [results, Tryd.results51, go_sem, f1, f2]) rfl ⟨_, _, _, _, _, rfl, hfg, hfty, .inr ⟨rfl, by rw [hs91.out]; exact hs2x.out (by rw [HD2.out, rdS_comma_none m3 _ ts HRD.out])⟩⟩
                  · have hn4 : (((S[at2]).toNat : Int) != 44) = true := by
                      rw [bne_iff_ne, hat2]
                      intro e
                      have h44 : (44 : UInt8).toNat = 44 := rfl
                      exact hd4 (UInt8.toNat_inj.1 (by omega))
                    have hnone : Hid (rdT n (l.drop at_) [] = none) := by
                      unfold Hid
                      rw [hs91.out]
                      exact hs2x.out (rdS_other _ _ _ (by rw [HD2.out]; simpa using hd4) HHD.out)
                    clear hat2 hd4
                    go_wp2_with fail
                    obtain ⟨f, hfg, hfty⟩ := hfail
                    obtain ⟨f1, f2, _, _⟩ := f.cells
                    exact bodyPost_ret (v := .tuple #[.agg #[.int .i64 0, .slice Av args.length cv], .int .i64 at2, .bool false]) (by simp [results, Tryd.results51, go_sem, f1, f2]) rfl ⟨_, _, _, _, _, rfl, hfg, hfty, .inr ⟨rfl, hnone.out⟩⟩
            · have hnone : rdT n (l.drop at_) [] = none := by
                rw [hs91.out]
                have hd0 : l.drop at2 = [] := List.drop_eq_nil_of_le (by omega)
                rcases hmode with ⟨rfl, rfl⟩ | ⟨_, m2, hm2, _, _, h2⟩
                · rw [hd0]
                  exact rdT_none m [] args (by simp) (rdT_nil _ _)
                · exact h2.out (by rw [hd0, rdS_nil])
              have hend2 : S.size ≤ at2 := by rw [HSZ.out]; omega
              clear hmode
              go_wp2_with fail
              obtain ⟨f, hfg, hfty⟩ := hfail
              obtain ⟨f1, f2, _, _⟩ := f.cells
              exact bodyPost_ret (v := .tuple #[.agg #[.int .i64 0, .slice Av args.length cv], .int .i64 at2, .bool false]) (by simp [results, Tryd.results51, go_sem, f1, f2]) rfl ⟨_, _, _, _, _, rfl, hfg, hfty, .inr ⟨rfl, hnone⟩⟩
        · obtain ⟨k1, k2, k3, k4⟩ := hst.typ.cells
          obtain ⟨j1, j2, j3, j4⟩ := hst.res.cells
          have kl := hst.typ.lt
          have hfail := hst.fail (by omega)
          have hn : ((S[at1]).toNat : Int) = c.toNat := by rw [hat]
          have hn1 : (((S[at1]).toNat : Int) == 91) = false := by
            rw [beq_eq_false_iff_ne, hat]
            intro e
            have h91 : (91 : UInt8).toNat = 91 := rfl
            exact hc (UInt8.toNat_inj.1 (by omega))
          have hcn : (S[at1]).toNat = c.toNat := by rw [hat]
          by_cases hdig : 48 ≤ c.toNat ∧ c.toNat ≤ 57
          · obtain ⟨hd1, hd2⟩ := hdig
            have hspec2 : Hid (rdT n (l.drop at_) [] = some (.mk ((c.toNat : Int) - 48) args, l.drop (at1 + 1))) := by
              unfold Hid
              rw [hspec.out, HD.out, rdT_end m c _ args hc, if_pos]
              simp only [UInt8.le_iff_toNat_le]
              exact ⟨hd1, hd2⟩
            rw [← hcn] at hd1 hd2 hspec2
            clear hat hn hcn hc
            go_wp2_with fail
            have hfin : TwoAt (((wr.setCell ⟨w.heap.size + 1, 0, none⟩ (.int .i64 ((S[at1].toNat : Int) - 48))).setCell ⟨w.heap.size, 0, none⟩ (.int .i64 ((S[at1].toNat : Int) - 48))).setCell ⟨w.heap.size, 1, none⟩ (.slice Av args.length cv)) w.heap.size (.int .i64 ((S[at1].toNat : Int) - 48)) (.slice Av args.length cv) 24 :=
              ((hst.res.move (Below.heap_setCell _ _ _ _ (by simp))).set0 _).set1 _
            obtain ⟨f1, f2, _, _⟩ := hfin.cells
            refine bodyPost_ret (v := .tuple #[.agg #[.int .i64 ((S[at1].toNat : Int) - 48), .slice Av args.length cv], .int .i64 (at1 + 1), .bool true]) (by simp [results, Tryd.results51, go_sem, f1, f2]) rfl ⟨_, _, .mk ((S[at1].toNat : Int) - 48) args, _, _, rfl, frm_set_new (frm_set_new (frm_set_new hst.frm (by omega) _ _) (Nat.le_refl _) _ _) (Nat.le_refl _) _ _, ?_, .inl ⟨rfl, at1 + 1, by omega, by omega, by omega, hspec2.out⟩⟩
            refine TyR_mk.2 ⟨_, rfl, by omega, by omega, (hst.own.sl moves_set (by omega) (S := fun b => w.heap.size + 2 ≤ b ∧ b < wr.heap.size) (fun b h1 h2 => ⟨h1.1, h2⟩) (fun b h1 h2 => ⟨h1, h2⟩)).move (fun b hb => ⟨by omega, by simpa using hb.2⟩) (fun b hb => ?_) (fun x _ cs hx => hx.move (fun b hb => ⟨by omega, by simpa using hb.2⟩) (fun b hb => ?_))⟩
            all_goals rw [Below.heap_setCell _ _ _ _ (by simp; omega), Below.heap_setCell _ _ _ _ (by simp; omega), Below.heap_setCell _ _ _ _ (by simp; omega)]
          · have hnone : Hid (rdT n (l.drop at_) [] = none) := by
              unfold Hid
              rw [hspec.out, HD.out, rdT_end m c _ args hc, if_neg]
              simp only [UInt8.le_iff_toNat_le]
              exact hdig
            rw [← hcn] at hdig
            clear hat hn hcn hc
            by_cases hlow : (S[at1]).toNat < 48
            · clear hdig
              go_wp2_with fail
              obtain ⟨f, hfg, hfty⟩ := hfail
              obtain ⟨f1, f2, _, _⟩ := f.cells
              exact bodyPost_ret (v := .tuple #[.agg #[.int .i64 0, .slice Av args.length cv], .int .i64 at1, .bool false]) (by simp [results, Tryd.results51, go_sem, f1, f2]) rfl ⟨_, _, _, _, _, rfl, hfg, hfty, .inr ⟨rfl, hnone.out⟩⟩
            · have hhigh : 57 < (S[at1]).toNat := by omega
              have hlow2 : 48 ≤ (S[at1]).toNat := by omega
              clear hdig hlow
              go_wp2_with fail
              obtain ⟨f, hfg, hfty⟩ := hfail
              obtain ⟨f1, f2, _, _⟩ := f.cells
              exact bodyPost_ret (v := .tuple #[.agg #[.int .i64 0, .slice Av args.length cv], .int .i64 at1, .bool false]) (by simp [results, Tryd.results51, go_sem, f1, f2]) rfl ⟨_, _, _, _, _, rfl, hfg, hfty, .inr ⟨rfl, hnone.out⟩⟩
      · obtain ⟨k1, k2, k3, k4⟩ := hst.typ.cells
        obtain ⟨j1, j2, j3, j4⟩ := hst.res.cells
        have kl := hst.typ.lt
        have hfail := hst.fail (by omega)
        have hnone : Hid (rdT n (l.drop at_) [] = none) := by
          unfold Hid
          rw [hspec.out, List.drop_eq_nil_of_le (by omega), rdT_nil]
        have hlt' : S.size ≤ at1 := by rw [HSZ.out]; omega
        go_wp2_with fail
        obtain ⟨f, hfg, hfty⟩ := hfail
        obtain ⟨f1, f2, _, _⟩ := f.cells
        exact bodyPost_ret (v := .tuple #[.agg #[.int .i64 0, .slice Av args.length cv], .int .i64 at1, .bool false]) (by simp [results, Tryd.results51, go_sem, f1, f2]) rfl ⟨_, _, _, _, _, rfl, hfg, hfty, .inr ⟨rfl, hnone.out⟩⟩
end Go.Proofs.YtmdgoalekkkpnaaDoor
