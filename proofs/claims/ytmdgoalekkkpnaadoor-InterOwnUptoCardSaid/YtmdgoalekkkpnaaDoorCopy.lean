/- The reference's copies: what is copied lies in new memory, each set apart from the others. -/
import Derived.Test.YtmdgoalekkkpnaaDoorOwnRun
import Derived.Test.YtmdgoalekkkpnaaDoorReadT
import Derived.Test.YtmdgoalekkkpnaaDoorOpenFit
set_option linter.unusedVariables false
set_option linter.unusedSimpArgs false
namespace Go.Proofs.YtmdgoalekkkpnaaDoor
open Go.RowKit

theorem frm_own {w wr w7 : World} {v : Value} (h : w.grownBy wr none) (hl : ∀ b, v.ownBlock = some b → w.heap.size ≤ b) (hg : wr.grownBy w7 v.ownBlock) : w.grownBy w7 none := by
  cases hv : v.ownBlock with
  | none => rw [hv] at hg; exact frm_trans h hg
  | some g => rw [hv] at hg; exact frm_new h (hl g hv) hg
theorem Own.move {α : Type} {r : RdS α} (hr : Moves r) {w w' : World} {base e k : Nat} {ok ok' : Nat → Prop} {v : Value} {xs : List α} (h : Own r w base e k ok v xs)
    (hok : ∀ b, ok b → b < w.heap.size → ok' b ∧ w'.heap[b]? = w.heap[b]?) (hv : ∀ b, v.ownBlock = some b → w'.heap[b]? = w.heap[b]?) : Own r w' base e k ok' v xs := by
  obtain ⟨inner, ⟨hlen, ho⟩, h1, hx⟩ := h
  refine ⟨inner, ⟨hlen, ?_⟩, h1, fun i hi => ?_⟩
  · rcases ho with h | ⟨g, cap, cur, rfl, hb, hg, hrest⟩
    · exact .inl h
    · exact .inr ⟨g, cap, cur, rfl, hb, (hv g rfl).trans hg, hrest⟩
  · obtain ⟨cs, hl, hc, hrr⟩ := hx i hi
    refine ⟨cs, hl, hc, hr _ _ _ _ _ _ (fun b hb => ⟨(hok b hb.1 hb.2.1).1, ?_, hb.2.2⟩) (fun b hb => (hok b hb.1 hb.2.1).2) hrr⟩
    have := (hok b hb.1 hb.2.1).2
    rcases Nat.lt_or_ge b w'.heap.size with h | h
    · exact h
    · rw [Array.getElem?_eq_none h, Array.getElem?_eq_getElem hb.2.1] at this
      cases this

/-- It reads; the row's own block being known. -/
theorem Own.sl2 {α : Type} {r : RdS α} (hr : Moves r) {w : World} {base e k : Nat} {ok : Nat → Prop} {v : Value} {xs : List α} (h : Own r w base e k ok v xs)
    (hm : xs.length ≤ 140737488351232) {S : Nat → Prop} (hS : ∀ b, ok b → b < w.heap.size → S b) (hB : ∀ b, v.ownBlock = some b → S b) : Sl S w k (r S w) xs v := by
  have hlt := h.lt
  obtain ⟨A, c, he, hc⟩ := h.val
  obtain ⟨inner, ho, h1, hx⟩ := h
  refine ⟨A, c, he, hc, hm, fun h0 => ?_⟩
  rcases ho.2 with ⟨_, hn⟩ | ⟨g, cap, cur, hv, hb, hg, hcc, hcm, hcs, htake⟩
  · omega
  · rw [he] at hv
    injection hv with hA _ _
    refine ⟨g, 0, hA, ?_, fun i hi => ?_⟩
    · exact hB g (by rw [he, hA]; rfl)
    · obtain ⟨cs, hl, hcell, hrr⟩ := hx i hi
      refine ⟨cs, hl, fun j hj => ?_, hr _ _ _ _ _ _ (fun b hb => hS b hb.1 hb.2.1) (fun _ _ => rfl) hrr⟩
      rw [← hcell j hj, ← htake]
      have hik : i * k + j < xs.length * k := by
        have : (i + 1) * k ≤ xs.length * k := Nat.mul_le_mul_right _ hi
        rw [Nat.add_mul] at this
        omega
      rw [List.getElem?_take, if_pos hik]
      simp [World.cell?, hg]

/-- A set whose blocks lie from `lo` on, below `hi`. -/
def SetX : RdS (List Ty × Nat × Nat) := fun S w p cs =>
  ∃ v, cs = [v] ∧ Own TyR w p.2.1 24 2 (fun b => p.2.1 ≤ b ∧ b < p.2.2 ∧ S b) v p.1 ∧ (∀ b, v.ownBlock = some b → p.2.1 ≤ b ∧ b < p.2.2 ∧ S b)
theorem moves_setX : Moves SetX := by
  rintro S S' w w' ⟨ts, lo, hi⟩ cs hS hw ⟨v, rfl, ho, hv⟩
  exact ⟨v, rfl, ho.move moves_ty (fun b hb _ => ⟨⟨hb.1, hb.2.1, hS b hb.2.2⟩, hw b hb.2.2⟩) (fun b hb => hw b (hv b hb).2.2), fun b hb => ⟨(hv b hb).1, (hv b hb).2.1, hS b (hv b hb).2.2⟩⟩

theorem append_wp {P : Program} {o : Oper} {a : Act} {w : World} {next : Act → World → Prop} {Q : Exit → Act → World → Prop} (s x : Operand) {t : TypeId} {v sl v' : Value} {w' : World}
    (ho : o.op = .call { callee := .builtin .append, args := #[s, x], argTypes := #[t, t] }) (hs : a.eval s = v) (hx : a.eval x = sl)
    (hrun : (Builtin.append_ #[t, t] o.type #[v, sl]).run P w = .ok v' w') (h : next (a.put o.dst v') w') : Oper.wp P o a w next Q := by
  unfold Oper.wp execOp
  simp only [ho, resolve, invoke, builtin, Sem.run_bind, Sem.run_pure, Result.andThen_ok, List.map_toArray, List.map_cons, List.map_nil, hs, hx, hrun]
  exact h
/-- What Copy's contract says of a type. -/
def CopyPost (w : World) (st : Int) (args : List (List Ty)) (e : Ending) (w' : World) : Prop :=
  ∃ v ps, e = .returned (.agg #[.int .i64 st, v]) ∧ w.grownBy w' none ∧ Own SetX w' w.heap.size 36 1 (fun b => w.heap.size ≤ b) v ps ∧ ps.map (·.1) = args ∧ ps.Pairwise (fun p q => p.2.2 ≤ q.2.1)
def CopyAt (t : Ty) : Prop := ∀ (w : World) (v0 v1 : Value), TyO w t [v0, v1] → t.Fit → Calls Tryd.prog 23 #[.agg #[v0, v1]] w fun e w' => match t with | .mk st args => CopyPost w st args e w'
theorem fit_args {st : Int} {args : List (List Ty)} (h : Ty.Fit (.mk st args)) : args.length * 24 ≤ 140737488351232 ∧ (∀ s ∈ args, s.length * 32 ≤ 140737488351232) ∧ (∀ s ∈ args, ∀ t ∈ s, Ty.Fit t) := by
  cases h with
  | mk _ _ h1 h2 h3 => exact ⟨h1, h2, h3⟩
/-- A copy reads as the type, in new memory. -/
theorem CopyPost.ty {w w' : World} {st : Int} {args : List (List Ty)} {v : Value} {ps : List (List Ty × Nat × Nat)} (h1 : -9223372036854775808 ≤ st) (h2 : st ≤ 9223372036854775807) (hm : args.length ≤ 140737488351232) (hms : ∀ s ∈ args, s.length ≤ 140737488351232)
    (ho : Own SetX w' w.heap.size 36 1 (fun b => w.heap.size ≤ b) v ps) (hp : ps.map (·.1) = args) : TyR (fun b => w.heap.size ≤ b ∧ b < w'.heap.size) w' (.mk st args) [.int .i64 st, v] := by
  refine TyR_mk.2 ⟨v, rfl, h1, h2, ?_⟩
  have hlen : ps.length = args.length := by rw [← hp, List.length_map]
  obtain ⟨A, c, rfl, hc, _, hcell⟩ := ho.sl moves_setX (by omega) (S := fun b => w.heap.size ≤ b ∧ b < w'.heap.size) (fun b h1 h2 => ⟨h1, h2⟩) (fun b h1 h2 => ⟨h1, h2⟩)
  refine ⟨A, c, by rw [hlen], by omega, hm, fun h0 => ?_⟩
  obtain ⟨b, o, rfl, hb, hx⟩ := hcell (by omega)
  refine ⟨b, o, rfl, hb, fun i hi => ?_⟩
  obtain ⟨cs, hl, hcs, u, rfl, hou, hub⟩ := hx i (by omega)
  refine ⟨_, hl, hcs, u, rfl, ?_⟩
  have he : (ps[i]'(by omega)).1 = args[i] := by
    subst hp
    simp
  rw [← he]
  refine hou.sl2 moves_ty ?_ (fun b hb _ => hb.2.2) (fun b hb => (hub b hb).2.2)
  rw [he]
  exact hms _ (List.getElem_mem hi)

set_option maxRecDepth 100000 in
set_option maxHeartbeats 1000000 in
theorem rcopySet_calls (ts : List Ty) (IH : ∀ t ∈ ts, CopyAt t) (w : World) (v : Value) (hv : SetO w ts [v]) (hfit : ∀ t ∈ ts, t.Fit) (hb32 : ts.length * 32 ≤ 140737488351232) :
    Calls Tryd.prog 44 #[v] w fun e w' => ∃ u, e = .returned u ∧ w.grownBy w' none ∧ Own TyR w' w.heap.size 24 2 (fun b => w.heap.size ≤ b) u ts := by
  have hs := SetO.sl hv
  obtain ⟨A, c, rfl, hc, hm⟩ := hs.val
  have HI := Lib.hid IH
  have HF := Lib.hid hfit
  clear IH hfit hv
  go_enter Tryd.func44, Tryd.ntmps44
  go_wp2_with fail
  go_loopw [3, 8] (fun u i wr => ∃ k : Nat, k ≤ ts.length ∧ i = .int .i64 k ∧ w.grownBy wr none ∧ Own TyR wr w.heap.size 24 2 (fun b => w.heap.size ≤ b) u (ts.take k)) (fun _ i _ => ts.length - (intOf i).toNat)
  case atStart => exact ⟨0, Nat.zero_le _, rfl, frm_refl _ _, Own.nil _ _ _ _ _ _⟩
  case round =>
    obtain ⟨k, hk, rfl, hfr, hO⟩ := hrel
    obtain ⟨Au, cu, he, hcu⟩ := hO.val
    have hlk : (ts.take k).length = k := by rw [List.length_take]; omega
    rw [hlk] at he hcu
    subst he
    by_cases hlt : k < ts.length
    · obtain ⟨b, o, p0, p1, rfl, hb, hp0, hp1, hpt⟩ := (hs.frm hfr stays_ty).at2 k hlt
      obtain ⟨s1, A1, n1, c1, rfl, rfl⟩ := hpt.vals
      have HT := Lib.hid (List.take_succ_eq_append_getElem hlt)
      have ih := Lib.hid (HI.out _ (List.getElem_mem hlt))
      have fit := HF.out _ (List.getElem_mem hlt)
      generalize ts[k] = t at *
      have hf4 := frm_alloc wr (.cells #[.int .i64 s1, .slice A1 n1 c1] 24)
      go_wp2_with fail
      refine (ih.out _ _ _ (stays_ty _ _ _ _ hf4 hpt) fit).mono ?_
      cases t with
      | mk st args =>
        rintro e w5 ⟨v5, ps, rfl, hf5, ho5, hps⟩
        obtain ⟨A5, c5, rfl, _⟩ := ho5.val
        obtain ⟨hp1s, hpw⟩ := hps
        obtain ⟨g1, g2, g3⟩ := fit_args fit
        have hstb : -9223372036854775808 ≤ st ∧ st ≤ 9223372036854775807 := by
          obtain ⟨_, _, q1, q2, _⟩ := TyO_mk.1 hpt
          exact ⟨q1, q2⟩
        have hty := CopyPost.ty hstb.1 hstb.2 (by omega) (fun s hs => by have := g2 s hs; omega) ho5 hp1s
        have hf45 := frm_trans hf4 hf5
        have hf6 : w5.grownBy ((w5.alloc (.cells #[.int .i64 st, .slice A5 ps.length c5] 24)) ) none := frm_alloc _ _
        have hO5 := ((hO.kept moves_ty hf45 (ownNone _) (by simp)).kept moves_ty hf6 (ownNone _) (by simp))
        have hlt5 := hO.lt
        have hsz4 := hf45.size
        have hsz0 := hfr.size
        dsimp only
        repeat ((fail_if_success at_builtin); first | go_values | go_skip | go_guarded | go_step | go_upon)
        have htw := TwoAt.new w5 (.int .i64 st) (.slice A5 ps.length c5) 24
        refine Own.append1 moves_ty elem_ty hO5 rfl _ _ rfl rfl rfl (.mk st args) [.int .i64 st, .slice A5 ps.length c5] rfl ?_ ?_ ?_ (by rw [hlk]; omega) (by omega) (by simp; omega) ?_
        · intro j u hj
          match j with
          | 0 => simp at hj; subst hj; exact htw.cells.1
          | 1 => simp at hj; subst hj; exact htw.cells.2.1
          | j + 2 => simp at hj
        · intro u hu
          simp at hu
          rcases hu with rfl | rfl <;> rfl
        · refine hty.move (fun b hb => ⟨?_, ?_, fun e => ?_⟩) (fun b hb => frm_lt hf6 b hb.2)
          · have := hb.1
            simp at this
            omega
          · have := hb.2
            simp
            omega
          · have h1 := (hlt5 b e.symm).2
            have h2 := hb.1
            simp at h2
            omega
        intro v7 w7 hO8 hg7 hp7
        have hfr7 := frm_own (frm_trans hfr (frm_trans hf45 hf6)) (fun b hb => (hlt5 b hb).1) hg7
        obtain ⟨A7, c7, rfl, _⟩ := hO8.val
        rw [← HT.out] at hO8
        go_wp2_with fail
        refine ⟨⟨k + 1, by omega, by go_num, hfr7, ?_⟩, by simp [intOf]; omega⟩
        have hl8 : (ts.take (k + 1)).length = k + 1 := by rw [List.length_take]; omega
        rw [hl8] at hO8
        simpa [hlk] using hO8
    · obtain rfl : k = ts.length := by omega
      rw [List.take_length] at hO
      go_wp2_with fail
      exact bodyPost_ret (results_tmp rfl _ _ _) rfl ⟨.slice Au ts.length cu, rfl, hfr, hO⟩

/-! ### The copies' loop -/
theorem TwoAt.frm_row {w w' : World} {g : Nat} {v0 v1 : Value} {T : TypeId} {row : Option Nat} (h : TwoAt w g v0 v1 T) (hf : w.grownBy w' row) (hne : row ≠ some g) : TwoAt w' g v0 v1 T := h.move (hf.block g h.lt (by intro e; exact hne e.symm))
/-- What holds in the loop: `k` rows are copied. -/
def CopyRel (w : World) (st : Int) (args : List (List Ty)) (k : Nat) (wr : World) : Prop :=
  ∃ va ps, w.grownBy wr none ∧ TwoAt wr (w.heap.size + 1) (.int .i64 0) (.slice none 0 0) 24 ∧ TwoAt wr (w.heap.size + 2) (.int .i64 st) va 24 ∧
      Own SetX wr (w.heap.size + 3) 36 1 (fun b => w.heap.size + 3 ≤ b) va ps ∧ ps.map (·.1) = args.take k ∧ ps.Pairwise (fun p q => p.2.2 ≤ q.2.1) ∧ (∀ p ∈ ps, p.2.2 ≤ wr.heap.size)

theorem copy_next {w wr w5 : World} {st : Int} {args : List (List Ty)} {k : Nat} {Av : Option Addr} {cv : Nat} {ps : List (List Ty × Nat × Nat)} {ts : List Ty} {A5 : Option Addr} {c5 : Nat}
    (hlt : k < args.length) (HS : Hid (args.length * 24 ≤ 140737488351232)) (hmt : Hid (args.take (k + 1) = args.take k ++ [ts])) (hfr : w.grownBy wr none)
    (hres : TwoAt wr (w.heap.size + 1) (.int .i64 0) (.slice none 0 0) 24) (hout : TwoAt wr (w.heap.size + 2) (.int .i64 st) (.slice Av ps.length cv) 24)
    (hO : Own SetX wr (w.heap.size + 3) 36 1 (fun b => w.heap.size + 3 ≤ b) (.slice Av ps.length cv) ps) (hmap : ps.map (·.1) = args.take k) (hpw : ps.Pairwise (fun p q => p.2.2 ≤ q.2.1)) (hhi : ∀ p ∈ ps, p.2.2 ≤ wr.heap.size)
    (hf5 : wr.drew.grownBy w5 none) (ho5 : Own TyR w5 wr.heap.size 24 2 (fun b => wr.heap.size ≤ b) (.slice A5 ts.length c5) ts) :
    ∃ w7 A7 c7, (Builtin.append_ #[22, 22] 22 #[.slice Av ps.length cv, .slice (some ⟨w5.heap.size, 0, none⟩) 1 1]).run Tryd.prog (w5.alloc (.cells #[.slice A5 ts.length c5] 36)) = .ok (.slice A7 (ps.length + 1) c7) w7 ∧
      TwoAt w7 (w.heap.size + 2) (.int .i64 st) (.slice Av ps.length cv) 24 ∧ CopyRel w st args (k + 1) (w7.setCell ⟨w.heap.size + 1 + 1, 1, none⟩ (.slice A7 (ps.length + 1) c7)) := by
  have hpl : ps.length = k := by
    have := congrArg List.length hmap
    rw [List.length_map, List.length_take] at this
    omega
  have HSo := HS.out
  have s5 : wr.heap.size ≤ w5.heap.size := hf5.size
  have kl := hout.lt
  have HFA : wr.grownBy (w5.alloc (.cells #[.slice A5 ts.length c5] 36)) none := frm_then_alloc (frm_trans (frm_drew _) hf5) _
  have HOA : Own SetX (w5.alloc (.cells #[.slice A5 ts.length c5] 36)) (w.heap.size + 3) 36 1 (fun b => w.heap.size + 3 ≤ b) (.slice Av ps.length cv) ps := hO.kept moves_setX HFA (ownNone _) (by simp)
  have HC : ∀ j u, [Value.slice A5 ts.length c5][j]? = some u → (w5.alloc (.cells #[.slice A5 ts.length c5] 36)).cell? ⟨w5.heap.size, j, none⟩ = some u := by
    intro j u hj
    match j with
    | 0 => simp at hj; subst hj; exact (OneAt.new w5 _ _).cell
    | j + 1 => simp at hj
  have hlt5 := hO.lt
  have HX : SetX (Sup (fun b => w.heap.size + 3 ≤ b) (w5.alloc (.cells #[.slice A5 ts.length c5] 36)) (.slice Av ps.length cv)) (w5.alloc (.cells #[.slice A5 ts.length c5] 36)) (ts, wr.heap.size, w5.heap.size) [.slice A5 ts.length c5] := by
    have hin : ∀ b, wr.heap.size ≤ b → b < w5.heap.size → Sup (fun b => w.heap.size + 3 ≤ b) (w5.alloc (.cells #[.slice A5 ts.length c5] 36)) (.slice Av ps.length cv) b := fun b h1 h2 => ⟨by omega, by simp; omega, fun e => by have := (hlt5 b e.symm).2; omega⟩
    refine ⟨_, rfl, (ho5.move moves_ty (fun b hb hb2 => ⟨⟨hb, hb2, hin b hb hb2⟩, Below.heap_alloc _ _ _ hb2⟩) (fun b hb => Below.heap_alloc _ _ _ (ho5.lt b hb).2)), fun b hb => ?_⟩
    have := ho5.lt b hb
    exact ⟨this.1, this.2, hin b this.1 this.2⟩
  obtain ⟨v7, w7, hrun, hO7, hg7, hp7⟩ := Own.append_run moves_setX elem_set HOA 22 (ts, wr.heap.size, w5.heap.size) [.slice A5 ts.length c5] rfl HC (by simp [Value.oneCell']) HX (by omega) (by omega) (by simp; omega)
  obtain ⟨A7, c7, rfl, _⟩ := hO7.val
  have hne : (Value.slice Av ps.length cv).ownBlock ≠ some (w.heap.size + 2) := fun e => by have := (hlt5 _ e).1; omega
  have hne1 : (Value.slice Av ps.length cv).ownBlock ≠ some (w.heap.size + 1) := fun e => by have := (hlt5 _ e).1; omega
  have hf7 : w.grownBy w7 none := frm_own (frm_trans hfr HFA) (fun b hb => by have := (hlt5 b hb).1; omega) hg7
  have ht7 : TwoAt w7 (w.heap.size + 2) (.int .i64 st) (.slice Av ps.length cv) 24 := (hout.frm HFA).frm_row hg7 hne
  have hr7 : TwoAt w7 (w.heap.size + 1) (.int .i64 0) (.slice none 0 0) 24 := (hres.frm HFA).frm_row hg7 hne1
  have hlt7 := hO7.lt
  have s7 : w5.heap.size + 1 ≤ w7.heap.size := by simpa using hg7.size
  simp only [List.length_append, List.length_cons, List.length_nil, Nat.zero_add] at hrun hO7 hlt7
  refine ⟨w7, A7, c7, hrun, ht7, .slice A7 (ps.length + 1) c7, ps ++ [(ts, wr.heap.size, w5.heap.size)], frm_set_new hf7 (by omega) _ _, hr7.move (Below.heap_setCell _ _ _ _ (by simp)), ht7.set1 _, ?_, ?_, ?_, ?_⟩
  · refine hO7.kept moves_setX (row := some (w.heap.size + 2)) (frm_set (frm_refl _ _) _ _) ?_ ?_
    · cases hv : (Value.slice A7 (ps.length + 1) c7).ownBlock with
      | none => exact .inl rfl
      | some g =>
        refine .inr fun e => ?_
        injection e with e
        have := (hlt7 g hv).1
        omega
    · intro b hb e
      injection e with e
      omega
  · rw [List.map_append, hmap, hmt.out]
    rfl
  · rw [List.pairwise_append]
    refine ⟨hpw, by simp, fun a ha b hb => ?_⟩
    simp only [List.mem_singleton] at hb
    subst hb
    exact hhi a ha
  · intro p hp
    have hsz : (w7.setCell ⟨w.heap.size + 1 + 1, 1, none⟩ (.slice A7 (ps.length + 1) c7)).heap.size = w7.heap.size := by simp
    rw [hsz]
    rcases List.mem_append.1 hp with hp | hp
    · have := hhi p hp
      omega
    · simp only [List.mem_singleton] at hp
      subst hp
      show w5.heap.size ≤ _
      omega

set_option maxRecDepth 100000 in
set_option maxHeartbeats 2000000 in
theorem rcopy_calls : ∀ t : Ty, CopyAt t := by
  intro t
  induction t using Ty.ind with
  | h st args ih =>
    intro w v0 v1 ht hfit
    rw [TyO_mk] at ht
    obtain ⟨v, hcs, h1, h2, hs⟩ := ht
    obtain ⟨rfl, rfl⟩ : v0 = .int .i64 st ∧ v1 = v := by simpa using hcs
    obtain ⟨A, c, rfl, hc, hm⟩ := hs.val
    obtain ⟨g1, g2, g3⟩ := fit_args hfit
    have HS := Lib.hid g1
    clear hcs hfit g1
    have IH : Hid (∀ s ∈ args, ∀ (w : World) (v : Value), SetO w s [v] → Calls Tryd.prog 44 #[v] w fun e w' => ∃ u, e = .returned u ∧ w.grownBy w' none ∧ Own TyR w' w.heap.size 24 2 (fun b => w.heap.size ≤ b) u s) :=
      fun s hs w v hv => rcopySet_calls s (ih s hs) w v hv (g3 s hs) (g2 s hs)
    clear ih
    go_enter Tryd.func23, Tryd.ntmps23
    go_wp2_with fail
    go_loopw [12] (fun i wr => ∃ (k : Nat), k ≤ args.length ∧ i = .int .i64 k ∧ CopyRel w st args k wr) (fun i _ => args.length - (intOf i).toNat)
    case atStart =>
      refine ⟨0, Nat.zero_le _, rfl, .slice none 0 0, [], frm_then_alloc (frm_then_alloc (frm_alloc _ _) _) _, (TwoAt.new2 w _ _ _ _).alloc _, TwoAt.new3 w _ _ _ _ _, Own.nil _ _ _ _ _ _, rfl, .nil, by simp⟩
    case round =>
      obtain ⟨k, hk, rfl, va, ps, hfr, hres, hout, hO, hmap, hpw, hhi⟩ := hrel
      obtain ⟨k1, k2, k3, k4⟩ := hout.cells
      obtain ⟨j1, j2, j3, j4⟩ := hres.cells
      have kl := hout.lt
      obtain ⟨Av, cv, rfl, _⟩ := hO.val
      by_cases hlt : k < args.length
      · obtain ⟨o, p, q, rfl, ho, hq, hqt⟩ := (hs.frm hfr stays_set).at1 k hlt
        obtain ⟨A2, c2, rfl, hc2, hm2⟩ := (SetO.sl hqt).val
        have hmt := Lib.hid (List.take_succ_eq_append_getElem hlt)
        have hma := List.getElem_mem hlt
        generalize args[k] = ts at *
        have hpw := Lib.hid hpw
        have hmap := Lib.hid hmap
        have hhi := Lib.hid hhi
        go_wp2_with fail
        have k2d := frm_cell (frm_drew wr) k2
        refine wp_region_held_drew (S := fun _ => True) (by kernel_rfl) trivial (fun hHeld => ?_)
        refine held_yes 0 (v := ?_) rfl (by kernel_rfl) (by kernel_rfl) (by kernel_rfl) (fun _ _ _ h => h) (by kernel_rfl) (fun w hSw => ?_) (by assumption) ?_
        rotate_left
        · (try dsimp only at hSw); go_simp; (try with_reducible rfl)
        try simp only [Act.put, List.setIfInBounds_toArray, List.set_cons_zero, List.set_cons_succ]
        refine held_yes 2 (v := ?_) rfl (by kernel_rfl) (by kernel_rfl) (by kernel_rfl) (fun _ _ _ h => h) (by kernel_rfl) (fun w hSw => ?_) (by assumption) ?_
        rotate_left
        · (try dsimp only at hSw); go_simp; (try with_reducible rfl)
        try simp only [Act.put, List.setIfInBounds_toArray, List.set_cons_zero, List.set_cons_succ]
        refine wpAnyH_ready (rs := [1, 3]) (by kernel_rfl) (by simp) (AllReadyH.cons rfl (fun K hK => ?_) (AllReadyH.cons rfl (fun K hK => ?_) AllReadyH.nil))
        · go_simp
          refine hK.out _ _ trivial (fun hHeld => ?_)
          clear hK K
          try simp only [Act.put, List.setIfInBounds_toArray, List.set_cons_zero, List.set_cons_succ]
          refine wpAnyH_ready (rs := [3]) (by kernel_rfl) (by simp) (AllReadyH.cons rfl (fun K hK => ?_) AllReadyH.nil)
          go_simp
          refine (IH.out _ hma _ _ (stays_set _ _ _ _ (frm_drew _) hqt)).mono ?_
          rintro e w5 ⟨u5, rfl, hf5, ho5⟩
          obtain ⟨A5, c5, rfl, _⟩ := ho5.val
          go_wp2_with fail
          have HN := Lib.hid (copy_next hlt HS hmt hfr hres hout hO hmap.out hpw.out hhi.out hf5 ho5)
          refine hK.out _ _ trivial (fun hHeld => ?_)
          clear hK K
          try simp only [Act.put, List.setIfInBounds_toArray, List.set_cons_zero, List.set_cons_succ]
          refine wpAnyH_ready (rs := [4]) (by kernel_rfl) (by simp) (AllReadyH.cons rfl (fun K hK => ?_) AllReadyH.nil)
          go_simp
          refine hK.out _ _ trivial (fun hHeld => ?_)
          clear hK K
          try simp only [Act.put, List.setIfInBounds_toArray, List.set_cons_zero, List.set_cons_succ]
          obtain ⟨w7, A7, c7, hrun, hout7, HR⟩ := HN.out
          obtain ⟨m1, m2, m3, m4⟩ := hout7.cells
          have ml := hout7.lt
          refine wpAnyH_ready (rs := [5]) (by kernel_rfl) (by simp) (AllReadyH.cons rfl (fun K hK => ?_) AllReadyH.nil)
          rw [if_pos (by kernel_rfl)]
          refine append_wp (.tmp 17) (.tmp 20) rfl rfl rfl hrun ?_
          refine hK.out _ _ trivial (fun hHeld => ?_)
          clear hK K
          try simp only [Act.put, List.setIfInBounds_toArray, List.set_cons_zero, List.set_cons_succ]
          refine held_yes 6 (v := ?_) rfl (by kernel_rfl) (by kernel_rfl) (by kernel_rfl) (fun _ _ _ h => h) (by kernel_rfl) (fun w hSw => ?_) (by assumption) ?_
          rotate_left
          · (try dsimp only at hSw); go_simp; (try with_reducible rfl)
          try simp only [Act.put, List.setIfInBounds_toArray, List.set_cons_zero, List.set_cons_succ]
          refine wpAnyH_ready (rs := [7]) (by kernel_rfl) (by simp) (AllReadyH.cons rfl (fun K hK => ?_) AllReadyH.nil)
          go_simp
          refine hK.out _ _ trivial (fun hHeld => ?_)
          clear hK K
          try simp only [Act.put, List.setIfInBounds_toArray, List.set_cons_zero, List.set_cons_succ]
          refine wpAnyH_done (by kernel_rfl) ?_ _
          go_wp2_with fail
          exact ⟨⟨k + 1, by omega, by go_num, HR⟩, by simp [intOf]; omega⟩
        · go_simp
          refine (IH.out _ hma _ _ (stays_set _ _ _ _ (frm_drew _) hqt)).mono ?_
          rintro e w5 ⟨u5, rfl, hf5, ho5⟩
          obtain ⟨A5, c5, rfl, _⟩ := ho5.val
          go_wp2_with fail
          have HN := Lib.hid (copy_next hlt HS hmt hfr hres hout hO hmap.out hpw.out hhi.out hf5 ho5)
          refine hK.out _ _ trivial (fun hHeld => ?_)
          clear hK K
          try simp only [Act.put, List.setIfInBounds_toArray, List.set_cons_zero, List.set_cons_succ]
          have k2' := frm_cell hf5 (frm_cell (frm_drew wr) k2)
          refine wpAnyH_ready (rs := [1, 4]) (by kernel_rfl) (by simp) (AllReadyH.cons rfl (fun K hK => ?_) (AllReadyH.cons rfl (fun K hK => ?_) AllReadyH.nil))
          · go_simp
            refine hK.out _ _ trivial (fun hHeld => ?_)
            clear hK K
            try simp only [Act.put, List.setIfInBounds_toArray, List.set_cons_zero, List.set_cons_succ]
            refine wpAnyH_ready (rs := [4]) (by kernel_rfl) (by simp) (AllReadyH.cons rfl (fun K hK => ?_) AllReadyH.nil)
            go_simp
            refine hK.out _ _ trivial (fun hHeld => ?_)
            clear hK K
            try simp only [Act.put, List.setIfInBounds_toArray, List.set_cons_zero, List.set_cons_succ]
            obtain ⟨w7, A7, c7, hrun, hout7, HR⟩ := HN.out
            obtain ⟨m1, m2, m3, m4⟩ := hout7.cells
            have ml := hout7.lt
            refine wpAnyH_ready (rs := [5]) (by kernel_rfl) (by simp) (AllReadyH.cons rfl (fun K hK => ?_) AllReadyH.nil)
            rw [if_pos (by kernel_rfl)]
            refine append_wp (.tmp 17) (.tmp 20) rfl rfl rfl hrun ?_
            refine hK.out _ _ trivial (fun hHeld => ?_)
            clear hK K
            try simp only [Act.put, List.setIfInBounds_toArray, List.set_cons_zero, List.set_cons_succ]
            refine held_yes 6 (v := ?_) rfl (by kernel_rfl) (by kernel_rfl) (by kernel_rfl) (fun _ _ _ h => h) (by kernel_rfl) (fun w hSw => ?_) (by assumption) ?_
            rotate_left
            · (try dsimp only at hSw); go_simp; (try with_reducible rfl)
            try simp only [Act.put, List.setIfInBounds_toArray, List.set_cons_zero, List.set_cons_succ]
            refine wpAnyH_ready (rs := [7]) (by kernel_rfl) (by simp) (AllReadyH.cons rfl (fun K hK => ?_) AllReadyH.nil)
            go_simp
            refine hK.out _ _ trivial (fun hHeld => ?_)
            clear hK K
            try simp only [Act.put, List.setIfInBounds_toArray, List.set_cons_zero, List.set_cons_succ]
            refine wpAnyH_done (by kernel_rfl) ?_ _
            go_wp2_with fail
            exact ⟨⟨k + 1, by omega, by go_num, HR⟩, by simp [intOf]; omega⟩
          · go_simp
            refine hK.out _ _ trivial (fun hHeld => ?_)
            clear hK K
            try simp only [Act.put, List.setIfInBounds_toArray, List.set_cons_zero, List.set_cons_succ]
            have k2' := frm_cell (frm_alloc w5 (.cells #[.slice A5 ts.length c5] 36)) (frm_cell hf5 (frm_cell (frm_drew wr) k2))
            refine wpAnyH_ready (rs := [1]) (by kernel_rfl) (by simp) (AllReadyH.cons rfl (fun K hK => ?_) AllReadyH.nil)
            go_simp
            refine hK.out _ _ trivial (fun hHeld => ?_)
            clear hK K
            try simp only [Act.put, List.setIfInBounds_toArray, List.set_cons_zero, List.set_cons_succ]
            obtain ⟨w7, A7, c7, hrun, hout7, HR⟩ := HN.out
            obtain ⟨m1, m2, m3, m4⟩ := hout7.cells
            have ml := hout7.lt
            refine wpAnyH_ready (rs := [5]) (by kernel_rfl) (by simp) (AllReadyH.cons rfl (fun K hK => ?_) AllReadyH.nil)
            rw [if_pos (by kernel_rfl)]
            refine append_wp (.tmp 17) (.tmp 20) rfl rfl rfl hrun ?_
            refine hK.out _ _ trivial (fun hHeld => ?_)
            clear hK K
            try simp only [Act.put, List.setIfInBounds_toArray, List.set_cons_zero, List.set_cons_succ]
            refine held_yes 6 (v := ?_) rfl (by kernel_rfl) (by kernel_rfl) (by kernel_rfl) (fun _ _ _ h => h) (by kernel_rfl) (fun w hSw => ?_) (by assumption) ?_
            rotate_left
            · (try dsimp only at hSw); go_simp; (try with_reducible rfl)
            try simp only [Act.put, List.setIfInBounds_toArray, List.set_cons_zero, List.set_cons_succ]
            refine wpAnyH_ready (rs := [7]) (by kernel_rfl) (by simp) (AllReadyH.cons rfl (fun K hK => ?_) AllReadyH.nil)
            go_simp
            refine hK.out _ _ trivial (fun hHeld => ?_)
            clear hK K
            try simp only [Act.put, List.setIfInBounds_toArray, List.set_cons_zero, List.set_cons_succ]
            refine wpAnyH_done (by kernel_rfl) ?_ _
            go_wp2_with fail
            exact ⟨⟨k + 1, by omega, by go_num, HR⟩, by simp [intOf]; omega⟩
      · obtain rfl : k = args.length := by omega
        rw [List.take_length] at hmap
        have HM := Lib.hid hmap
        have HP := Lib.hid hpw
        clear hmap hpw hhi
        go_wp2_with fail
        have hfin : TwoAt ((wr.setCell ⟨w.heap.size + 1, 0, none⟩ (.int .i64 st)).setCell ⟨w.heap.size + 1, 1, none⟩ (.slice Av ps.length cv)) (w.heap.size + 1) (.int .i64 st) (.slice Av ps.length cv) 24 := (hres.set0 _).set1 _
        obtain ⟨f1, f2, _, _⟩ := hfin.cells
        have hlt5 := hO.lt
        have hG : wr.grownBy ((wr.setCell ⟨w.heap.size + 1, 0, none⟩ (.int .i64 st)).setCell ⟨w.heap.size + 1, 1, none⟩ (.slice Av ps.length cv)) (some (w.heap.size + 1)) := frm_set (frm_set (frm_refl _ _) _ _) _ _
        have hO2 := hO.kept moves_setX hG (by
          cases hv : (Value.slice Av ps.length cv).ownBlock with
          | none => exact .inl rfl
          | some g =>
            refine .inr fun e => ?_
            injection e with e
            have := (hlt5 g hv).1
            omega) (by
          intro b hb e
          injection e with e
          omega)
        exact bodyPost_ret (v := .agg #[.int .i64 st, .slice Av ps.length cv]) (by simp [results, Tryd.results23, go_sem, f1, f2]) rfl ⟨.slice Av ps.length cv, ps, rfl, frm_set_new (frm_set_new hfr (by omega) _ _) (by omega) _ _, (hO2.lower (by omega)).ok_mono moves_setX (fun b hb _ => by omega), HM.out, HP.out⟩
end Go.Proofs.YtmdgoalekkkpnaaDoor
