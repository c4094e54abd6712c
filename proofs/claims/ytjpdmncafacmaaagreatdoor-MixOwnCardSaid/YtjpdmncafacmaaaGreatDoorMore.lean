/- More words on rows of the call's own; readings of lists in lists. -/
import Derived.Test.YtjpdmncafacmaaaGreatDoorOwnAll
set_option linter.unusedVariables false
set_option linter.unusedSimpArgs false
namespace Go.Proofs.YtjpdmncafacmaaaGreatDoor
open Go.RowKit

theorem frm_own {w wr w7 : World} {v : Value} (h : w.grownBy wr none) (hl : ∀ b, v.ownBlock = some b → w.heap.size ≤ b) (hg : wr.grownBy w7 v.ownBlock) : w.grownBy w7 none := by
  cases hv : v.ownBlock with
  | none => rw [hv] at hg; exact frm_trans h hg
  | some g => rw [hv] at hg; exact frm_new h (hl g hv) hg
theorem Own.move {α : Type} {r : RdS α} (hr : Moves r) {w w' : World} {base e k : Nat} {ok ok' : Nat → Prop} {v : Value} {xs : List α} (h : Own r w base e k ok v xs)
    (hok : ∀ b, ok b → b < w.heap.size → ok' b ∧ w'.heap[b]? = w.heap[b]?) (hv : ∀ b, v.ownBlock = some b → w'.heap[b]? = w.heap[b]?) : Own r w' base e k ok' v xs := by
  obtain ⟨inner, ⟨hlen, ho⟩, h1, hx⟩ := h
  refine ⟨inner, ⟨hlen, ?_⟩, h1, fun i hi => ?_⟩
  · rcases ho with h | ⟨g, cap, cur, rfl, hb, hg, hrest⟩
    · exact .inl h
    · exact .inr ⟨g, cap, cur, rfl, hb, (hv g rfl).trans hg, hrest⟩
  · obtain ⟨cs, hl, hc, hrr⟩ := hx i hi
    refine ⟨cs, hl, hc, hr _ _ _ _ _ _ (fun b hb => ⟨(hok b hb.1 hb.2.1).1, ?_, hb.2.2⟩) (fun b hb => (hok b hb.1 hb.2.1).2) hrr⟩
    have := (hok b hb.1 hb.2.1).2
    rcases Nat.lt_or_ge b w'.heap.size with h | h
    · exact h
    · rw [Array.getElem?_eq_none h, Array.getElem?_eq_getElem hb.2.1] at this
      cases this

/-- It reads; the row's own block being known. -/
theorem Own.sl2 {α : Type} {r : RdS α} (hr : Moves r) {w : World} {base e k : Nat} {ok : Nat → Prop} {v : Value} {xs : List α} (h : Own r w base e k ok v xs)
    (hm : xs.length ≤ 140737488351232) {S : Nat → Prop} (hS : ∀ b, ok b → b < w.heap.size → S b) (hB : ∀ b, v.ownBlock = some b → S b) : Sl S w k (r S w) xs v := by
  have hlt := h.lt
  obtain ⟨A, c, he, hc⟩ := h.val
  obtain ⟨inner, ho, h1, hx⟩ := h
  refine ⟨A, c, he, hc, hm, fun h0 => ?_⟩
  rcases ho.2 with ⟨_, hn⟩ | ⟨g, cap, cur, hv, hb, hg, hcc, hcm, hcs, htake⟩
  · omega
  · rw [he] at hv
    injection hv with hA _ _
    refine ⟨g, 0, hA, ?_, fun i hi => ?_⟩
    · exact hB g (by rw [he, hA]; rfl)
    · obtain ⟨cs, hl, hcell, hrr⟩ := hx i hi
      refine ⟨cs, hl, fun j hj => ?_, hr _ _ _ _ _ _ (fun b hb => hS b hb.1 hb.2.1) (fun _ _ => rfl) hrr⟩
      rw [← hcell j hj, ← htake]
      have hik : i * k + j < xs.length * k := by
        have : (i + 1) * k ≤ xs.length * k := Nat.mul_le_mul_right _ hi
        rw [Nat.add_mul] at this
        omega
      rw [List.getElem?_take, if_pos hik]
      simp [World.cell?, hg]

theorem append_wp {P : Program} {o : Oper} {a : Act} {w : World} {next : Act → World → Prop} {Q : Exit → Act → World → Prop} (s x : Operand) {t : TypeId} {v sl v' : Value} {w' : World}
    (ho : o.op = .call { callee := .builtin .append, args := #[s, x], argTypes := #[t, t] }) (hs : a.eval s = v) (hx : a.eval x = sl)
    (hrun : (Builtin.append_ #[t, t] o.type #[v, sl]).run P w = .ok v' w') (h : next (a.put o.dst v') w') : Oper.wp P o a w next Q := by
  unfold Oper.wp execOp
  simp only [ho, resolve, invoke, builtin, Sem.run_bind, Sem.run_pure, Result.andThen_ok, List.map_toArray, List.map_cons, List.map_nil, hs, hx, hrun]
  exact h
theorem TwoAt.frm_row {w w' : World} {g : Nat} {v0 v1 : Value} {T : TypeId} {row : Option Nat} (h : TwoAt w g v0 v1 T) (hf : w.grownBy w' row) (hne : row ≠ some g) : TwoAt w' g v0 v1 T := h.move (hf.block g h.lt (by intro e; exact hne e.symm))
theorem frm_frozen {w w' : World} {b o : Nat} (h : w.grownBy w' none) (hb : b < w.heap.size) (hf : w.frozen? ⟨b, o, none⟩ = false) : w'.frozen? ⟨b, o, none⟩ = false := by
  unfold World.frozen? at *
  rw [frm_lt h b hb]
  exact hf
theorem run_append_zero {P : Program} {w : World} {t ty e : TypeId} {i : TypeInfo} (ht : P.underlying t = some (.slice e)) (hi : P.info? e = some i) (b : Addr) (k : Nat) (x : Option Addr) (c : Nat) :
    (Builtin.append_ #[t, t] ty #[.slice (some b) k k, .slice x 0 c]).run P w = .ok (.slice (some b) k k) w := by
  have hf : (Builtin.firstCells i.size 0 (.slice x 0 c)).run P w = .ok #[] w := by
    cases x with
    | none => exact run_firstCells_none ..
    | some x => simpa using run_firstCells_some (P := P) w i.size 0 x 0 c [] (by simp) (by simp)
  simp [Builtin.append_, run_underlying ht, sizeOf, typeInfo, hi, Builtin.lenOf, hf, storeCells]

theorem run_append_zero2 {P : Program} {w : World} {base : Nat} {t ty e : TypeId} {i : TypeInfo} {k n : Nat} {v : Value} {xs : List Value} (ht : P.underlying t = some (.slice e)) (hi : P.info? e = some i) (hown : w.ownsRow base e k v n xs) (a : Addr) (c : Nat) :
    (Builtin.append_ #[t, t] ty #[v, .slice (some a) 0 c]).run P w = .ok v w := by
  have hf : (Builtin.firstCells i.size 0 (.slice (some a) 0 c)).run P w = .ok #[] w := by
    simpa using run_firstCells_some (P := P) w i.size 0 a 0 c [] (by simp) (by simp)
  rcases hown.2 with ⟨rfl, rfl⟩ | ⟨g, cap, cur, rfl, _, _, hnc, _⟩
  · simp [Builtin.append_, run_underlying ht, sizeOf, typeInfo, hi, Builtin.lenOf, hf]
  · simp [Builtin.append_, run_underlying ht, sizeOf, typeInfo, hi, Builtin.lenOf, hf, hnc, storeCells]
theorem append_list {P : Program} {ops : Array Oper} {rest : List Oper} {o : Oper} {a : Act} {w : World} {Q : Exit → Act → World → Prop} (s x : Operand) {t : TypeId} {v sl v' : Value} {w' : World}
    (hgd : o.guard = none) (ho : o.op = .call { callee := .builtin .append, args := #[s, x], argTypes := #[t, t] }) (hs : a.eval s = v) (hx : a.eval x = sl)
    (hrun : (Builtin.append_ #[t, t] o.type #[v, sl]).run P w = .ok v' w') (h : wpList P ops Q rest (a.put o.dst v') w') : wpList P ops Q (o :: rest) a w := by
  refine wpList_plain hgd fun K hK => ?_
  exact append_wp s x ho hs hx hrun (hK _ _ h)

/-- A list whose elements have `k` cells each, behind one cell. -/
def RowS {α : Type} (k : Nat) (r : RdS α) : RdS (List α) := fun S w xs cs => ∃ v, cs = [v] ∧ Sl S w k (r S w) xs v
theorem moves_row {α : Type} {k : Nat} {r : RdS α} (hr : Moves r) : Moves (RowS k r) := by
  rintro S S' w w' xs cs hS hw ⟨v, rfl, h⟩
  exact ⟨v, rfl, h.move hS hw fun x _ cs h => hr _ _ _ _ _ _ hS hw h⟩
/-- Whole numbers. -/
def IntR : RdS Int := fun _ _ n cs => cs = [.int .i64 n] ∧ -9223372036854775808 ≤ n ∧ n ≤ 9223372036854775807
theorem moves_int : Moves IntR := fun S S' w w' x cs hS hw h => h
/-- What is read of an old world. -/
abbrev rdO {α : Type} (r : RdS α) (w : World) : α → List Value → Prop := r (fun b => b < w.heap.size) w
theorem stays_rd {α : Type} {r : RdS α} (hr : Moves r) : Stays (rdO r) := fun w w' x cs h hx => hr _ _ _ _ _ _ (fun b hb => Nat.lt_of_lt_of_le hb h.size) (frm_lt h) hx
theorem rdO_frm {α : Type} {r : RdS α} (hr : Moves r) {w w' : World} (hf : w.grownBy w' none) {x : α} {cs : List Value} (h : rdO r w x cs) : rdO r w' x cs := stays_rd hr _ _ _ _ hf h
theorem RowS.sl {α : Type} {k : Nat} {r : RdS α} {w : World} {xs : List α} {v : Value} (h : rdO (RowS k r) w xs [v]) : SlO w k (rdO r) xs v := by
  obtain ⟨v', hv, h⟩ := h
  obtain rfl : v = v' := by simpa using hv
  exact h
theorem RowS.val {α : Type} {k : Nat} {r : RdS α} {w : World} {xs : List α} {v : Value} (h : rdO (RowS k r) w xs [v]) : ∃ A c, v = .slice A xs.length c ∧ xs.length ≤ c ∧ xs.length ≤ 140737488351232 := (RowS.sl h).val
end Go.Proofs.YtjpdmncafacmaaaGreatDoor
