/- Rows that a call makes itself: what is appended to them, and how they read. -/
import Derived.Test.YtjpdmncafacmaaaGreatDoorBase
import Derived.Laws.AppendOwn
set_option linter.unusedVariables false
set_option linter.unusedSimpArgs false
namespace Go.Proofs.YtjpdmncafacmaaaGreatDoor
open Go.RowKit

/-- How an element reads, its inner blocks among `S`. -/
abbrev RdS (α : Type) := (Nat → Prop) → World → α → List Value → Prop
/-- It lives on where its blocks do. -/
def Moves {α : Type} (r : RdS α) : Prop := ∀ (S S' : Nat → Prop) w w' x cs, (∀ b, S b → S' b) → (∀ b, S b → w'.heap[b]? = w.heap[b]?) → r S w x cs → r S' w' x cs

/-- The support of a row's elements: `ok`, there, and not the row's own block. -/
def Sup (ok : Nat → Prop) (w : World) (v : Value) (b : Nat) : Prop := ok b ∧ b < w.heap.size ∧ some b ≠ v.ownBlock

/-- A row of the call's own, from block `base` on, that reads as `xs`. -/
def Own {α : Type} (r : RdS α) (w : World) (base e k : Nat) (ok : Nat → Prop) (v : Value) (xs : List α) : Prop :=
  ∃ inner : List Value, w.ownsRow base e k v xs.length inner ∧ (∀ u ∈ inner, u.oneCell' = true) ∧
    ∀ i (h : i < xs.length), ∃ cs, cs.length = k ∧ (∀ j, j < k → inner[i * k + j]? = cs[j]?) ∧ r (Sup ok w v) w xs[i] cs

theorem Own.nil {α : Type} (r : RdS α) (w : World) (base e k : Nat) (ok : Nat → Prop) : Own r w base e k ok (.slice none 0 0) [] :=
  ⟨[], World.ownsRow_nil _ _ _ _, by simp, by simp⟩
theorem Own.lt {α : Type} {r : RdS α} {w : World} {base e k : Nat} {ok : Nat → Prop} {v : Value} {xs : List α} (h : Own r w base e k ok v xs) :
    ∀ b, v.ownBlock = some b → base ≤ b ∧ b < w.heap.size := by
  obtain ⟨inner, ho, _⟩ := h
  exact ho.lt
theorem Own.val {α : Type} {r : RdS α} {w : World} {base e k : Nat} {ok : Nat → Prop} {v : Value} {xs : List α} (h : Own r w base e k ok v xs) :
    ∃ A c, v = .slice A xs.length c ∧ xs.length ≤ c := by
  obtain ⟨inner, ho, _⟩ := h
  rcases ho.2 with ⟨rfl, h0⟩ | ⟨g, cap, cur, rfl, _, _, hc, _⟩
  · exact ⟨none, 0, by rw [h0], by omega⟩
  · exact ⟨_, cap, rfl, hc⟩
/-- Another row, or nothing, was written. -/
theorem Own.kept {α : Type} {r : RdS α} (hr : Moves r) {w w' : World} {base e k : Nat} {ok : Nat → Prop} {v : Value} {xs : List α} (h : Own r w base e k ok v xs)
    {row : Option Nat} (hg : w.grownBy w' row) (hne : v.ownBlock = none ∨ v.ownBlock ≠ row) (hok : ∀ b, ok b → some b ≠ row) : Own r w' base e k ok v xs := by
  obtain ⟨inner, ho, h1, hx⟩ := h
  refine ⟨inner, ho.kept hg hne, h1, fun i hi => ?_⟩
  obtain ⟨cs, hl, hc, hrr⟩ := hx i hi
  exact ⟨cs, hl, hc, hr _ _ _ _ _ _ (fun b hb => ⟨hb.1, Nat.lt_of_lt_of_le hb.2.1 hg.size, hb.2.2⟩) (fun b hb => hg.block b hb.2.1 (hok b hb.1)) hrr⟩
theorem Own.ok_mono {α : Type} {r : RdS α} (hr : Moves r) {w : World} {base e k : Nat} {ok ok' : Nat → Prop} {v : Value} {xs : List α} (h : Own r w base e k ok v xs)
    (hok : ∀ b, ok b → b < w.heap.size → ok' b) : Own r w base e k ok' v xs := by
  obtain ⟨inner, ho, h1, hx⟩ := h
  refine ⟨inner, ho, h1, fun i hi => ?_⟩
  obtain ⟨cs, hl, hc, hrr⟩ := hx i hi
  exact ⟨cs, hl, hc, hr _ _ _ _ _ _ (fun b hb => ⟨hok b hb.1 hb.2.1, hb.2.1, hb.2.2⟩) (fun b hb => rfl) hrr⟩
theorem Own.lower {α : Type} {r : RdS α} {w : World} {base base' e k : Nat} {ok : Nat → Prop} {v : Value} {xs : List α} (h : Own r w base e k ok v xs) (hb : base' ≤ base) : Own r w base' e k ok v xs := by
  obtain ⟨inner, ⟨hl, ho⟩, h1, hx⟩ := h
  refine ⟨inner, ⟨hl, ?_⟩, h1, hx⟩
  rcases ho with h | ⟨g, cap, cur, h1, h2, h3⟩
  · exact .inl h
  · exact .inr ⟨g, cap, cur, h1, by omega, h3⟩
theorem ownNone (v : Value) : v.ownBlock = none ∨ v.ownBlock ≠ none := by cases v.ownBlock <;> simp
/-- It reads. -/
theorem Own.sl {α : Type} {r : RdS α} (hr : Moves r) {w : World} {base e k : Nat} {ok : Nat → Prop} {v : Value} {xs : List α} (h : Own r w base e k ok v xs)
    (hm : xs.length ≤ 140737488351232) {S : Nat → Prop} (hS : ∀ b, ok b → b < w.heap.size → S b) (hB : ∀ b, base ≤ b → b < w.heap.size → S b) : Sl S w k (r S w) xs v := by
  have hlt := h.lt
  obtain ⟨A, c, he, hc⟩ := h.val
  obtain ⟨inner, ho, h1, hx⟩ := h
  refine ⟨A, c, he, hc, hm, fun h0 => ?_⟩
  rcases ho.2 with ⟨_, hn⟩ | ⟨g, cap, cur, hv, hb, hg, hcc, hcm, hcs, htake⟩
  · omega
  · rw [he] at hv
    injection hv with hA _ _
    refine ⟨g, 0, hA, ?_, fun i hi => ?_⟩
    · have := hlt g (by rw [he, hA]; rfl)
      exact hB g this.1 this.2
    · obtain ⟨cs, hl, hcell, hrr⟩ := hx i hi
      refine ⟨cs, hl, fun j hj => ?_, hr _ _ _ _ _ _ (fun b hb => hS b hb.1 hb.2.1) (fun _ _ => rfl) hrr⟩
      rw [← hcell j hj, ← htake]
      have hik : i * k + j < xs.length * k := by
        have : (i + 1) * k ≤ xs.length * k := Nat.mul_le_mul_right _ hi
        rw [Nat.add_mul] at this
        omega
      rw [List.getElem?_take, if_pos hik]
      simp [World.cell?, hg]

theorem addr_add (g j : Nat) : (⟨g, 0, none⟩ : Addr).add j = ⟨g, j, none⟩ := by unfold Addr.add; split <;> simp_all

/-- What the program's table says of a slice type's elements. -/
structure ElemInfo (P : Program) (t e : TypeId) (k bytes : Nat) : Prop where
  under : P.underlying t = some (.slice e)
  info : ∃ i z, P.info? e = some i ∧ i.zero = some z ∧ i.size = k ∧ i.bytes = bytes ∧ z.cells.size = k
  pos : 0 < k

/-- One element appended to a row of the call's own. -/
theorem Own.append1 {α : Type} {r : RdS α} (hr : Moves r) {P : Program} {ops : Array Oper} {rest : List Oper} {o : Oper} {a : Act} {Q : Exit → Act → World → Prop} {w : World}
    {t e k bytes : Nat} (HI : ElemInfo P t e k bytes) {base : Nat} {ok : Nat → Prop} {v : Value} {xs : List α} (H : Own r w base e k ok v xs)
    (hgd : o.guard = none) (s x : Operand) (ho : o.op = .call { callee := .builtin .append, args := #[s, x], argTypes := #[t, t] }) (hs : a.eval s = v)
    {g : Nat} (hx : a.eval x = .slice (some ⟨g, 0, none⟩) 1 1) (y : α) (cs : List Value) (hl : cs.length = k) (hc : ∀ j u, cs[j]? = some u → w.cell? ⟨g, j, none⟩ = some u)
    (h1 : ∀ u ∈ cs, u.oneCell' = true) (hy : r (Sup ok w v) w y cs) (hbytes : (xs.length + 1) * bytes ≤ 140737488355328) (hb0 : 0 < bytes) (hbase : base ≤ w.heap.size)
    (h : ∀ v' w', Own r w' base e k ok v' (xs ++ [y]) → w.grownBy w' v.ownBlock → (v'.ownBlock = v.ownBlock ∨ v'.ownBlock = some w.heap.size) → wpList P ops Q rest (a.put o.dst v') w') :
    wpList P ops Q (o :: rest) a w := by
  obtain ⟨inner, hown, hone, hxx⟩ := H
  obtain ⟨i, z, hi, hz, hsz, hby, hzs⟩ := HI.info
  have hlt := hown.lt
  have h63 : xs.length + 1 ≤ maxLen := by
    have : (xs.length + 1) * 1 ≤ (xs.length + 1) * bytes := Nat.mul_le_mul_left _ hb0
    simp only [maxLen]
    omega
  -- where the new row lies
  have hrun := run_append_own (P := P) w base t o.type e i z k bytes HI.under hi hz hsz hby hzs HI.pos v xs.length inner hown ⟨g, 0, none⟩ 1 1 cs (by omega)
    (fun j u hj => by rw [addr_add]; exact hc j u hj) h1 h63 hbytes hbase
  obtain ⟨v', w', hrun, hown', hgrow, hnil⟩ := hrun
  have hplace : v'.ownBlock = v.ownBlock ∨ v'.ownBlock = some w.heap.size := by
    rcases hown.2 with ⟨rfl, h0⟩ | ⟨g0, cap, cur, rfl, hb, hg, hnc, hcm, hcs, htake⟩
    · have hr2 := run_append_nil (P := P) w t o.type e i z HI.under hi hz ⟨g, 0, none⟩ 1 1 cs (by omega)
        (fun j u hj => by rw [addr_add]; exact hc j u hj) (by omega) (by first | omega | (simp only [maxLen]; omega)) (by rw [hby]; have : (0 + 1) * bytes ≤ (xs.length + 1) * bytes := Nat.mul_le_mul_right _ (by omega); omega)
      rw [hr2] at hrun
      injection hrun with e1 _
      subst e1
      exact .inr rfl
    · by_cases hroom : xs.length + 1 ≤ cap
      · have hfit : xs.length * i.size + cs.length ≤ cur.size := by
          rw [hl, hcs, hsz]
          have := Nat.mul_le_mul_right k hroom
          rw [Nat.add_mul] at this
          omega
        have hr2 := run_append_room (P := P) w t o.type e i HI.under hi g0 xs.length cap cur hg ⟨g, 0, none⟩ 1 1 cs (by omega)
          (fun j u hj => by rw [addr_add]; exact hc j u hj) h1 hroom hfit
        rw [hr2] at hrun
        injection hrun with e1 _
        subst e1
        exact .inl rfl
      · have holds : ∀ j u, inner[j]? = some u → w.cell? ((⟨g0, 0, none⟩ : Addr).add j) = some u := hown.cells (g := g0) rfl
        have hr2 := run_append_grow (P := P) w t o.type e i z HI.under hi hz ⟨g0, 0, none⟩ xs.length cap inner (by rw [hown.1, hsz]) holds ⟨g, 0, none⟩ 1 1 cs (by omega)
          (fun j u hj => by rw [addr_add]; exact hc j u hj) (by omega) (by simp only [maxLen] at h63; omega) (growslice_fits (by omega) (by rw [hby]; exact hbytes))
        rw [hr2] at hrun
        injection hrun with e1 _
        subst e1
        exact .inr rfl
  have hsup : ∀ b, Sup ok w v b → Sup ok w' v' b := fun b hb => ⟨hb.1, Nat.lt_of_lt_of_le hb.2.1 hgrow.size, by
    rcases hplace with e | e
    · rw [e]; exact hb.2.2
    · rw [e]
      intro e2
      injection e2 with e2
      have := hb.2.1
      omega⟩
  have hmv : ∀ b, Sup ok w v b → w'.heap[b]? = w.heap[b]? := fun b hb => hgrow.block b hb.2.1 hb.2.2
  have hO : Own r w' base e k ok v' (xs ++ [y]) := by
    refine ⟨inner ++ cs, by simpa using hown', fun u hu => (List.mem_append.1 hu).elim (hone u) (h1 u), fun i hi => ?_⟩
    by_cases hlast : i < xs.length
    · obtain ⟨ds, hdl, hdc, hdr⟩ := hxx i hlast
      refine ⟨ds, hdl, fun j hj => ?_, ?_⟩
      · have hik : i * k + j < inner.length := by
          rw [hown.1]
          have : (i + 1) * k ≤ xs.length * k := Nat.mul_le_mul_right _ hlast
          rw [Nat.add_mul] at this
          omega
        rw [List.getElem?_append_left hik]
        exact hdc j hj
      · rw [List.getElem_append_left hlast]
        exact hr _ _ _ _ _ _ hsup hmv hdr
    · obtain rfl : i = xs.length := by simp at hi; omega
      refine ⟨cs, hl, fun j hj => ?_, ?_⟩
      · rw [List.getElem?_append_right (by rw [hown.1]; omega), hown.1]
        congr 1
        omega
      · rw [List.getElem_append_right (by omega)]
        simpa using hr _ _ _ _ _ _ hsup hmv hy
  refine wpList_plain hgd fun K hK => ?_
  unfold Oper.wp execOp
  simp only [ho, resolve, invoke, builtin, Sem.run_bind, Sem.run_pure, Result.andThen_ok, List.map_toArray, List.map_cons, List.map_nil, hs, hx, hrun]
  exact hK _ _ (h v' w' hO hgrow hplace)

theorem ElemInfo.of {P : Program} {t e k bytes : Nat} {z : Value} (h1 : P.underlying t = some (.slice e)) (h2 : (P.info? e).map (fun i => (i.zero, i.size, i.bytes)) = some (some z, k, bytes)) (h3 : z.cells.size = k) (h4 : 0 < k) :
    ElemInfo P t e k bytes := by
  refine ⟨h1, ?_, h4⟩
  cases hi : P.info? e with
  | none => simp [hi] at h2
  | some i =>
    simp only [hi, Option.map_some, Option.some.injEq, Prod.mk.injEq] at h2
    exact ⟨i, z, rfl, h2.1, h2.2.1, h2.2.2, h3⟩

/-- A block of two cells, not frozen. -/
def TwoAt (w : World) (g : Nat) (v0 v1 : Value) (T : TypeId) : Prop := w.heap[g]? = some (.cells #[v0, v1] T (0, 0))
section
variable {w w' : World} {g : Nat} {v0 v1 : Value} {T : TypeId}
theorem TwoAt.lt (h : TwoAt w g v0 v1 T) : g < w.heap.size := (Array.getElem?_eq_some_iff.1 h).1
theorem TwoAt.cells (h : TwoAt w g v0 v1 T) : w.cell? ⟨g, 0, none⟩ = some v0 ∧ w.cell? ⟨g, 1, none⟩ = some v1 ∧ w.frozen? ⟨g, 0, none⟩ = false ∧ w.frozen? ⟨g, 1, none⟩ = false := by
  unfold TwoAt at h
  simp [World.cell?, World.frozen?, h]
theorem TwoAt.set0 (h : TwoAt w g v0 v1 T) (u : Value) : TwoAt (w.setCell ⟨g, 0, none⟩ u) g u v1 T := by
  unfold TwoAt at h ⊢
  simp [World.setCell, Array.getElem?_modify, h]
theorem TwoAt.set1 (h : TwoAt w g v0 v1 T) (u : Value) : TwoAt (w.setCell ⟨g, 1, none⟩ u) g v0 u T := by
  unfold TwoAt at h ⊢
  simp [World.setCell, Array.getElem?_modify, h]
theorem TwoAt.move (h : TwoAt w g v0 v1 T) (hw : w'.heap[g]? = w.heap[g]?) : TwoAt w' g v0 v1 T := hw.trans h
theorem TwoAt.alloc (h : TwoAt w g v0 v1 T) (o : Obj) : TwoAt (w.alloc o) g v0 v1 T := h.move (Below.heap_alloc _ _ _ h.lt)
theorem TwoAt.new (w : World) (v0 v1 : Value) (T : TypeId) : TwoAt (w.alloc (.cells #[v0, v1] T)) w.heap.size v0 v1 T := by
  show (w.heap.push _)[w.heap.size]? = _
  simp
theorem TwoAt.new2 (w : World) (o : Obj) (v0 v1 : Value) (T : TypeId) : TwoAt ((w.alloc o).alloc (.cells #[v0, v1] T)) (w.heap.size + 1) v0 v1 T := by
  have h := TwoAt.new (w.alloc o) v0 v1 T
  rw [World.size_alloc] at h
  exact h
theorem TwoAt.new3 (w : World) (o o2 : Obj) (v0 v1 : Value) (T : TypeId) : TwoAt (((w.alloc o).alloc o2).alloc (.cells #[v0, v1] T)) (w.heap.size + 2) v0 v1 T := by
  have h := TwoAt.new ((w.alloc o).alloc o2) v0 v1 T
  rw [World.size_alloc, World.size_alloc] at h
  exact h
theorem TwoAt.new4 (w : World) (o o2 o3 : Obj) (v0 v1 : Value) (T : TypeId) : TwoAt ((((w.alloc o).alloc o2).alloc o3).alloc (.cells #[v0, v1] T)) (w.heap.size + 3) v0 v1 T := by
  have h := TwoAt.new (((w.alloc o).alloc o2).alloc o3) v0 v1 T
  rw [World.size_alloc, World.size_alloc, World.size_alloc] at h
  exact h
theorem TwoAt.frm (h : TwoAt w g v0 v1 T) (hf : w.grownBy w' none) : TwoAt w' g v0 v1 T := h.move (frm_lt hf _ h.lt)
end
end Go.Proofs.YtjpdmncafacmaaaGreatDoor
