/- InterLess: a type becomes stronger where one of its sets loses a type or has one replaced by a weaker one; the law that says so. -/
import Derived.Test.YtmdgoalekkkpnaaDoorCopy
import Derived.Test.YtmdgoalekkkpnaaDoorStrength
import Derived.Deep.RegionHeld3
set_option linter.unusedVariables false
set_option linter.unusedSimpArgs false
namespace Go.Proofs.YtmdgoalekkkpnaaDoor
open Go.RowKit

/-! ### Plain -/
theorem Ty.sizeRows_set (a : List (List Ty)) (i : Nat) (h : i < a.length) (s : List Ty) : Ty.sizeRows (a.set i s) + Ty.sizeSet a[i] = Ty.sizeRows a + Ty.sizeSet s := by
  induction a generalizing i with
  | nil => simp at h
  | cons x a ih =>
    cases i with
    | zero => simp [Ty.sizeRows]; omega
    | succ i =>
      have := ih i (by simpa using h)
      simp only [List.set_cons_succ, Ty.sizeRows, List.getElem_cons_succ]
      omega
theorem Ty.sizeSet_erase (a : List Ty) (k : Nat) : Ty.sizeSet (a.eraseIdx k) ≤ Ty.sizeSet a := by
  induction a generalizing k with
  | nil => simp
  | cons x a ih =>
    cases k with
    | zero => simp [Ty.sizeSet]
    | succ k => simp only [List.eraseIdx_cons_succ, Ty.sizeSet]; have := ih k; omega
theorem Ty.less_stronger {st : Int} {args : List (List Ty)} {i k : Nat} (h : i < args.length) (hl : (Ty.mk st args).large = false) :
    Ty.stronger (.mk st (args.set i ((args[i]).eraseIdx k))) (.mk st args) = true := by
  have hs := Ty.sizeRows_set args i h ((args[i]).eraseIdx k)
  have he := Ty.sizeSet_erase (args[i]) k
  have h1 : (Ty.mk st (args.set i ((args[i]).eraseIdx k))).large = false := by
    have e1 : (Ty.mk st (args.set i ((args[i]).eraseIdx k))).size = 1 + Ty.sizeRows (args.set i ((args[i]).eraseIdx k)) := rfl
    have e2 : (Ty.mk st args).size = 1 + Ty.sizeRows args := rfl
    simp only [Ty.large, decide_eq_false_iff_not] at hl ⊢
    rw [e2] at hl
    rw [e1]
    omega
  rw [Ty.stronger, hl, h1]
  simp only [Bool.not_false, Bool.true_and]
  refine Ty.strong_iff.2 ⟨rfl, by simp, fun j hj hj' x hx => ⟨x, ?_, Ty.strong_refl x⟩⟩
  by_cases e : i = j
  · subst e
    rw [List.getElem_set_self] at hx
    exact List.mem_of_mem_eraseIdx hx
  · rw [List.getElem_set_ne e] at hx
    exact hx
theorem Ty.other_stronger {st : Int} {args : List (List Ty)} {i k : Nat} {y : Ty} (h : i < args.length) (hk : k < (args[i]).length) (hl : (Ty.mk st args).large = false)
    (hw : Ty.stronger (args[i])[k] y = true) (ho : (Ty.mk st (args.set i ((args[i]).set k y))).large = false) :
    Ty.stronger (.mk st (args.set i ((args[i]).set k y))) (.mk st args) = true := by
  rw [Ty.stronger, hl, ho]
  simp only [Ty.stronger, Bool.and_eq_true] at hw
  simp only [Bool.not_false, Bool.true_and]
  refine Ty.strong_iff.2 ⟨rfl, by simp, fun j hj hj' x hx => ?_⟩
  by_cases e : i = j
  · subst e
    rw [List.getElem_set_self] at hx
    rcases List.mem_or_eq_of_mem_set hx with hx | rfl
    · exact ⟨x, hx, Ty.strong_refl x⟩
    · exact ⟨_, List.getElem_mem hk, hw.2⟩
  · rw [List.getElem_set_ne e] at hx
    exact ⟨x, hx, Ty.strong_refl x⟩

/-! ### Appending the rest of a row to its beginning -/
theorem run_append_zero {P : Program} {w : World} {t ty e : TypeId} {i : TypeInfo} (ht : P.underlying t = some (.slice e)) (hi : P.info? e = some i) (b : Addr) (k : Nat) (x : Option Addr) (c : Nat) :
    (Builtin.append_ #[t, t] ty #[.slice (some b) k k, .slice x 0 c]).run P w = .ok (.slice (some b) k k) w := by
  have hf : (Builtin.firstCells i.size 0 (.slice x 0 c)).run P w = .ok #[] w := by
    cases x with
    | none => exact run_firstCells_none ..
    | some x => simpa using run_firstCells_some (P := P) w i.size 0 x 0 c [] (by simp) (by simp)
  simp [Builtin.append_, run_underlying ht, sizeOf, typeInfo, hi, Builtin.lenOf, hf, storeCells]

/-- The cells of a block from an index on. -/
def cellsAt (w : World) (b o n : Nat) : List Value := (List.range n).map fun j => (w.cell? ⟨b, o + j, none⟩).getD (.bool false)
theorem cellsAt_len (w : World) (b o n : Nat) : (cellsAt w b o n).length = n := by simp [cellsAt]
theorem cellsAt_get (w : World) (b o n j : Nat) : (cellsAt w b o n)[j]? = if j < n then some ((w.cell? ⟨b, o + j, none⟩).getD (.bool false)) else none := by
  unfold cellsAt
  by_cases h : j < n <;> simp [h]
theorem cellsAt_holds {w : World} {b o n : Nat} (h : ∀ j, j < n → ∃ u, w.cell? ⟨b, o + j, none⟩ = some u) : ∀ j v, (cellsAt w b o n)[j]? = some v → w.cell? ((⟨b, o, none⟩ : Addr).add j) = some v := by
  intro j v hj
  rw [cellsAt_get] at hj
  by_cases hlt : j < n
  · rw [if_pos hlt] at hj
    obtain ⟨u, hu⟩ := h j hlt
    rw [hu] at hj
    rw [Addr.add_lit, hu]
    exact hj
  · rw [if_neg hlt] at hj
    cases hj
theorem Sl.cellSome {α : Type} {S : Nat → Prop} {w : World} {r : α → List Value → Prop} {xs : List α} {b o n c : Nat} (h : Sl S w 2 r xs (.slice (some ⟨b, o, none⟩) n c)) : ∀ j, j < xs.length * 2 → ∃ u, w.cell? ⟨b, o + j, none⟩ = some u := by
  intro j hj
  obtain ⟨b', o', v0, v1, he, _, h0, h1, _⟩ := h.at2 (j / 2) (by omega)
  injection he with he
  injection he with hb ho _
  subst hb ho
  rcases Nat.mod_two_eq_zero_or_one j with h2 | h2
  · exact ⟨v0, by rw [← h0]; congr 2; omega⟩
  · exact ⟨v1, by rw [← h1]; congr 2; omega⟩

set_option maxRecDepth 20000 in
theorem erase_run {S : Nat → Prop} {w : World} {ts : List Ty} {A : Option Addr} {n c k : Nat} (hs : Sl S w 2 (TyR S w) ts (.slice A n c)) (hS : ∀ b, S b → b < w.heap.size) (hk : k < ts.length) (hb : ts.length * 32 ≤ 140737488351232) :
    ∃ b o, A = some ⟨b, o, none⟩ ∧ S b ∧ ∀ A' m c', m = n - (k + 1) → (0 < m → A' = some ⟨b, o + (k + 1) * 2, none⟩) → ∃ v' w', (Builtin.append_ #[36, 36] 36 #[.slice (some ⟨b, o, none⟩) k k, .slice A' m c']).run Tryd.prog w = .ok v' w' ∧
      w.grownBy w' none ∧ Sl (fun b => S b ∨ (w.heap.size ≤ b ∧ b < w'.heap.size)) w' 2 (TyR (fun b => S b ∨ (w.heap.size ≤ b ∧ b < w'.heap.size)) w') (ts.eraseIdx k) v' := by
  obtain ⟨b, o, v0, v1, rfl, hSb, _⟩ := hs.at2 k hk
  have hn := hs.len
  subst hn
  refine ⟨b, o, rfl, hSb, fun A' m c' hm hA' => ?_⟩
  subst hm
  obtain ⟨i0, z, hi, hz, hsz, hby, hzs⟩ := elem_ty.info
  have hut := elem_ty.under
  by_cases hlast : k + 1 = ts.length
  · have hm0 : ts.length - (k + 1) = 0 := by omega
    rw [hm0]
    refine ⟨_, w, run_append_zero hut hi _ _ _ _, frm_refl _ _, some ⟨b, o, none⟩, k, ?_, ?_, ?_, fun h0 => ?_⟩
    · rw [List.length_eraseIdx_of_lt hk]
      congr 1
      omega
    · rw [List.length_eraseIdx_of_lt hk]
      omega
    · rw [List.length_eraseIdx_of_lt hk]
      omega
    · refine ⟨b, o, rfl, .inl hSb, fun i hi => ?_⟩
      rw [List.length_eraseIdx_of_lt hk] at hi
      obtain ⟨b', o', u0, u1, he, _, h0, h1, hr⟩ := hs.at2 i (by omega)
      injection he with he
      injection he with hb ho _
      subst hb ho
      refine ⟨[u0, u1], rfl, fun j hj => by match j with | 0 => simpa using h0 | 1 => simpa using h1, ?_⟩
      rw [List.getElem_eraseIdx_of_lt (h := by rw [List.length_eraseIdx_of_lt hk]; omega) (h' := by omega)]
      exact hr.move (fun b hb => .inl hb) (fun _ _ => rfl)
  · have hm0 : 0 < ts.length - (k + 1) := by omega
    obtain rfl := hA' hm0
    have hcell := hs.cellSome
    have hrun := run_append_grow (P := Tryd.prog) w 36 36 24 i0 z hut hi hz ⟨b, o, none⟩ k k (cellsAt w b o (k * 2)) (by rw [cellsAt_len, hsz]) (cellsAt_holds fun j hj => hcell j (by omega))
      ⟨b, o + (k + 1) * 2, none⟩ (ts.length - (k + 1)) c' (cellsAt w b (o + (k + 1) * 2) ((ts.length - (k + 1)) * 2)) (by rw [cellsAt_len, hsz])
      (cellsAt_holds fun j hj => by rw [Nat.add_assoc]; exact hcell _ (by omega)) (by omega) (by omega) (growslice_fits (by omega) (by rw [hby]; omega))
    refine ⟨_, _, hrun, frm_trans (frm_drew _) (frm_alloc _ _), some ⟨w.heap.size, 0, none⟩, grownCap w (k + (ts.length - (k + 1))) k 24, ?_, ?_, ?_, fun h0 => ?_⟩
    · rw [List.length_eraseIdx_of_lt hk]
      congr 1
      omega
    · rw [List.length_eraseIdx_of_lt hk]
      have := grownCap_ge w (k + (ts.length - (k + 1))) k 24
      omega
    · rw [List.length_eraseIdx_of_lt hk]
      omega
    · refine ⟨w.heap.size, 0, rfl, .inr ⟨Nat.le_refl _, by simp⟩, fun i hi => ?_⟩
      rw [List.length_eraseIdx_of_lt hk] at hi
      have hheap := heap_alloc_new w.drew (.cells ((cellsAt w b o (k * 2)).toArray ++ (cellsAt w b (o + (k + 1) * 2) ((ts.length - (k + 1)) * 2)).toArray ++ Builtin.zeroCells z.cells (grownCap w (k + (ts.length - (k + 1))) k 24 - (k + (ts.length - (k + 1))))) 24)
      have hget : ∀ i', i' < ts.length → i' ≠ k → ∀ j, j < 2 → (((cellsAt w b o (k * 2)).toArray ++ (cellsAt w b (o + (k + 1) * 2) ((ts.length - (k + 1)) * 2)).toArray ++ Builtin.zeroCells z.cells (grownCap w (k + (ts.length - (k + 1))) k 24 - (k + (ts.length - (k + 1))))))[(if i' < k then i' else i' - 1) * 2 + j]? = w.cell? ⟨b, o + i' * 2 + j, none⟩ := by
        intro i' hi' hne j hj
        obtain ⟨u, hu⟩ := hcell (i' * 2 + j) (by omega)
        by_cases hlt : i' < k
        · rw [if_pos hlt, Array.append_assoc, Array.getElem?_append_left (by rw [List.size_toArray, cellsAt_len]; omega), List.getElem?_toArray, cellsAt_get, if_pos (by omega), hu, Nat.add_assoc, hu]
          rfl
        · rw [if_neg hlt, Array.getElem?_append_left (by simp [cellsAt_len]; omega), Array.getElem?_append_right (by rw [List.size_toArray, cellsAt_len]; omega), List.getElem?_toArray, List.size_toArray, cellsAt_len, cellsAt_get, if_pos (by omega)]
          rw [show o + (k + 1) * 2 + ((i' - 1) * 2 + j - k * 2) = o + (i' * 2 + j) by omega, hu, Nat.add_assoc, hu]
          rfl
      generalize hF : ((cellsAt w b o (k * 2)).toArray ++ (cellsAt w b (o + (k + 1) * 2) ((ts.length - (k + 1)) * 2)).toArray ++ Builtin.zeroCells z.cells (grownCap w (k + (ts.length - (k + 1))) k 24 - (k + (ts.length - (k + 1))))) = F at hheap hget ⊢
      have key : ∀ i' (h : i' < ts.length), i' ≠ k → i = (if i' < k then i' else i' - 1) → (ts.eraseIdx k)[i]'(by rw [List.length_eraseIdx_of_lt hk]; omega) = ts[i'] → ∃ cs : List Value, cs.length = 2 ∧ (∀ j, j < 2 → (w.drew.alloc (.cells F 24)).cell? ⟨w.heap.size, 0 + i * 2 + j, none⟩ = cs[j]?) ∧
          TyR (fun b => S b ∨ (w.heap.size ≤ b ∧ b < (w.drew.alloc (.cells F 24)).heap.size)) (w.drew.alloc (.cells F 24)) ((ts.eraseIdx k)[i]'(by rw [List.length_eraseIdx_of_lt hk]; omega)) cs := by
        intro i' hi' hne hii hee
        obtain ⟨b', o', u0, u1, he, _, h0, h1, hr⟩ := hs.at2 i' hi'
        injection he with he
        injection he with hb ho _
        subst hb ho
        refine ⟨[u0, u1], rfl, fun j hj => ?_, ?_⟩
        · have hg := hget i' hi' hne j hj
          rw [← hii] at hg
          have hcc : (w.drew.alloc (.cells F 24)).cell? ⟨w.heap.size, 0 + i * 2 + j, none⟩ = w.cell? ⟨b, o + i' * 2 + j, none⟩ := by
            rw [← hg]
            unfold World.cell?
            rw [show w.heap.size = w.drew.heap.size from rfl, hheap]
            simp
          rw [hcc]
          match j with
          | 0 => simpa using h0
          | 1 => simpa using h1
        · rw [hee]
          exact TyR.move (w := w) (fun b hb => .inl hb) (fun b hb => heap_alloc_old w.drew _ (hS b hb)) hr
      by_cases hlt : i < k
      · exact key i (by omega) (by omega) (by rw [if_pos hlt]) (by rw [List.getElem_eraseIdx_of_lt (h' := by omega)])
      · exact key (i + 1) (by omega) (by omega) (by rw [if_neg (by omega)]; rfl) (by rw [List.getElem_eraseIdx_of_ge (h' := by omega)])

/-! ### A copy that is written into -/
section
variable {w w1 : World} {base : Nat} {ok : Nat → Prop} {va : Value} {ps : List (List Ty × Nat × Nat)} {args : List (List Ty)}
/-- The copy's row: its block, and what its i-th cell holds. -/
theorem row_open (hO : Own SetX w base 36 1 ok va ps) (hok : ∀ b, ok b → base ≤ b) (hp : ps.map (·.1) = args) {i : Nat} (hi : i < args.length) :
    ∃ g c, va = .slice (some ⟨g, 0, none⟩) args.length c ∧ args.length ≤ c ∧ base ≤ g ∧ g < w.heap.size ∧ va.ownBlock = some g ∧ w.frozen? ⟨g, i, none⟩ = false ∧
      ∀ j (hj : j < args.length) (hj' : j < ps.length), ∃ vj, w.cell? ⟨g, j, none⟩ = some vj ∧ Own TyR w ps[j].2.1 24 2 (fun b => ps[j].2.1 ≤ b ∧ b < ps[j].2.2 ∧ ok b ∧ b < w.heap.size ∧ b ≠ g) vj args[j] ∧
        (∀ b, vj.ownBlock = some b → ps[j].2.1 ≤ b ∧ b < ps[j].2.2 ∧ ok b ∧ b < w.heap.size ∧ b ≠ g) := by
  have hlen : ps.length = args.length := by rw [← hp, List.length_map]
  obtain ⟨inner, ⟨hl, ho⟩, h1, hx⟩ := hO
  rcases ho with ⟨_, hn⟩ | ⟨g, cap, cur, rfl, hb, hg, hnc, hcm, hcs, htake⟩
  · omega
  · refine ⟨g, cap, by rw [hlen], by omega, hb, (Array.getElem?_eq_some_iff.1 hg).1, rfl, by simp [World.frozen?, hg], fun j hj hj' => ?_⟩
    obtain ⟨cs, hcl, hcc, v, rfl, hou, hub⟩ := hx j hj'
    have hsup : ∀ b, Sup ok w (.slice (some ⟨g, 0, none⟩) ps.length cap) b → ok b ∧ b < w.heap.size ∧ b ≠ g := fun b hb => ⟨hb.1, hb.2.1, fun e => hb.2.2 (by rw [e]; rfl)⟩
    refine ⟨v, ?_, ?_, fun b hb => ?_⟩
    · have := hcc 0 (by omega)
      simp only [List.getElem?_cons_zero] at this
      rw [← this, ← htake, List.getElem?_take, if_pos (by omega)]
      simp [World.cell?, hg]
    · have he : ps[j].1 = args[j] := by subst hp; simp
      rw [← he]
      exact hou.ok_mono moves_ty fun b hb _ => ⟨hb.1, hb.2.1, hsup b hb.2.2⟩
    · exact ⟨(hub b hb).1, (hub b hb).2.1, hsup b (hub b hb).2.2⟩

/-- One set is another one: the store of a slice into the row. -/
theorem row_set {st : Int} (h1 : -9223372036854775808 ≤ st) (h2 : st ≤ 9223372036854775807) (hm : args.length ≤ 140737488351232) (hms : ∀ s ∈ args, s.length ≤ 140737488351232)
    (hO : Own SetX w base 36 1 ok va ps) (hok : ∀ b, ok b → base ≤ b) (hp : ps.map (·.1) = args) {i : Nat} (hi : i < args.length) {g c : Nat} (hva : va = .slice (some ⟨g, 0, none⟩) args.length c)
    (hf : w.grownBy w1 none) {ts : List Ty} {v : Value} {S : Nat → Prop} (hv : Sl S w1 2 (TyR S w1) ts v) (hS : ∀ b, S b → b < w1.heap.size ∧ b ≠ g) :
    TyO (w1.setCell ⟨g, i, none⟩ v) (.mk st (args.set i ts)) [.int .i64 st, va] := by
  have hlen : ps.length = args.length := by rw [← hp, List.length_map]
  obtain ⟨g', c', hva', hc', hb', hgl, _, _, hrow⟩ := row_open hO hok hp hi
  obtain ⟨rfl, rfl⟩ : g = g' ∧ c = c' := by
    rw [hva] at hva'
    injection hva' with e1 e2 e3
    injection e1 with e1
    injection e1 with e1
    exact ⟨e1, e3⟩
  refine TyO_mk.2 ⟨va, rfl, h1, h2, some ⟨g, 0, none⟩, c, by rw [hva, List.length_set], by rw [List.length_set]; exact hc', by rw [List.length_set]; exact hm, fun h0 => ⟨g, 0, rfl, by simp; exact Nat.lt_of_lt_of_le hgl hf.size, fun j hj => ?_⟩⟩
  rw [List.length_set] at hj
  have hset : ∀ b, b ≠ g → (w1.setCell ⟨g, i, none⟩ v).heap[b]? = w1.heap[b]? := fun b hb => Below.heap_setCell _ _ _ _ hb
  by_cases e : i = j
  · subst e
    refine ⟨[v], rfl, fun q hq => ?_, v, rfl, ?_⟩
    · obtain rfl : q = 0 := by omega
      obtain ⟨vj, hvj, _⟩ := hrow i hi (by omega)
      have := World.cell?_setCell_same w1 ⟨g, i, none⟩ v (frm_cell hf hvj)
      simpa using this
    · rw [List.getElem_set_self]
      exact hv.move (fun b hb => by simpa using (hS b hb).1) (fun b hb => hset b (hS b hb).2) fun t _ cs h => h.move (fun b hb => by simpa using (hS b hb).1) fun b hb => hset b (hS b hb).2
  · obtain ⟨vj, hvj, hou, hub⟩ := hrow j hj (by omega)
    refine ⟨[vj], rfl, fun q hq => ?_, vj, rfl, ?_⟩
    · obtain rfl : q = 0 := by omega
      have : (w1.setCell ⟨g, i, none⟩ v).cell? ⟨g, j, none⟩ = w1.cell? ⟨g, j, none⟩ := World.cell?_setCell_other _ _ _ _ (by intro h; injection h with _ h _; omega)
      simp only [Nat.zero_add, Nat.mul_one, Nat.add_zero, List.getElem?_cons_zero]
      rw [this]
      exact frm_cell hf hvj
    · rw [List.getElem_set_ne e]
      have hsl := hou.sl2 moves_ty (hms _ (List.getElem_mem hj)) (S := fun b => b < w.heap.size ∧ b ≠ g) (fun b hb _ => hb.2.2.2) (fun b hb => (hub b hb).2.2.2)
      have hmv : ∀ b, (b < w.heap.size ∧ b ≠ g) → (w1.setCell ⟨g, i, none⟩ v).heap[b]? = w.heap[b]? := fun b hb => (hset b hb.2).trans (frm_lt hf b hb.1)
      have hlt : ∀ b, (b < w.heap.size ∧ b ≠ g) → b < (w1.setCell ⟨g, i, none⟩ v).heap.size := fun b hb => by simpa using Nat.lt_of_lt_of_le hb.1 hf.size
      exact hsl.move hlt hmv fun t _ cs h => h.move hlt hmv

/-- One type of a set is another one: the store of a type into the set's own row. -/
theorem one_set {st : Int} (h1 : -9223372036854775808 ≤ st) (h2 : st ≤ 9223372036854775807) (hm : args.length ≤ 140737488351232) (hms : ∀ s ∈ args, s.length ≤ 140737488351232)
    (hO : Own SetX w base 36 1 ok va ps) (hok : ∀ b, ok b → base ≤ b) (hp : ps.map (·.1) = args) (hpw : ps.Pairwise (fun p q => p.2.2 ≤ q.2.1)) {i : Nat} (hi : i < args.length) {k : Nat} (hk : k < (args[i]).length) :
    ∃ g c gi ci q0 q1, va = .slice (some ⟨g, 0, none⟩) args.length c ∧ w.cell? ⟨g, i, none⟩ = some (.slice (some ⟨gi, 0, none⟩) (args[i]).length ci) ∧ ok gi ∧ gi < w.heap.size ∧ gi ≠ g ∧
      w.cell? ⟨gi, k * 2, none⟩ = some q0 ∧ w.cell? ⟨gi, k * 2 + 1, none⟩ = some q1 ∧ w.frozen? ⟨gi, k * 2, none⟩ = false ∧ w.frozen? ⟨gi, k * 2 + 1, none⟩ = false ∧
      ∀ (w1 : World) (y : Ty) (u0 u1 : Value), w.grownBy w1 none → TyR (fun b => b < base) w1 y [u0, u1] →
        TyO ((w1.setCell ⟨gi, k * 2, none⟩ u0).setCell ⟨gi, k * 2 + 1, none⟩ u1) (.mk st (args.set i ((args[i]).set k y))) [.int .i64 st, va] := by
  have hlen : ps.length = args.length := by rw [← hp, List.length_map]
  obtain ⟨g, c, hva, hc', hb', hgl, _, _, hrow⟩ := row_open hO hok hp hi
  obtain ⟨vi, hvi, hou, hub⟩ := hrow i hi (by omega)
  obtain ⟨inner, ⟨hl, ho⟩, ho1, hx⟩ := hou
  rcases ho with ⟨_, hn⟩ | ⟨gi, cap, cur, rfl, hbi, hgi, hnc, hcm, hcs, htake⟩
  · omega
  have hgi' := hub gi rfl
  have hcell : ∀ j, j < (args[i]).length * 2 → w.cell? ⟨gi, j, none⟩ = inner[j]? := fun j hj => by
    rw [← htake, List.getElem?_take, if_pos hj]
    simp [World.cell?, hgi]
  obtain ⟨cs, hcl, hcc, hr0⟩ := hx k hk
  match cs, hcl with
  | [q0, q1], _ =>
    refine ⟨g, c, gi, cap, q0, q1, hva, hvi, hgi'.2.2.1, hgi'.2.2.2.1, hgi'.2.2.2.2, ?_, ?_, by simp [World.frozen?, hgi], by simp [World.frozen?, hgi], fun w1 y u0 u1 hf hy => ?_⟩
    · rw [hcell _ (by omega)]; simpa using hcc 0 (by omega)
    · rw [hcell _ (by omega)]; simpa using hcc 1 (by omega)
    · have s1 := hf.size
      have hset : ∀ b, b ≠ gi → ((w1.setCell ⟨gi, k * 2, none⟩ u0).setCell ⟨gi, k * 2 + 1, none⟩ u1).heap[b]? = w1.heap[b]? := fun b hb => by
        rw [Below.heap_setCell _ _ _ _ hb, Below.heap_setCell _ _ _ _ hb]
      have hsz : ((w1.setCell ⟨gi, k * 2, none⟩ u0).setCell ⟨gi, k * 2 + 1, none⟩ u1).heap.size = w1.heap.size := by simp
      have hold : ∀ b, b < w.heap.size → b ≠ gi → ((w1.setCell ⟨gi, k * 2, none⟩ u0).setCell ⟨gi, k * 2 + 1, none⟩ u1).heap[b]? = w.heap[b]? := fun b h1 h2 => (hset b h2).trans (frm_lt hf b h1)
      have hblk : ∀ a v, a.block ≠ gi → w.cell? a = some v → ((w1.setCell ⟨gi, k * 2, none⟩ u0).setCell ⟨gi, k * 2 + 1, none⟩ u1).cell? a = some v := fun a v ha hc => by
        rw [World.cell?_setCell_other _ _ _ _ (by intro h; exact ha (by rw [← h])), World.cell?_setCell_other _ _ _ _ (by intro h; exact ha (by rw [← h]))]
        exact frm_cell hf hc
      refine TyO_mk.2 ⟨va, rfl, h1, h2, some ⟨g, 0, none⟩, c, by rw [hva, List.length_set], by rw [List.length_set]; exact hc', by rw [List.length_set]; exact hm, fun h0 => ⟨g, 0, rfl, by rw [hsz]; omega, fun j hj => ?_⟩⟩
      rw [List.length_set] at hj
      by_cases e : i = j
      · subst e
        refine ⟨[.slice (some ⟨gi, 0, none⟩) (args[i]).length cap], rfl, fun q hq => ?_, _, rfl, ?_⟩
        · obtain rfl : q = 0 := by omega
          simp only [Nat.zero_add, Nat.mul_one, Nat.add_zero, List.getElem?_cons_zero]
          exact hblk _ _ (fun e => hgi'.2.2.2.2 e.symm) hvi
        · rw [List.getElem_set_self]
          refine ⟨some ⟨gi, 0, none⟩, cap, by rw [List.length_set], by rw [List.length_set]; exact hnc, by rw [List.length_set]; exact hms _ (List.getElem_mem hi), fun h0 => ⟨gi, 0, rfl, by rw [hsz]; omega, fun m hmm => ?_⟩⟩
          rw [List.length_set] at hmm
          obtain ⟨ds, hdl, hdc, hdr⟩ := hx m hmm
          match ds, hdl with
          | [d0, d1], _ =>
            have c0 : w.cell? ⟨gi, m * 2, none⟩ = some d0 := by rw [hcell _ (by omega)]; simpa using hdc 0 (by omega)
            have c1 : w.cell? ⟨gi, m * 2 + 1, none⟩ = some d1 := by rw [hcell _ (by omega)]; simpa using hdc 1 (by omega)
            by_cases e2 : k = m
            · subst e2
              refine ⟨[u0, u1], rfl, fun q hq => ?_, ?_⟩
              · have g0 : (w1.setCell ⟨gi, k * 2, none⟩ u0).cell? ⟨gi, k * 2, none⟩ = some u0 := World.cell?_setCell_same _ _ _ (frm_cell hf c0)
                have g1 : (w1.setCell ⟨gi, k * 2, none⟩ u0).cell? ⟨gi, k * 2 + 1, none⟩ = some d1 := (World.cell?_setCell_other _ _ _ _ (by intro h; injection h with _ h _; omega)).trans (frm_cell hf c1)
                match q with
                | 0 =>
                  simp only [Nat.zero_add, Nat.add_zero, List.getElem?_cons_zero]
                  exact (World.cell?_setCell_other _ _ _ _ (by intro h; injection h with _ h _; omega)).trans g0
                | 1 =>
                  simp only [Nat.zero_add, List.getElem?_cons_succ, List.getElem?_cons_zero]
                  exact World.cell?_setCell_same _ _ _ g1
              · rw [List.getElem_set_self]
                exact hy.move (fun b hb => by rw [hsz]; have := hok gi hgi'.2.2.1; omega) (fun b hb => hset b (by have := hok gi hgi'.2.2.1; omega))
            · refine ⟨[d0, d1], rfl, fun q hq => ?_, ?_⟩
              · have other : ∀ q u, q < 2 → w.cell? ⟨gi, m * 2 + q, none⟩ = some u → ((w1.setCell ⟨gi, k * 2, none⟩ u0).setCell ⟨gi, k * 2 + 1, none⟩ u1).cell? ⟨gi, m * 2 + q, none⟩ = some u := fun q u hq h => by
                  rw [World.cell?_setCell_other _ _ _ _ (by intro h; injection h with _ h _; omega), World.cell?_setCell_other _ _ _ _ (by intro h; injection h with _ h _; omega)]
                  exact frm_cell hf h
                match q with
                | 0 => simpa using other 0 d0 (by omega) c0
                | 1 => simpa using other 1 d1 (by omega) c1
              · rw [List.getElem_set_ne e2]
                exact hdr.move (fun b hb => by rw [hsz]; exact Nat.lt_of_lt_of_le hb.2.1 s1) (fun b hb => hold b hb.2.1 (fun e => hb.2.2 (by rw [e]; rfl)))
      · obtain ⟨vj, hvj, houj, hubj⟩ := hrow j hj (by omega)
        have hapart : ∀ b, ps[j].2.1 ≤ b → b < ps[j].2.2 → b ≠ gi := by
          intro b hb1 hb2 hb3
          have hpp := List.pairwise_iff_getElem.1 hpw
          have g1 := hgi'.1
          have g2 := hgi'.2.1
          rcases Nat.lt_or_ge i j with h | h
          · have := hpp i j (by omega) (by omega) h
            omega
          · have := hpp j i (by omega) (by omega) (by omega)
            omega
        refine ⟨[vj], rfl, fun q hq => ?_, vj, rfl, ?_⟩
        · obtain rfl : q = 0 := by omega
          simp only [Nat.zero_add, Nat.mul_one, Nat.add_zero, List.getElem?_cons_zero]
          exact hblk _ _ (fun e => hgi'.2.2.2.2 e.symm) hvj
        · rw [List.getElem_set_ne e]
          have hsl := houj.sl2 moves_ty (hms _ (List.getElem_mem hj)) (S := fun b => b < w.heap.size ∧ b ≠ gi) (fun b hb _ => ⟨hb.2.2.2.1, hapart b hb.1 hb.2.1⟩) (fun b hb => ⟨(hubj b hb).2.2.2.1, hapart b (hubj b hb).1 (hubj b hb).2.1⟩)
          have hlt : ∀ b, (b < w.heap.size ∧ b ≠ gi) → b < ((w1.setCell ⟨gi, k * 2, none⟩ u0).setCell ⟨gi, k * 2 + 1, none⟩ u1).heap.size := fun b hb => by rw [hsz]; omega
          exact hsl.move hlt (fun b hb => hold b hb.1 hb.2) fun t _ cs h => h.move hlt fun b hb => hold b hb.1 hb.2
end
/-! ### Copies beside other blocks -/
/-- A copy of `args` in blocks from `lo` on and below `hi`, none of which is one of `bad`. -/
def Cp (w : World) (lo hi : Nat) (bad : List Nat) (args : List (List Ty)) (v : Value) : Prop :=
  ∃ base ps, lo ≤ base ∧ Own SetX w base 36 1 (fun b => base ≤ b ∧ b < hi ∧ b ∉ bad) v ps ∧ ps.map (·.1) = args ∧ ps.Pairwise (fun p q => p.2.2 ≤ q.2.1) ∧ ∀ b, v.ownBlock = some b → b < hi ∧ b ∉ bad
theorem Cp.new {w w' : World} {args : List (List Ty)} {v : Value} {ps : List (List Ty × Nat × Nat)} {lo : Nat} (hO : Own SetX w' w.heap.size 36 1 (fun b => w.heap.size ≤ b) v ps) (hp : ps.map (·.1) = args)
    (hpw : ps.Pairwise (fun p q => p.2.2 ≤ q.2.1)) (hlo : lo ≤ w.heap.size) (bad : List Nat) (hbad : ∀ b ∈ bad, b < w.heap.size) : Cp w' lo w'.heap.size bad args v :=
  ⟨w.heap.size, ps, hlo, hO.ok_mono moves_setX fun b hb hlt => ⟨hb, hlt, fun h => by have := hbad b h; omega⟩, hp, hpw, fun b hb => ⟨(hO.lt b hb).2, fun h => by have := hbad b h; have := (hO.lt b hb).1; omega⟩⟩
theorem Cp.frm {w w' : World} {lo hi : Nat} {bad : List Nat} {args : List (List Ty)} {v : Value} (h : Cp w lo hi bad args v) (hf : w.grownBy w' none) : Cp w' lo hi bad args v := by
  obtain ⟨base, ps, h1, hO, h3, h4, h5⟩ := h
  exact ⟨base, ps, h1, hO.kept moves_setX hf (ownNone _) (by simp), h3, h4, h5⟩
theorem Cp.alloc {w : World} {lo hi : Nat} {bad : List Nat} {args : List (List Ty)} {v : Value} (h : Cp w lo hi bad args v) (o : Obj) : Cp (w.alloc o) lo hi (w.heap.size :: bad) args v := by
  obtain ⟨base, ps, h1, hO, h3, h4, h5⟩ := h
  refine ⟨base, ps, h1, ((hO.ok_mono moves_setX (ok' := fun b => base ≤ b ∧ b < hi ∧ b ∉ w.heap.size :: bad) fun b hb hlt => ⟨hb.1, hb.2.1, ?_⟩).kept moves_setX (frm_alloc _ _) (ownNone _) (by simp)), h3, h4, fun b hb => ⟨(h5 b hb).1, ?_⟩⟩
  · intro hm
    rcases List.mem_cons.1 hm with rfl | hm
    · omega
    · exact hb.2.2 hm
  · intro hm
    have := (hO.lt b hb).2
    rcases List.mem_cons.1 hm with rfl | hm
    · omega
    · exact (h5 b hb).2 hm
theorem Cp.mono {w : World} {lo hi : Nat} {bad bad' : List Nat} {args : List (List Ty)} {v : Value} (h : Cp w lo hi bad args v) (hb : ∀ b ∈ bad', b ∈ bad) : Cp w lo hi bad' args v := by
  obtain ⟨base, ps, h1, hO, h3, h4, h5⟩ := h
  exact ⟨base, ps, h1, hO.ok_mono moves_setX fun b hbb _ => ⟨hbb.1, hbb.2.1, fun hm => hbb.2.2 (hb b hm)⟩, h3, h4, fun b hbb => ⟨(h5 b hbb).1, fun hm => (h5 b hbb).2 (hb b hm)⟩⟩
theorem Cp.store {w w' : World} {lo hi g : Nat} {bad : List Nat} {args : List (List Ty)} {v : Value} (h : Cp w lo hi bad args v) (hg : g ∈ bad ∨ g < lo ∨ hi ≤ g) (hf : w.grownBy w' (some g)) : Cp w' lo hi bad args v := by
  obtain ⟨base, ps, h1, hO, h3, h4, h5⟩ := h
  have key : ∀ b, base ≤ b → b < hi → b ∉ bad → b ≠ g := by
    intro b q1 q2 q3 e
    subst e
    rcases hg with hg | hg | hg
    · exact q3 hg
    · omega
    · omega
  refine ⟨base, ps, h1, hO.kept moves_setX hf ?_ ?_, h3, h4, h5⟩
  · cases hv : v.ownBlock with
    | none => exact .inl rfl
    | some b =>
      refine .inr fun e => ?_
      injection e with e
      exact key b (hO.lt b hv).1 (h5 b hv).1 (h5 b hv).2 e
  · intro b hb e
    injection e with e
    exact key b hb.1 hb.2.1 hb.2.2 e
/-- Two copies in variables of their own. -/
def Mid (wb : World) (st : Int) (args : List (List Ty)) (s10 s11 : Value) (wx : World) : Prop :=
  ∃ L O m m2 va vb, s10 = .pointer (some ⟨L, 0, none⟩) ∧ s11 = .pointer (some ⟨O, 0, none⟩) ∧ wb.grownBy wx none ∧ wb.heap.size ≤ L ∧ wb.heap.size ≤ O ∧ L ≠ O ∧ TwoAt wx L (.int .i64 st) va 24 ∧ TwoAt wx O (.int .i64 st) vb 24 ∧
    wb.heap.size ≤ m ∧ Cp wx wb.heap.size m [L, O] args va ∧ Cp wx m m2 [L, O] args vb
theorem mid_close {wb wn : World} {st : Int} {args : List (List Ty)} {L O m m2 : Nat} {va vb z0 z1 y0 y1 : Value} {bad bad' : List Nat} (hB : wb.grownBy wn none) (hL : TwoAt wn L z0 z1 24) (hO : TwoAt wn O y0 y1 24) (h1 : wb.heap.size ≤ L) (h2 : wb.heap.size ≤ O) (hne : L ≠ O)
    (hm : wb.heap.size ≤ m) (ca : Cp wn wb.heap.size m bad args va) (cb : Cp wn m m2 bad' args vb) (b1 : ∀ b ∈ [L, O], b ∈ bad) (b2 : ∀ b ∈ [L, O], b ∈ bad') :
    Mid wb st args (.pointer (some ⟨L, 0, none⟩)) (.pointer (some ⟨O, 0, none⟩)) ((((wn.setCell ⟨L, 0, none⟩ (.int .i64 st)).setCell ⟨L, 1, none⟩ va).setCell ⟨O, 0, none⟩ (.int .i64 st)).setCell ⟨O, 1, none⟩ vb) := by
  have f1 : wn.grownBy ((wn.setCell ⟨L, 0, none⟩ (.int .i64 st)).setCell ⟨L, 1, none⟩ va) (some L) := frm_set (frm_set (frm_refl _ _) _ _) _ _
  have f2 : ((wn.setCell ⟨L, 0, none⟩ (.int .i64 st)).setCell ⟨L, 1, none⟩ va).grownBy ((((wn.setCell ⟨L, 0, none⟩ (.int .i64 st)).setCell ⟨L, 1, none⟩ va).setCell ⟨O, 0, none⟩ (.int .i64 st)).setCell ⟨O, 1, none⟩ vb) (some O) := frm_set (frm_set (frm_refl _ _) _ _) _ _
  refine ⟨L, O, m, m2, va, vb, rfl, rfl, frm_new (frm_new hB h1 f1) h2 f2, h1, h2, hne, ?_, ?_, hm, ?_, ?_⟩
  · exact ((hL.set0 _).set1 _).frm_row f2 (by intro e; injection e with e; omega)
  · exact ((hO.frm_row f1 (by intro e; injection e with e; omega)).set0 _).set1 _
  · exact ((ca.mono b1).store (by simp) f1).store (by simp) f2
  · exact ((cb.mono b2).store (by simp) f1).store (by simp) f2
/-- Behind the first store: the first copy lacks a type, the other one is as it was. -/
def Mid2 (wb : World) (st : Int) (args args' : List (List Ty)) (L O : Nat) (va vb : Value) (wx : World) : Prop :=
  ∃ m m2, wb.heap.size ≤ m ∧ wb.grownBy wx none ∧ TwoAt wx L (.int .i64 st) va 24 ∧ TwoAt wx O (.int .i64 st) vb 24 ∧ TyO wx (.mk st args') [.int .i64 st, va] ∧ Cp wx m m2 [L, O] args vb
theorem frm_frozen {w w' : World} {b o : Nat} (h : w.grownBy w' none) (hb : b < w.heap.size) (hf : w.frozen? ⟨b, o, none⟩ = false) : w'.frozen? ⟨b, o, none⟩ = false := by
  unfold World.frozen? at *
  rw [frm_lt h b hb]
  exact hf
end Go.Proofs.YtmdgoalekkkpnaaDoor
