/- The reference's both: its rows. -/
import Derived.Test.YtjpdmncafacmaaaGreatDoorRefBothD
set_option linter.unusedVariables false
set_option linter.unusedSimpArgs false
namespace Go.Proofs.YtjpdmncafacmaaaGreatDoor
open Go.RowKit

theorem row_slice {α : Type} {k : Nat} {r : RdS α} {S : Nat → Prop} {w : World} {x : List α} {v : Value} (h : RowS k r S w x [v]) : ∃ A c, v = .slice A x.length c := by
  obtain ⟨A, c, h, _⟩ := (row_val h).val
  exact ⟨_, _, h⟩
theorem Own.imp {α : Type} {r r' : RdS α} (hrr : ∀ S w x cs, r S w x cs → r' S w x cs) {w : World} {base e k : Nat} {ok : Nat → Prop} {v : Value} {xs : List α} (h : Own r w base e k ok v xs) : Own r' w base e k ok v xs := by
  obtain ⟨inner, ho, h1, hx⟩ := h
  refine ⟨inner, ho, h1, fun i hi => ?_⟩
  obtain ⟨cs, q1, q2, q3⟩ := hx i hi
  exact ⟨cs, q1, q2, hrr _ _ _ _ q3⟩
/-- What the start's lists may share. -/
def OkL (g : Nat) (mo : Option Nat) (hi : Nat) (q : Nat) : Prop := q < hi ∧ q ≠ g ∧ some q ≠ mo
def OkS (g : Nat) (mo : Option Nat) (q : Nat) : Prop := q ≠ g ∧ some q ≠ mo
theorem Own.sl3 {α : Type} {r : RdS α} {w : World} {base e k : Nat} {ok : Nat → Prop} {v : Value} {xs : List α} (h : Own r w base e k ok v xs)
    (hm : xs.length ≤ 140737488351232) : Sl (fun q => v.ownBlock = some q) w k (r (Sup ok w v) w) xs v := by
  obtain ⟨A, c, he, hc⟩ := h.val
  obtain ⟨inner, ho, h1, hx⟩ := h
  refine ⟨A, c, he, hc, hm, fun h0 => ?_⟩
  rcases ho.2 with ⟨_, hn⟩ | ⟨g, cap, cur, hv, hb, hg, hcc, hcm, hcs, htake⟩
  · omega
  · rw [he] at hv
    injection hv with hA _ _
    refine ⟨g, 0, hA, by rw [he, hA]; rfl, fun i hi => ?_⟩
    obtain ⟨cs, hl, hcell, hrr⟩ := hx i hi
    refine ⟨cs, hl, fun j hj => ?_, hrr⟩
    rw [← hcell j hj, ← htake]
    have hik : i * k + j < xs.length * k := by
      have : (i + 1) * k ≤ xs.length * k := Nat.mul_le_mul_right _ hi
      rw [Nat.add_mul] at this
      omega
    rw [List.getElem?_take, if_pos hik]
    simp [World.cell?, hg]
/-- Old blocks but for the result's and its first row's. -/
def OldQ (g : Nat) (row0 : Option Nat) (q : Nat) : Prop := q ≠ g ∧ some q ≠ row0
/-- The result under way. -/
def BR (w8 : World) (row0 : Option Nat) (g base : Nat) (r : Value) (st : Int) (mv : Value) (acc : List (List (List (List Nd)))) (wr : World) : Prop :=
  GrewP (OldQ g row0) w8 wr ∧ (mv.ownBlock = row0 ∨ ∃ q, mv.ownBlock = some q ∧ w8.heap.size ≤ q) ∧ ThreeAt wr g r (.int .i64 st) mv 25 ∧
    Own RuleR wr base 49 1 (fun q => q ≠ g) mv acc
/-- A row is appended to the result, and the result is stored. -/
theorem BR.push {w8 wr w' : World} {row0 : Option Nat} {g base : Nat} {r : Value} {st : Int} {mv : Value} {acc : List (List (List (List Nd)))} (h : BR w8 row0 g base r st mv acc wr) (hg8 : g < w8.heap.size) (hbg : base ≤ g) (hrow : ∀ q, row0 = some q → q < g)
    (hf : Grew wr w') (hacc : acc.length ≤ 1000) {A : Option Addr} {c : Nat} {row : List (List (List Nd))} (hr : RuleR (fun q => q ≠ g ∧ q < w'.heap.size ∧ some q ≠ mv.ownBlock) w' row [.slice A row.length c]) :
    w'.cell? ⟨g, 2, none⟩ = some mv ∧ ∃ A9 c9 w9, (Builtin.append_ #[23, 23] 23 #[mv, .slice (some ⟨w'.heap.size, 0, none⟩) 1 1]).run Tryz.prog (w'.alloc (.cells #[.slice A row.length c] 49)) = .ok (.slice A9 (acc.length + 1) c9) w9 ∧
      w9.cell? ⟨g, 2, none⟩ = some mv ∧ w9.frozen? ⟨g, 2, none⟩ = false ∧ BR w8 row0 g base r st (.slice A9 (acc.length + 1) c9) (acc ++ [row]) (w9.setCell ⟨g, 2, none⟩ (.slice A9 (acc.length + 1) c9)) := by
  obtain ⟨hP, hmv, hT, hO⟩ := h
  have hs8 := hP.size
  have hsr := hf.1.size
  have hT' := hT.frm hf.1
  refine ⟨hT'.cells.2.2, ?_⟩
  have hf2 := grew_then_alloc hf (.cells #[.slice A row.length c] 49)
  have hO2 := hO.kept moves_rule hf2.1 (ownNone _) (by simp)
  have htw := OneAt.new w' (.slice A row.length c) 49
  have hltO := hO.lt
  obtain ⟨v9, w9, hrun, hO9, hg9, hp9⟩ := Own.app_run moves_rule elem_rule hO2 23 (g := w'.heap.size) row [.slice A row.length c] rfl (one_at htw) (by
      intro u hu
      simp at hu
      subst hu
      rfl) (moves_rule _ _ _ _ _ _ (fun q hq => ⟨hq.1, by simp; omega, hq.2.2⟩) (fun q hq => Below.heap_alloc _ _ _ hq.2.1) hr) (by omega) (by omega) (by simp; omega)
  obtain ⟨A9, c9, he9, _⟩ := hO9.val
  rw [List.length_append, List.length_singleton] at he9
  subst he9
  have hgm : mv.ownBlock ≠ some g := fun e => by
    rcases hmv with h | ⟨q, h, h2⟩
    · rw [h] at e
      have := hrow g e
      omega
    · rw [h] at e
      injection e with e
      omega
  have hT9 : ThreeAt w9 g r (.int .i64 st) mv 25 := (hT.frm hf2.1).move (hg9.1.block g (by simp; omega) (fun e => hgm e.symm))
  have hmv9 : (Value.slice A9 (acc.length + 1) c9).ownBlock = row0 ∨ ∃ q, (Value.slice A9 (acc.length + 1) c9).ownBlock = some q ∧ w8.heap.size ≤ q := by
    rcases hp9 with h | h
    · rw [h]; exact hmv
    · exact .inr ⟨_, h, by simp; omega⟩
  refine ⟨A9, c9, w9, hrun, hT9.cells.2.2, hT9.free 2, ?_, hmv9, hT9.set2 _, ?_⟩
  · refine ((hP.step hf2).row hg9 fun q hq => ?_).set 2 _ (fun h => h.1 rfl)
    rcases hmv with h | ⟨q', h, h2⟩
    · exact .inr fun hQ => hQ.2 (by rw [← h, hq])
    · rw [h] at hq
      injection hq with hq
      exact .inl (by omega)
  · refine hO9.kept moves_rule (frm_set (frm_refl _ _) _ _) (.inr fun e => ?_) (fun q hq e => hq (Option.some.inj e))
    rcases hmv9 with h | ⟨q, h, h2⟩
    · rw [h] at e
      have := hrow g e
      omega
    · rw [h] at e
      injection e with e
      omega
/-- moves, and what follows. -/
theorem both_row {w8 wr : World} {row0 : Option Nat} {g base : Nat} {r : Value} {st : Int} {mv : Value} {acc : List (List (List (List Nd)))} (h : BR w8 row0 g base r st mv acc wr) (hg8 : g < w8.heap.size) (hbg : base ≤ g) (hrow : ∀ q, row0 = some q → q < g) (hacc : acc.length ≤ 1000)
    {row : List (List (List Nd))} {tl : List Int} {v u : Value} (hm0 : rdO RuleR wr row [v]) (hto : SlO wr 1 (rdO IntR) tl u) (hb : ∀ l ∈ row, ∀ x ∈ l, ∀ y ∈ x, 0 ≤ y.2 ∧ y.2 < tl.length) (hlm : row.length ≤ 1000) (hll : ∀ l ∈ row, l.length ≤ 1000 ∧ ∀ x ∈ l, x.length ≤ 900) :
    ∀ wx, Grew wr wx → Calls Tryz.prog 57 #[v, u] wx fun e w' => ∃ A c, e = .returned (.slice A row.length c) ∧ w'.cell? ⟨g, 2, none⟩ = some mv ∧
      ∃ A9 c9 w9, (Builtin.append_ #[23, 23] 23 #[mv, .slice (some ⟨w'.heap.size, 0, none⟩) 1 1]).run Tryz.prog (w'.alloc (.cells #[.slice A row.length c] 49)) = .ok (.slice A9 (acc.length + 1) c9) w9 ∧
      w9.cell? ⟨g, 2, none⟩ = some mv ∧ w9.frozen? ⟨g, 2, none⟩ = false ∧ BR w8 row0 g base r st (.slice A9 (acc.length + 1) c9) (acc ++ [row.map (rmv (toL tl))]) (w9.setCell ⟨g, 2, none⟩ (.slice A9 (acc.length + 1) c9)) := by
  intro wx hx
  refine (rmoves_calls row tl wx v u (rdO_frm moves_rule hx.1 hm0) (hto.frm hx.1 (stays_rd moves_int)) hb hlm hll).mono ?_
  rintro e w' ⟨z, rfl, hg, ho⟩
  have hlen : (row.map (rmv (toL tl))).length = row.length := by simp
  have hs8 := h.1.size
  have hsx := hx.1.size
  have hlto := ho.lt
  have hltm := h.2.2.2.lt
  have hsl := ho.sl2 moves_alts (by omega) (S := fun q => q ≠ g ∧ q < w'.heap.size ∧ some q ≠ mv.ownBlock) (fun q h1 h2 => ⟨by omega, h2, fun e => by have := (hltm q e.symm).2; omega⟩) (fun q hq => by
    have := hlto q hq
    exact ⟨by omega, this.2, fun e => by have := (hltm q e.symm).2; omega⟩)
  obtain ⟨A, c, rfl, _⟩ := ho.val
  have hp := h.push hg8 hbg hrow (grew_trans hx hg) hacc (row := row.map (rmv (toL tl))) ⟨_, rfl, hsl⟩
  rw [hlen] at hp
  exact ⟨A, c, by rw [hlen], hp⟩
/-- Insert into a list of the call's own. -/
theorem ins_own {okf : Nat → Prop} {w : World} {base : Nat} {z u : Value} {ac : List (List Nd)} {x : List Nd} (hb : base ≤ w.heap.size) (H : Own AltR w base 76 1 (fun q => okf q ∨ base ≤ q) z ac)
    (hx : AltR (fun q => (okf q ∨ base ≤ q) ∧ q < w.heap.size) w x [u]) (hl : ac.length ≤ 100000) :
    Calls Tryz.prog 97 #[z, u] w fun e w' => ∃ A c, e = .returned (.slice A (insL (cmpL Nd.cmp) x ac).length c) ∧ Grew w w' ∧ Own AltR w' base 76 1 (fun q => okf q ∨ base ≤ q) (.slice A (insL (cmpL Nd.cmp) x ac).length c) (insL (cmpL Nd.cmp) x ac) := by
  refine (insert_calls ac x w z u (S := fun q => (okf q ∨ base ≤ q) ∧ q < w.heap.size) (fun q hq => hq.2) (H.sl moves_alt (by omega) (fun q h1 h2 => ⟨h1, h2⟩) (fun q h1 h2 => ⟨.inr h1, h2⟩)) H.ownVal hx hl).mono ?_
  rintro e w' ⟨z', rfl, hg, ho⟩
  have h := (ho.lower hb).ok_mono moves_alt (ok' := fun q => okf q ∨ base ≤ q) (fun q h _ => h.1)
  obtain ⟨A, c, rfl, _⟩ := h.val
  exact ⟨A, c, rfl, hg, h⟩
/-- Union, as a list that is read. -/
theorem uni_read {w : World} {a b : List Nd} {v u : Value} (ha : rdO AltR w a [v]) (hb : rdO AltR w b [u]) (hla : a.length ≤ 1000) (hlb : b.length ≤ 1000) (hl : (uni a b).length ≤ 10000) :
    Calls Tryz.prog 111 #[v, u] w fun e w' => ∃ A c, e = .returned (.slice A (uni a b).length c) ∧ Grew w w' ∧ AltR (fun q => w.heap.size ≤ q ∧ q < w'.heap.size) w' (uni a b) [.slice A (uni a b).length c] := by
  refine (union_calls a b w v u ha hb hla hlb).mono ?_
  rintro e w' ⟨z, rfl, hg, ho⟩
  have hlt := ho.lt
  have h := Own.sl2 (ok := fun _ => False) moves_nd (show Own NdR w' w.heap.size _ 2 (fun _ => False) z (uni a b) from ho) (by omega) (S := fun q => w.heap.size ≤ q ∧ q < w'.heap.size) (fun q h _ => h.elim) (fun q hq => hlt q hq)
  obtain ⟨A, c, rfl, _⟩ := ho.val
  exact ⟨A, c, rfl, hg, _, rfl, h⟩
theorem uni_len : ∀ a b : List Nd, (uni a b).length ≤ a.length + b.length
  | [], b => by unfold uni; simp
  | x :: a, [] => by unfold uni; simp
  | x :: a, y :: b => by
    unfold uni
    have h1 := uni_len a (y :: b)
    have h2 := uni_len (x :: a) b
    have h3 := uni_len a b
    simp only [List.length_cons] at h1 h2
    split
    · simp only [List.length_cons]; omega
    · split <;> (simp only [List.length_cons]; omega)
termination_by a b => a.length + b.length
theorem BR.start {w8 wr : World} {row0 : Option Nat} {g base : Nat} {r : Value} {st : Int} {mv : Value} {acc : List (List (List (List Nd)))} (h : BR w8 row0 g base r st mv acc wr) (hg8 : g < w8.heap.size) (hrow : ∀ q, row0 = some q → q < g) (st' : Int) :
    BR w8 row0 g base r st' mv acc (wr.setCell ⟨g, 1, none⟩ (.int .i64 st')) := by
  obtain ⟨hP, hmv, hT, hO⟩ := h
  refine ⟨hP.set 1 _ (fun h => h.1 rfl), hmv, hT.set1 _, hO.kept moves_rule (frm_set (frm_refl _ _) _ _) (.inr fun e => ?_) (fun q hq e => hq (Option.some.inj e))⟩
  rcases hmv with h | ⟨q, h, h2⟩
  · rw [h] at e
    have := hrow g e
    omega
  · rw [h] at e
    injection e with e
    omega
theorem BR.grew {w8 wr w' : World} {row0 : Option Nat} {g base : Nat} {r : Value} {st : Int} {mv : Value} {acc : List (List (List (List Nd)))} (h : BR w8 row0 g base r st mv acc wr) (hf : Grew wr w') : BR w8 row0 g base r st mv acc w' :=
  ⟨h.1.step hf, h.2.1, h.2.2.1.frm hf.1, h.2.2.2.kept moves_rule hf.1 (ownNone _) (by simp)⟩
theorem insL_len {α : Type} (f : α → α → Int) (x : α) : ∀ o : List α, (insL f x o).length ≤ o.length + 1
  | [] => by simp [insL]
  | y :: o => by
    have := insL_len f x o
    unfold insL
    split
    · simp only [List.length_cons]; omega
    · split <;> simp
theorem altSet_snoc (l : List (List Nd)) (x : List Nd) : altSet (l ++ [x]) = insL (cmpL Nd.cmp) x (altSet l) := setL_snoc _ _ _
end Go.Proofs.YtjpdmncafacmaaaGreatDoor
