/- GrpA: parts of the walks, one section each: the texts MapM, Tree, SomeP, List, Fin, Depth, Meas, Size. -/
import Derived.Test.YtjpdmncafacmaaaGreatDoorUnf
import Derived.Maps.RangeWalk
import Derived.Maps.OwnSet
import Derived.Test.YtjpdmncafacmaaaGreatDoorAuto
import Derived.Test.YtjpdmncafacmaaaGreatDoorApp
import Derived.Test.YtjpdmncafacmaaaGreatDoorRefCopy
import Derived.Laws.Bits64b
import Derived.Test.YtjpdmncafacmaaaGreatDoorJoinD
import Derived.Test.YtjpdmncafacmaaaGreatDoorPair
import Derived.Deep.DeepCutAuto
import Derived.Deep.CutRange
import Derived.Test.YtjpdmncafacmaaaGreatDoorOwn
import Derived.Test.YtjpdmncafacmaaaGreatDoorMore
/- The call's own maps from sets to ways, key by key. -/
section
set_option linter.unusedVariables false
set_option linter.unusedSimpArgs false
namespace Go.Proofs.YtjpdmncafacmaaaGreatDoor
open Go.RowKit Go.Maps

/-- The sets of four kids. -/
abbrev K4 := Nat × Nat × Nat × Nat
/-- A way: a symbol, and the sets of its kids. -/
abbrev Made := Nat × K4
def k4L (k : K4) : List Value := [.int .i64 k.1, .int .i64 k.2.1, .int .i64 k.2.2.1, .int .i64 k.2.2.2]
def madeV (m : Made) : Value := .agg #[.int .i64 m.1, .int .i64 m.2.1, .int .i64 m.2.2.1, .int .i64 m.2.2.2.1, .int .i64 m.2.2.2.2]
def madeD (m : Made) : DataW Unit := .agg [.lit (.int .i64 m.1), .lit (.int .i64 m.2.1), .lit (.int .i64 m.2.2.1), .lit (.int .i64 m.2.2.2.1), .lit (.int .i64 m.2.2.2.2)]
theorem madeV_inj {a b : Made} (h : madeV a = madeV b) : a = b := by
  obtain ⟨a0, a1, a2, a3, a4⟩ := a
  obtain ⟨b0, b1, b2, b3, b4⟩ := b
  simp only [madeV, Value.agg.injEq, Array.mk.injEq, List.cons.injEq, Value.int.injEq, and_true, true_and, Int.natCast_inj] at h
  obtain ⟨rfl, rfl, rfl, rfl, rfl⟩ := h
  rfl
theorem madeD_inj {a b : Made} (h : madeD a = madeD b) : a = b := by
  obtain ⟨a0, a1, a2, a3, a4⟩ := a
  obtain ⟨b0, b1, b2, b3, b4⟩ := b
  simp only [madeD, DataW.agg.injEq, List.cons.injEq, DataW.lit.injEq, Lit.int.injEq, and_true, true_and, Int.natCast_inj] at h
  obtain ⟨rfl, rfl, rfl, rfl, rfl⟩ := h
  rfl
open Classical in
/-- How a way reads. -/
noncomputable def madeR (v : Value) : Option (DataW Unit × List MemPlace) := if h : ∃ m, v = madeV m then some (madeD h.choose, []) else none
theorem madeR_mk (m : Made) : madeR (madeV m) = some (madeD m, []) := by
  unfold madeR
  rw [dif_pos ⟨m, rfl⟩]
  have h : ∃ m', madeV m = madeV m' := ⟨m, rfl⟩
  rw [← madeV_inj h.choose_spec]
theorem madeR_inv {v : Value} {y : DataW Unit × List MemPlace} (h : madeR v = some y) : ∃ m, v = madeV m ∧ y = (madeD m, []) := by
  by_cases hm : ∃ m, v = madeV m
  · obtain ⟨m, rfl⟩ := hm
    rw [madeR_mk] at h
    injection h with h
    exact ⟨m, rfl, h.symm⟩
  · unfold madeR at h
    rw [dif_neg hm] at h
    cases h

theorem intKey : Keyed Tryz.prog 3 := int_keyed Tryz.underlying3
theorem wf_nat {n : Nat} (h : n < 2 ^ 62) : (Lit.int .i64 (n : Int)).wf = true := by
  simp [Lit.wf, IntKind.min, IntKind.max, IntKind.signed, IntKind.bits]
  omega
theorem key_nat {n : Nat} (h : n < 2 ^ 62) : keyOf Tryz.prog 3 (.int .i64 (n : Int)) = some (.int .i64 (n : Int)) := keyOf_int_mk Tryz.underlying3 (wf_nat h)
/-- What a datum holds at the numbers below 2^62. -/
def Holds (D : DataW Unit) (f : Nat → Option Made) : Prop := (∀ n, n < 2 ^ 62 → (f n = none → has D (.int .i64 (n : Int)) = false) ∧ ∀ m, f n = some m → has D (.int .i64 (n : Int)) = true ∧ ∀ z, D.atKey (.int .i64 (n : Int)) z = madeD m) ∧
  ∀ kl, has D kl = true → ∃ n : Nat, n < 2 ^ 62 ∧ kl = .int .i64 (n : Int)
/-- Block `b` is a map of at most `n` ways that holds `f`. -/
def MapM (w : World) (b n : Nat) (f : Nat → Option Made) : Prop := ∃ D, w.ownsMap Tryz.prog 3 madeR b n D ∧ Holds D f
theorem MapM.kept {w w' : World} {b n : Nat} {f : Nat → Option Made} {row : Option Nat} (h : MapM w b n f) (hg : w.grownBy w' row) (hne : some b ≠ row) : MapM w' b n f := by
  obtain ⟨D, h, hh⟩ := h
  exact ⟨D, h.kept hg hne, hh⟩
theorem MapM.grew {w w' : World} {b n : Nat} {f : Nat → Option Made} (h : MapM w b n f) (hg : Grew w w') : MapM w' b n f := h.kept hg.1 (by simp)
theorem MapM.lt {w : World} {b n : Nat} {f : Nat → Option Made} (h : MapM w b n f) : b < w.heap.size := by
  obtain ⟨D, h, hh⟩ := h
  exact h.lt
theorem MapM.made (w : World) : MapM (w.alloc (.map #[] 0)) w.heap.size 0 (fun _ => none) :=
  ⟨.map [], World.ownsMap_made _ _ _ _, fun n hn => ⟨fun _ => rfl, fun m h => by cases h⟩, fun kl h => by cases h⟩
theorem MapM.mono {w : World} {b n n' : Nat} {f : Nat → Option Made} (h : MapM w b n f) (hn : n ≤ n') : MapM w b n' f := by
  obtain ⟨D, h, hh⟩ := h
  exact ⟨D, h.mono hn, hh⟩
def noMade : Made := (0, 0, 0, 0, 0)
def putF (f : Nat → Option Made) (k : Nat) (m : Made) : Nat → Option Made := fun n => if n = k then some m else f n
theorem holds_put {D : DataW Unit} {f : Nat → Option Made} {k : Nat} {m : Made} (h : Holds D f) (hm : IsMap D) (hk : k < 2 ^ 62) : Holds (D.put (.int .i64 (k : Int)) (madeD m)) (putF f k m) := by
  have hkey : WideAt.IsKeyLit (.int .i64 (k : Int)) := trivial
  refine ⟨fun n hn => ?_, fun kl hkl => ?_⟩
  · unfold putF
    by_cases e : n = k
    · subst e
      rw [if_pos rfl]
      refine ⟨fun h => (by cases h), fun m' hm' => ?_⟩
      injection hm' with hm'
      subst hm'
      exact ⟨has_put_same hm hkey _, fun z => atKey_put_same hm hkey _ _⟩
    · rw [if_neg e]
      have hne : (Lit.int .i64 (n : Int)) ≠ .int .i64 (k : Int) := by
        intro h
        injection h with _ h
        omega
      rw [has_put_other hne]
      refine ⟨(h.1 n hn).1, fun m' hm' => ⟨((h.1 n hn).2 m' hm').1, fun z => ?_⟩⟩
      rw [atKey_put_other hne]
      exact ((h.1 n hn).2 m' hm').2 z
  · by_cases e : kl = .int .i64 (k : Int)
    · exact ⟨k, hk, e⟩
    · rw [has_put_other e] at hkl
      exact h.2 kl hkl
/-- 'v, ok := m[k]' -/
theorem MapM.look {P : Program} (hP : P = Tryz.prog) {w : World} {b n k t : Nat} {f : Nat → Option Made} (h : MapM w b n f) (ht : Tryz.prog.underlying t = some (.map 3 59)) (hz : (zeroValue 59).run P w = .ok (madeV noMade) w) (hk : k < 2 ^ 62) :
    (Instr.lookup t (.map (some b)) (.int .i64 (k : Int)) true).run P w = .ok (.tuple #[madeV ((f k).getD noMade), .bool (f k).isSome]) w ∧ (Instr.lookup t (.map (some b)) (.int .i64 (k : Int)) false).run P w = .ok (madeV ((f k).getD noMade)) w := by
  subst hP
  obtain ⟨D, h, hh⟩ := h
  obtain ⟨v, ps, hr, hv⟩ := h.look_ok intKey ht hz (madeR_mk noMade) (key_nat hk)
  obtain ⟨v', ps', hr', hv'⟩ := h.lookup intKey ht hz (madeR_mk noMade) (key_nat hk)
  obtain ⟨m, rfl, hm⟩ := madeR_inv hv
  obtain ⟨m', rfl, hm'⟩ := madeR_inv hv'
  simp only [Prod.mk.injEq] at hm hm'
  have h1 := hh.1 k hk
  cases hf : f k with
  | none =>
    have hb := h1.1 hf
    rw [atKey_of_not_has hb] at hm hm'
    have e1 := madeD_inj hm.1
    have e2 := madeD_inj hm'.1
    subst e1
    subst e2
    rw [hb] at hr
    exact ⟨hr, hr'⟩
  | some m2 =>
    obtain ⟨hb, hat⟩ := h1.2 m2 hf
    rw [hat] at hm hm'
    have e1 := madeD_inj hm.1
    have e2 := madeD_inj hm'.1
    subst e1
    subst e2
    rw [hb] at hr
    exact ⟨hr, hr'⟩
/-- 'm[k] = v' -/
theorem MapM.store {w : World} {b n k t : Nat} {f : Nat → Option Made} (h : MapM w b n f) (ht : Tryz.prog.underlying t = some (.map 3 59)) (hn : n < maxLen) (hk : k < 2 ^ 62) (m : Made) :
    ∃ w', (Instr.mapUpdate t (.map (some b)) (.int .i64 (k : Int)) (madeV m)).run Tryz.prog w = .ok () w' ∧ MapM w' b (n + 1) (putF f k m) ∧ w.grownBy w' (some b) ∧ w'.drawn = w.drawn := by
  obtain ⟨D, h, hh⟩ := h
  obtain ⟨w', hr, ho, ht'⟩ := h.store intKey ht hn (key_nat hk) (madeR_mk m)
  refine ⟨w', hr, ⟨_, ho, holds_put hh h.isMap hk⟩, ht'.grown, ?_⟩
  obtain ⟨es, clock, es', clock', _, rfl⟩ := ht'
  rfl
/-- How many ways the map holds. -/
theorem MapM.size_pos {w : World} {b n : Nat} {f : Nat → Option Made} (h : MapM w b n f) : ∃ s : Nat, s ≤ n ∧ (∀ {t e : TypeId}, Tryz.prog.underlying t = some (.map 3 e) → ∀ ty, (Builtin.len_ #[t] ty #[.map (some b)]).run Tryz.prog w = .ok (.int .i64 s) w) ∧ (s = 0 ↔ ∀ k, k < 2 ^ 62 → f k = none) := by
  obtain ⟨D, h, hh⟩ := h
  refine ⟨size D, h.size_le, fun ht ty => h.len ht ty, ?_⟩
  obtain ⟨es, rfl⟩ := h.isMap
  rw [size_eq]
  constructor
  · intro he k hk
    have : es = [] := List.eq_nil_of_length_eq_zero he
    subst this
    cases hf : f k with
    | none => rfl
    | some m => have := ((hh.1 k hk).2 m hf).1; cases this
  · intro ha
    rcases es with _ | ⟨p, es⟩
    · rfl
    · have h9 : has (DataW.map (p :: es)) p.1 = true := by
        obtain ⟨es2, he2, _, hk2⟩ := h.entries intKey
        injection he2 with he2
        rw [has_eq]
        refine List.any_eq_true.2 ⟨p, by simp, WideAt.sameKey_self (hk2 p (by rw [← he2]; simp))⟩
      obtain ⟨n, hn, he⟩ := hh.2 _ h9
      have := (hh.1 n hn).1 (ha n hn)
      rw [he] at h9
      rw [h9] at this
      cases this
end Go.Proofs.YtjpdmncafacmaaaGreatDoor
end
/- Trees as they lie, by a bound of their depth. -/
section
set_option linter.unusedVariables false
set_option linter.unusedSimpArgs false
namespace Go.Proofs.YtjpdmncafacmaaaGreatDoor
open Go.RowKit

inductive Tr where
  | node (label : Int) (kids : List Tr)
def Tr.label : Tr → Int | .node l _ => l
def Tr.kids : Tr → List Tr | .node _ k => k
/-- A tree of depth at most `d`. -/
def TrD : Nat → RdS Tr
  | 0 => fun _ _ _ _ => False
  | d + 1 => fun S w t cs => ∃ v, cs = [.int .i64 t.label, v] ∧ (-9223372036854775808 ≤ t.label ∧ t.label ≤ 9223372036854775807) ∧ Sl S w 2 (TrD d S w) t.kids v
theorem moves_tr : ∀ d, Moves (TrD d)
  | 0 => fun _ _ _ _ _ _ _ _ h => h.elim
  | d + 1 => by
    rintro S S' w w' t cs hS hw ⟨v, rfl, hb, h⟩
    exact ⟨v, rfl, hb, h.move hS hw fun x _ cs h => moves_tr d _ _ _ _ _ _ hS hw h⟩
/-- The greatest depth, the empty list's being 0. -/
def maxL (l : List Nat) : Nat := l.foldl max 0
/-- The depth, reckoned to a bound. -/
def depthTo : Nat → Tr → Nat
  | 0, _ => 0
  | d + 1, t => maxL (t.kids.map (depthTo d)) + 1
theorem maxL_snoc (l : List Nat) (x : Nat) : maxL (l ++ [x]) = max (maxL l) x := by simp [maxL, List.foldl_append]
theorem maxL_le (b : Nat) : ∀ (l : List Nat), (∀ x ∈ l, x ≤ b) → maxL l ≤ b := by
  intro l
  suffices h : ∀ (l : List Nat) (a : Nat), a ≤ b → (∀ x ∈ l, x ≤ b) → l.foldl max a ≤ b from fun hl => h l 0 (Nat.zero_le _) hl
  intro l
  induction l with
  | nil => intro a ha _; exact ha
  | cons x l ih =>
    intro a ha hl
    exact ih (max a x) (Nat.max_le.2 ⟨ha, hl x (by simp)⟩) fun y hy => hl y (by simp [hy])
theorem depthTo_le : ∀ d t, depthTo d t ≤ d
  | 0, _ => Nat.le_refl _
  | d + 1, t => by
    unfold depthTo
    have := maxL_le d (t.kids.map (depthTo d)) (by
      intro x hx
      obtain ⟨y, _, rfl⟩ := List.mem_map.1 hx
      exact depthTo_le d y)
    omega
end Go.Proofs.YtjpdmncafacmaaaGreatDoor
end
/- mix.Some, plainly. -/
section
set_option linter.unusedVariables false
set_option linter.unusedSimpArgs false
namespace Go.Proofs.YtjpdmncafacmaaaGreatDoor
open Go.RowKit

/-! ### The states of a mask -/
def lowB (x : Nat) : Nat := ((List.range 6).find? fun i => x.testBit i).getD 0
def bitsP : Nat → Nat → List Nat
  | 0, _ => []
  | n + 1, x => if x = 0 then [] else lowB x :: bitsP n (x &&& (x - 1))
def listP (x : Nat) : List Nat := bitsP 7 x
theorem low_lt : ∀ x, x < 64 → lowB x < 6 := by decide
theorem clear_lt : ∀ x, x < 64 → x ≠ 0 → x &&& (x - 1) < x := by decide
theorem bits_lt : ∀ x, x < 64 → ∀ i ∈ listP x, i < 6 := by decide
theorem bits_eq : ∀ x, x < 64 → listP x = (List.range 6).filter fun i => x.testBit i := by decide
theorem bits_len : ∀ x, x < 64 → (listP x).length ≤ 6 := by decide
theorem bits_step : ∀ x, x < 64 → x ≠ 0 → listP x = lowB x :: listP (x &&& (x - 1)) := by decide

/-! ### The choice of alternatives -/
def K4.get (k : K4) : Nat → Nat
  | 0 => k.1 | 1 => k.2.1 | 2 => k.2.2.1 | _ => k.2.2.2
def K4.set (k : K4) (v : Nat) : Nat → K4
  | 0 => (v, k.2) | 1 => (k.1, v, k.2.2) | 2 => (k.1, k.2.1, v, k.2.2.2) | _ => (k.1, k.2.1, k.2.2.1, v)
def K4.or (k : K4) (i s : Nat) : K4 := k.set (k.get i ||| 2 ^ s) i
def k4Add (k : K4) (l : List Nd) : K4 := l.foldl (fun k x => k.or x.1.toNat x.2.toNat) k
/-- All four sets are of six states. -/
def K4.ok (k : K4) : Prop := k.1 < 64 ∧ k.2.1 < 64 ∧ k.2.2.1 < 64 ∧ k.2.2.2 < 64
theorem K4.get_lt {k : K4} (h : k.ok) (i : Nat) : k.get i < 64 := by
  obtain ⟨h0, h1, h2, h3⟩ := h
  unfold K4.get
  split <;> assumption
theorem or_lt {a s : Nat} (ha : a < 64) (hs : s < 6) : a ||| 2 ^ s < 64 := by
  have h : 2 ^ s < 2 ^ 6 := Nat.pow_lt_pow_right (by decide) hs
  exact Nat.or_lt_two_pow (n := 6) ha h
theorem K4.ok_or {k : K4} (h : k.ok) (i : Nat) {s : Nat} (hs : s < 6) : (k.or i s).ok := by
  have hg := or_lt (k.get_lt h i) hs
  obtain ⟨h0, h1, h2, h3⟩ := h
  unfold K4.or K4.set
  split <;> exact ⟨by assumption, by assumption, by assumption, by assumption⟩
theorem k4Add_take {k : K4} {l : List Nd} {j : Nat} (h : j < l.length) : k4Add k (l.take (j + 1)) = (k4Add k (l.take j)).or l[j].1.toNat l[j].2.toNat := by
  unfold k4Add
  rw [List.take_succ_eq_append_getElem h, List.foldl_append]
  rfl
theorem k4Add_ok {k : K4} (h : k.ok) : ∀ l : List Nd, (∀ x ∈ l, x.2.toNat < 6) → (k4Add k l).ok := by
  intro l
  induction l generalizing k with
  | nil => intro _; exact h
  | cons x l ih => intro hl; exact ih (K4.ok_or h _ (hl x (by simp))) (fun y hy => hl y (by simp [hy]))
/-- There is a way for each of the first `r` sets. -/
def there (dn : Nat → Option Made) (r : Nat) (k : K4) : Bool := (List.range r).all fun i => (dn (k.get i)).isSome
theorem there_succ (dn : Nat → Option Made) (r : Nat) (k : K4) : there dn (r + 1) k = (there dn r k && (dn (k.get r)).isSome) := by
  unfold there
  rw [List.range_succ, List.all_append]
  simp
def chooseP (alts : Nat → List (List Nd)) (dn : Nat → Option Made) (r : Nat) : List Nat → K4 → Option K4
  | [], k => if there dn r k then some k else none
  | q :: qs, k => if there dn r k then (alts q).findSome? (fun l => chooseP alts dn r qs (k4Add k l)) else none
theorem choose_not {alts : Nat → List (List Nd)} {dn : Nat → Option Made} {r : Nat} {k : K4} (h : there dn r k = false) : ∀ qs, chooseP alts dn r qs k = none
  | [] => by simp [chooseP, h]
  | q :: qs => by simp [chooseP, h]
theorem choose_nil {alts : Nat → List (List Nd)} {dn : Nat → Option Made} {r : Nat} {k : K4} (h : there dn r k = true) : chooseP alts dn r [] k = some k := by simp [chooseP, h]
theorem choose_cons {alts : Nat → List (List Nd)} {dn : Nat → Option Made} {r : Nat} {k : K4} (h : there dn r k = true) (q : Nat) (qs : List Nat) : chooseP alts dn r (q :: qs) k = (alts q).findSome? (fun l => chooseP alts dn r qs (k4Add k l)) := by simp [chooseP, h]
theorem choose_ok {alts : Nat → List (List Nd)} {dn : Nat → Option Made} {r : Nat} (ha : ∀ q, ∀ l ∈ alts q, ∀ x ∈ l, x.2.toNat < 6) : ∀ (qs : List Nat) (k k' : K4), k.ok → chooseP alts dn r qs k = some k' → k'.ok ∧ there dn r k' = true
  | [], k, k', hk, h => by
    unfold chooseP at h
    split at h
    · rename_i ht
      injection h with h
      subst h
      exact ⟨hk, ht⟩
    · cases h
  | q :: qs, k, k', hk, h => by
    unfold chooseP at h
    split at h
    · obtain ⟨l, hl, h⟩ := List.exists_of_findSome?_eq_some h
      exact choose_ok ha qs _ k' (k4Add_ok hk l (ha q l hl)) h
    · cases h
/-- A search of a list, from an index on. -/
theorem find_drop {α β : Type} (f : α → Option β) (l : List α) (k : Nat) (h : k < l.length) : (l.drop k).findSome? f = (f l[k]).or ((l.drop (k + 1)).findSome? f) := by
  rw [List.drop_eq_getElem_cons h, List.findSome?_cons]
  cases f l[k] <;> rfl

/-! ### The rounds -/
def Au.altsAt (a : Au) (sym q : Nat) : List (List Nd) := (a.moves.getD q []).getD sym []
def Au.rankAt (a : Au) (sym : Nat) : Nat := (a.ranks.getD sym 0).toNat
def way1 (a : Au) (dn : Nat → Option Made) (set sym : Nat) : Option Made := (chooseP (a.altsAt sym) dn (a.rankAt sym) (listP set) (0, 0, 0, 0)).map fun k => (sym, k)
def wayP (a : Au) (dn : Nat → Option Made) (set : Nat) : Option Made := (List.range a.ranks.length).findSome? (way1 a dn set)
/-- What is found in a round, of the sets below `n`. -/
def foundP (a : Au) (dn : Nat → Option Made) (n : Nat) : Nat → Option Made := fun s => if s < n then (if (dn s).isSome then none else wayP a dn s) else none
def orF (f g : Nat → Option Made) : Nat → Option Made := fun s => (f s).or (g s)
def stepP (a : Au) (dn : Nat → Option Made) : Nat → Option Made := orF dn (foundP a dn (2 ^ a.moves.length))
def dnP (a : Au) : Nat → Nat → Option Made
  | 0 => fun _ => none
  | k + 1 => stepP a (dnP a k)
theorem found_succ (a : Au) (dn : Nat → Option Made) (n : Nat) : foundP a dn (n + 1) = if (dn n).isSome then foundP a dn n else match wayP a dn n with
    | none => foundP a dn n
    | some m => putF (foundP a dn n) n m := by
  funext s
  by_cases hs : s = n
  · subst hs
    have h1 : foundP a dn s s = none := by unfold foundP; rw [if_neg (Nat.lt_irrefl s)]
    cases hd : (dn s).isSome
    · rw [if_neg (by simp)]
      cases hw : wayP a dn s with
      | none => simp [foundP, hw]
      | some m => simp [foundP, hw, hd, putF]
    · rw [if_pos rfl]
      simp [foundP, hd]
  · have h1 : foundP a dn (n + 1) s = foundP a dn n s := by
      unfold foundP
      by_cases h : s < n
      · rw [if_pos h, if_pos (by omega)]
      · rw [if_neg h, if_neg (by omega)]
    rw [h1]
    split
    · rfl
    · cases hw : wayP a dn n with
      | none => rfl
      | some m => simp only [putF, if_neg hs]
theorem found_none {a : Au} {dn : Nat → Option Made} {n s : Nat} {m : Made} (h : foundP a dn n s = some m) : dn s = none ∧ s < n ∧ wayP a dn s = some m := by
  unfold foundP at h
  split at h
  · split at h
    · cases h
    · rename_i h1 h2
      exact ⟨by simpa using h2, h1, h⟩
  · cases h
/-- How many of the sets below `n` have a way. -/
def cntF (f : Nat → Option Made) (n : Nat) : Nat := ((List.range n).filter fun s => (f s).isSome).length
theorem cnt_le (f : Nat → Option Made) (n : Nat) : cntF f n ≤ n := by
  unfold cntF
  exact Nat.le_trans (List.length_filter_le _ _) (by simp)
theorem cnt_lt {f g : Nat → Option Made} {n s : Nat} (hs : s < n) (h0 : f s = none) (h1 : (g s).isSome = true) (h : ∀ s, (f s).isSome = true → (g s).isSome = true) : cntF f n + 1 ≤ cntF g n := by
  unfold cntF
  have hle : ∀ l : List Nat, (l.filter fun s => (f s).isSome).length ≤ (l.filter fun s => (g s).isSome).length := by
    intro l
    induction l with
    | nil => simp
    | cons x l ih =>
      rw [List.filter_cons, List.filter_cons]
      by_cases hx : (f x).isSome = true
      · rw [if_pos hx, if_pos (h x hx)]
        simp only [List.length_cons]
        omega
      · rw [if_neg hx]
        split
        · simp only [List.length_cons]
          omega
        · exact ih
  have hmem : s ∈ List.range n := List.mem_range.2 hs
  obtain ⟨l1, l2, he⟩ := List.append_of_mem hmem
  rw [he]
  simp only [List.filter_append, List.length_append]
  rw [List.filter_cons, List.filter_cons, if_neg (by simp [h0]), if_pos h1]
  have := hle l1
  have := hle l2
  simp only [List.length_cons]
  omega

/-! ### The tree -/
/-- The ways lead down: those of the sets that have one by round `k`, to sets that have one before. -/
def treeP (a : Au) (dn : Nat → Option Made) : Nat → Nat → Tr
  | 0, _ => .node 0 []
  | d + 1, s => match dn s with
    | none => .node 0 []
    | some m => .node m.1 ((List.range (a.rankAt m.1)).map fun i => treeP a dn d (m.2.get i))
end Go.Proofs.YtjpdmncafacmaaaGreatDoor
end
/- auto.List: the states of a mask; the library's table that counts trailing zeros. -/
section
set_option linter.unusedVariables false
set_option linter.unusedSimpArgs false
namespace Go.Proofs.YtjpdmncafacmaaaGreatDoor
open Go.RowKit

def deB64 : List Nat := [0, 1, 56, 2, 57, 49, 28, 3, 61, 58, 42, 50, 38, 29, 17, 4, 62, 47, 59, 36, 45, 43, 51, 22, 53, 39, 33, 30, 24, 18, 12, 5, 63, 55, 48, 27, 60, 41, 37, 16, 46, 35, 44, 21, 52, 32, 23, 11, 54, 26, 40, 15, 34, 20, 31, 10, 25, 14, 19, 9, 13, 8, 7, 6]
/-- The library's table lies as it should. -/
def Tab (w : World) : Prop := ∀ j, j < 64 → w.cell? ⟨1, j, none⟩ = some (.int .u8 ((deB64.getD j 0 : Nat) : Int))
theorem Tab.frm {w w' : World} (h : Tab w) (hf : w.grownBy w' none) : Tab w' := fun j hj => frm_cell hf (h j hj)
theorem Tab.grew {w w' : World} (h : Tab w) (hf : Grew w w') : Tab w' := h.frm hf.1
def tzIdx (x : Nat) : Nat := (x &&& (18446744073709551616 - x)) * 285870213051353865 % 18446744073709551616 / 288230376151711744
theorem tz_idx : ∀ x, x < 64 → x ≠ 0 → tzIdx x < 64 ∧ deB64.getD (tzIdx x) 0 = lowB x := by decide
theorem tz_key0 (x a : Nat) (hx : x < 18446744073709551616) (hx0 : x ≠ 0) (hlow : x &&& (18446744073709551616 - x) = a) : IntKind.u64.wrap (bits BinOp.and IntKind.u64 (x : Int) (IntKind.u64.wrap (-(x : Int))) * 285870213051353865) / 288230376151711744 = ((a * 285870213051353865 % 18446744073709551616 / 288230376151711744 : Nat) : Int) := by
  have e1 : IntKind.u64.wrap (-(x : Int)) = ((18446744073709551616 - x : Nat) : Int) := by rw [IntKind.wrap_u64]; omega
  rw [e1, bits_and_u64_nat x _ hx (by omega), hlow, IntKind.wrap_u64]
  omega
theorem tz_key (x : Nat) (hx : x < 64) (hx0 : x ≠ 0) : IntKind.u64.wrap (bits BinOp.and IntKind.u64 (x : Int) (IntKind.u64.wrap (-(x : Int))) * 285870213051353865) / 288230376151711744 = (tzIdx x : Int) :=
  tz_key0 x _ (Nat.lt_of_lt_of_le hx (by decide)) hx0 rfl
set_option maxRecDepth 20000 in
set_option maxHeartbeats 1000000 in
theorem tz64_core (x n a b idx k : Int) (w : World) (hz : (x == 0) = false) (h0 : IntKind.u64.wrap (-x) = n) (h1 : bits BinOp.and IntKind.u64 x n = a) (h2 : IntKind.u64.wrap (a * 285870213051353865) = b) (h3 : b / 288230376151711744 = idx)
    (hi0 : 0 ≤ idx) (hi : idx < 64) (hk : IntKind.i64.wrap k = k) (hcell : w.cell? ⟨1, idx.toNat, none⟩ = some (.int .u8 k)) :
    Calls Tryz.prog 125 #[.int .u64 x] w fun e w' => e = .returned (.int .i64 k) ∧ w' = w := by
  go_enter Tryz.func125, Tryz.ntmps125
  go_wp2_with fail
  exact bodyPost_ret (results_tmp rfl _ _ _) rfl ⟨rfl, rfl⟩
theorem tz64_calls0 (x idx k : Nat) (w : World) (hz : ((x : Int) == 0) = false) (key : IntKind.u64.wrap (bits BinOp.and IntKind.u64 (x : Int) (IntKind.u64.wrap (-(x : Int))) * 285870213051353865) / 288230376151711744 = (idx : Int)) (hi : idx < 64) (hk : k < 64) (hcell : w.cell? ⟨1, idx, none⟩ = some (.int .u8 (k : Int))) :
    Calls Tryz.prog 125 #[.int .u64 x] w fun e w' => e = .returned (.int .i64 k) ∧ w' = w :=
  tz64_core x _ _ _ (idx : Int) (k : Int) w hz rfl rfl rfl key (by omega) (by omega) (IntWalk.i64_in _ (by omega)) hcell
theorem tz64_calls (x : Nat) (hx : x < 64) (hx0 : x ≠ 0) (w : World) (hT : Tab w) :
    Calls Tryz.prog 125 #[.int .u64 x] w fun e w' => e = .returned (.int .i64 (lowB x)) ∧ w' = w :=
  tz64_calls0 x (tzIdx x) (lowB x) w (by rw [beq_eq_false_iff_ne]; omega) (tz_key x hx hx0) (tz_idx x hx hx0).1 (Nat.lt_trans (low_lt x hx) (by decide)) ((hT _ (tz_idx x hx hx0).1).trans (congrArg (fun n : Nat => some (Value.int .u8 (n : Int))) (tz_idx x hx hx0).2))
theorem tz_calls (x : Nat) (hx : x < 64) (hx0 : x ≠ 0) (w : World) (hT : Tab w) :
    Calls Tryz.prog 105 #[.int .u64 x] w fun e w' => e = .returned (.int .i64 (lowB x)) ∧ w' = w := by
  have H := Lib.hid (tz64_calls x hx hx0 w hT)
  have hw : IntKind.u64.wrap (x : Int) = (x : Int) := by rw [IntKind.wrap_u64]; omega
  clear hT
  go_enter Tryz.func105, Tryz.ntmps105
  go_wp2_with fail
  refine H.out.mono ?_
  rintro e w' ⟨rfl, rfl⟩
  dsimp only
  go_wp2_with fail
  exact bodyPost_ret (results_tmp rfl _ _ _) rfl ⟨rfl, rfl⟩

def listI (x : Nat) : List Int := (listP x).map fun i : Nat => (i : Int)
set_option maxRecDepth 100000 in
set_option maxHeartbeats 1000000 in
theorem list_calls (x : Nat) (hx : x < 64) (w : World) (hT : Tab w) :
    Calls Tryz.prog 62 #[.int .i64 x] w fun e w' => ∃ u, e = .returned u ∧ Grew w w' ∧ Own IntR w' w.heap.size 3 1 (fun _ => True) u (listI x) := by
  have HT := Lib.hid hT
  clear hT
  have e0 : IntKind.u64.wrap (x : Int) = x := by rw [IntKind.wrap_u64]; omega
  go_enter Tryz.func62, Tryz.ntmps62
  go_wp2_with fail
  go_loopw [3, 4] (fun u i wr => ∃ (k y : Nat) (p : List Int), y < 64 ∧ i = .int .u64 y ∧ Grew w wr ∧ Hid (listI x = p ++ listI y) ∧ Own IntR wr w.heap.size 3 1 (fun _ => True) u p ∧ Hid (p.length + (listP y).length = (listP x).length)) (fun _ i _ => (intOf i).toNat)
  case atStart => exact ⟨0, x, [], hx, rfl, grew_refl _, rfl, Own.nil _ _ _ _ _ _, by unfold Hid; simp⟩
  case round =>
    obtain ⟨k, y, p, hy, rfl, hfr, HP, hO, HL⟩ := hrel
    obtain ⟨Au, cu, he, hcu⟩ := hO.val
    subst he
    by_cases hy0 : y = 0
    · subst hy0
      have HX : Hid (listI x = p) := by
        unfold Hid
        rw [HP.out, show listI 0 = [] from rfl, List.append_nil]
      have HO := Lib.hid hO
      clear hO
      go_wp2_with fail
      exact bodyPost_ret (v := .slice Au p.length cu) (by simp [results, Tryz.results62, go_sem]) rfl ⟨_, rfl, hfr, by rw [HX.out]; exact HO.out⟩
    · have hz : ((y : Int) != 0) = true := by simp; exact hy0
      have HST := Lib.hid (bits_step y hy hy0)
      have hcl := clear_lt y hy hy0
      have hlo := low_lt y hy
      have HB := Lib.hid (bits_len x hx)
      have HC := Lib.hid (tz_calls y hy hy0 wr (HT.out.grew hfr))
      have HO := Lib.hid hO
      have e1 : IntKind.u64.wrap ((y : Int) - 1) = ((y - 1 : Nat) : Int) := by rw [IntKind.wrap_u64]; omega
      have e2 : bits BinOp.and IntKind.u64 (y : Int) ((y - 1 : Nat) : Int) = ((y &&& (y - 1) : Nat) : Int) := bits_and_u64_nat _ _ (by omega) (by omega)
      have HNE := Lib.hid hy0
      clear hO hy0
      generalize lowB y = lo at *
      generalize y &&& (y - 1) = y2 at *
      go_wp2_with fail
      refine HC.out.mono ?_
      rintro e w4 ⟨rfl, rfl⟩
      dsimp only
      repeat ((fail_if_success at_builtin); first | go_values | go_skip | go_guarded | go_step | go_upon)
      have hf5 : Grew w4 (w4.alloc (.cells #[.int .i64 lo] 3)) := grew_alloc _ _
      have hO5 := HO.out.kept moves_int hf5.1 (ownNone _) (by simp)
      have htw := OneAt.new w4 (.int .i64 lo) 3
      have hL := HL.out
      have hBo := HB.out
      have hs0 := hfr.1.size
      have hltO := HO.out.lt
      refine Own.app1 moves_int elem_int hO5 rfl _ _ rfl rfl rfl (lo : Int) [.int .i64 lo] rfl (one_at htw) ?_ ?_ (by omega) (by omega) (by simp; omega) ?_
      · intro u hu
        simp at hu
        subst hu
        rfl
      · exact ⟨rfl, by omega, by omega⟩
      intro v7 w7 hO7 hg7 hp7
      have hfr7 : Grew w w7 := grew_own (grew_trans hfr hf5) (fun b hb => (hltO b hb).1) hg7.1 hg7.2
      obtain ⟨A7, c7, he7, hcc7⟩ := hO7.val
      have HO7 := Lib.hid hO7
      have hl7 : (p ++ [(lo : Int)]).length = p.length + 1 := by simp
      rw [hl7] at he7
      clear hO7 hO5 htw hltO hL hBo hl7
      subst he7
      have HP7 : Hid (listI x = (p ++ [(lo : Int)]) ++ listI y2) := by
        unfold Hid
        have h := HP.out
        unfold listI at h ⊢
        rw [HST.out] at h
        rw [h]
        simp
      have HL7 : Hid ((p ++ [(lo : Int)]).length + (listP y2).length = (listP x).length) := by
        unfold Hid
        have h := HL.out
        rw [HST.out] at h
        simp at h ⊢
        omega
      go_wp2_with fail
      exact ⟨⟨k + 1, y2, p ++ [(lo : Int)], by omega, rfl, hfr7, HP7, HO7.out, HL7⟩, by simp [intOf]; omega⟩
end Go.Proofs.YtjpdmncafacmaaaGreatDoor
end
/- The finder of trees: its block, blocks of four sets, and what it reads of the automaton. -/
section
set_option linter.unusedVariables false
set_option linter.unusedSimpArgs false
namespace Go.Proofs.YtjpdmncafacmaaaGreatDoor
open Go.RowKit

/-- The finder's block: the automaton, and the map of the ways. -/
def FinAt (w : World) (g : Nat) (r : Value) (st : Int) (m : Value) (mb : Nat) : Prop := w.heap[g]? = some (.cells #[r, .int .i64 st, m, .map (some mb)] 56 (0, 0))
theorem FinAt.lt {w : World} {g mb : Nat} {r m : Value} {st : Int} (h : FinAt w g r st m mb) : g < w.heap.size := (Array.getElem?_eq_some_iff.1 h).1
theorem FinAt.cells {w : World} {g mb : Nat} {r m : Value} {st : Int} (h : FinAt w g r st m mb) : w.cell? ⟨g, 0, none⟩ = some r ∧ w.cell? ⟨g, 1, none⟩ = some (.int .i64 st) ∧ w.cell? ⟨g, 2, none⟩ = some m ∧ w.cell? ⟨g, 3, none⟩ = some (.map (some mb)) := by
  unfold FinAt at h
  simp [World.cell?, h]
theorem FinAt.move {w w' : World} {g mb : Nat} {r m : Value} {st : Int} (h : FinAt w g r st m mb) (hw : w'.heap[g]? = w.heap[g]?) : FinAt w' g r st m mb := hw.trans h
theorem FinAt.grew {w w' : World} {g mb : Nat} {r m : Value} {st : Int} (h : FinAt w g r st m mb) (hf : Grew w w') : FinAt w' g r st m mb := h.move (frm_lt hf.1 _ h.lt)
def k4V (k : K4) : Value := .agg #[.int .i64 k.1, .int .i64 k.2.1, .int .i64 k.2.2.1, .int .i64 k.2.2.2]
/-- A block of four sets. -/
def FourAt (w : World) (g : Nat) (k : K4) : Prop := w.heap[g]? = some (.cells #[.int .i64 k.1, .int .i64 k.2.1, .int .i64 k.2.2.1, .int .i64 k.2.2.2] 57 (0, 0))
section
variable {w w' : World} {g : Nat} {k : K4}
theorem FourAt.lt (h : FourAt w g k) : g < w.heap.size := (Array.getElem?_eq_some_iff.1 h).1
theorem FourAt.cells (h : FourAt w g k) : w.cell? ⟨g, 0, none⟩ = some (.int .i64 k.1) ∧ w.cell? ⟨g, 1, none⟩ = some (.int .i64 k.2.1) ∧ w.cell? ⟨g, 2, none⟩ = some (.int .i64 k.2.2.1) ∧ w.cell? ⟨g, 3, none⟩ = some (.int .i64 k.2.2.2) := by
  unfold FourAt at h
  simp [World.cell?, h]
theorem FourAt.at (h : FourAt w g k) : ∀ i, i < 4 → w.cell? ⟨g, i, none⟩ = some (.int .i64 (k.get i)) := by
  obtain ⟨h0, h1, h2, h3⟩ := h.cells
  intro i hi
  match i, hi with
  | 0, _ => exact h0
  | 1, _ => exact h1
  | 2, _ => exact h2
  | 3, _ => exact h3
theorem FourAt.free (h : FourAt w g k) : ∀ i, w.frozen? ⟨g, i, none⟩ = false := by
  intro o
  unfold FourAt at h
  simp [World.frozen?, h]
theorem FourAt.set (h : FourAt w g k) (i : Nat) (hi : i < 4) (v : Nat) : FourAt (w.setCell ⟨g, i, none⟩ (.int .i64 v)) g (k.set v i) := by
  unfold FourAt at h ⊢
  match i, hi with
  | 0, _ => simp [World.setCell, Array.getElem?_modify, h, K4.set]
  | 1, _ => simp [World.setCell, Array.getElem?_modify, h, K4.set]
  | 2, _ => simp [World.setCell, Array.getElem?_modify, h, K4.set]
  | 3, _ => simp [World.setCell, Array.getElem?_modify, h, K4.set]
theorem FourAt.move (h : FourAt w g k) (hw : w'.heap[g]? = w.heap[g]?) : FourAt w' g k := hw.trans h
theorem FourAt.grew (h : FourAt w g k) (hf : Grew w w') : FourAt w' g k := h.move (frm_lt hf.1 _ h.lt)
theorem FourAt.new (w : World) (k : K4) : FourAt (w.alloc (.cells #[.int .i64 k.1, .int .i64 k.2.1, .int .i64 k.2.2.1, .int .i64 k.2.2.2] 57)) w.heap.size k := by
  show (w.heap.push _)[w.heap.size]? = _
  simp
end
/-- What the finder reads of a valid automaton at a symbol. -/
theorem au_sym {a : Au} (h : a.ok = true) {s : Nat} (hs : s < a.ranks.length) : a.rankAt s ≤ 4 ∧ ((a.ranks[s] : Int) = a.rankAt s) ∧ ∀ q (hq : q < a.moves.length), ∃ hm : s < (a.moves[q]).length, (a.moves[q])[s] = a.altsAt s q ∧ (a.altsAt s q).length ≤ 12 ∧
    ∀ l ∈ a.altsAt s q, l.length ≤ 24 ∧ ∀ x ∈ l, (0 ≤ x.1 ∧ x.1 < a.rankAt s) ∧ 0 ≤ x.2 ∧ x.2 < 6 := by
  obtain ⟨h1, _, h3, _, _, h6⟩ := ok_parts h
  obtain ⟨hr1, hr2⟩ := ranksOk_parts h1
  have hr := hr2 _ (List.getElem_mem hs)
  have he : a.rankAt s = (a.ranks[s]).toNat := by unfold Au.rankAt; simp [hs]
  have he2 : ((a.ranks[s] : Int) = a.rankAt s) := by rw [he]; omega
  refine ⟨by omega, he2, fun q hq => ?_⟩
  obtain ⟨hl, hsy⟩ := h6 _ (List.getElem_mem hq)
  have hm : s < (a.moves[q]).length := by omega
  have ha : a.altsAt s q = (a.moves[q])[s] := by unfold Au.altsAt; simp [hq, hm]
  refine ⟨hm, ha.symm, ?_⟩
  obtain ⟨g1, _, g3⟩ := symOk_parts (hsy s hm hs)
  rw [ha]
  refine ⟨g1, fun l hl2 => ⟨(g3 l hl2).1, fun x hx => ?_⟩⟩
  obtain ⟨x1, x2, x3, x4⟩ := (g3 l hl2).2.2 x hx
  unfold Au.n at x4
  rw [he2] at x2
  exact ⟨⟨x1, x2⟩, x3, by omega⟩
theorem or_i64 (a b : Nat) (ha : a < 64) (hb : b < 64) : bits .or .i64 (a : Int) (b : Int) = ((a ||| b : Nat) : Int) := by
  have hx : a ||| b < 2 ^ 6 := Nat.or_lt_two_pow (by omega) (by omega)
  have h1 : (BitVec.ofInt 64 (a : Int)).toNat = a := by
    rw [BitVec.ofInt_natCast, BitVec.toNat_ofNat]; exact Nat.mod_eq_of_lt (by omega)
  have h2 : (BitVec.ofInt 64 (b : Int)).toNat = b := by
    rw [BitVec.ofInt_natCast, BitVec.toNat_ofNat]; exact Nat.mod_eq_of_lt (by omega)
  show IntKind.i64.wrap ((BitVec.ofInt 64 (a : Int) ||| BitVec.ofInt 64 (b : Int)).toNat : Int) = _
  rw [BitVec.toNat_or, h1, h2]
  exact IntWalk.i64_in _ (by omega)
theorem shl_i64 : ∀ s, s < 6 → IntKind.i64.wrap ((2 : Int) ^ s) = ((2 ^ s : Nat) : Int) ∧ 2 ^ s < 64 := by decide
theorem grew_old {w w1 : World} (h : Grew w w1) : (∀ b o, b < w.heap.size → w1.cell? ⟨b, o, none⟩ = w.cell? ⟨b, o, none⟩) ∧ (∀ b o, b < w.heap.size → w1.frozen? ⟨b, o, none⟩ = w.frozen? ⟨b, o, none⟩) :=
  ⟨fun b o hb => World.cell?_of_block (frm_lt h.1 b hb), fun b o hb => by unfold World.frozen?; rw [frm_lt h.1 b hb]⟩
theorem slice_tail {w : World} {S : Nat → Prop} {r : Int → List Value → Prop} {x : Int} {xs : List Int} {b o e : Nat} (h : Sl S w 1 r (x :: xs) (.slice (some ⟨b, o, none⟩) (xs.length + 1) e)) :
    ∃ A, (∀ w', (Instr.slice 22 (.slice (some ⟨b, o, none⟩) (xs.length + 1) e) (some (.int .i64 1)) none none).run Tryz.prog w' = .ok (.slice A xs.length (e - 1)) w') ∧ Sl S w 1 r xs (.slice A xs.length (e - 1)) := by
  obtain ⟨A', c, he, hc, hm, hp⟩ := h
  injection he with h1 h2 h3
  subst h3
  refine ⟨if e = 1 then some ⟨b, o, none⟩ else some ⟨b, o + 1, none⟩, fun w' => ?_, ?_⟩
  · simp at hc
    have hc1 : 1 ≤ e := by omega
    have hs1 := Tryz.sizeOf3 w'
    by_cases h1 : e = 1
    · simp [Instr.slice, run_underlying Tryz.underlying22, Instr.sliceBounds, Instr.sliceBound, asIntOf, h1, hs1]
      intro h; omega
    · simp [Instr.slice, run_underlying Tryz.underlying22, Instr.sliceBounds, Instr.sliceBound, asIntOf, h1, hs1, hc1, Addr.add]
      intro h; omega
  · refine ⟨_, _, rfl, by simp at hc; omega, by simp at hm; omega, fun h0 => ?_⟩
    obtain ⟨b', o', ha, hb, hcs⟩ := hp (by simp)
    rw [← h1] at ha
    injection ha with ha
    injection ha with e1 e2 _
    subst e1 e2
    refine ⟨b, o + 1, if_neg (by simp at hc; omega), hb, fun i hi => ?_⟩
    obtain ⟨cs, q1, q2, q3⟩ := hcs (i + 1) (by simp; omega)
    exact ⟨cs, q1, fun j hj => by rw [← q2 j hj]; congr 2; omega, q3⟩
theorem zero_made (w : World) : (zeroValue 59).run Tryz.prog w = .ok (madeV noMade) w := by kernel_rfl
end Go.Proofs.YtjpdmncafacmaaaGreatDoor
end
/- The reference's Depth of a tree. -/
section
set_option linter.unusedVariables false
set_option linter.unusedSimpArgs false
namespace Go.Proofs.YtjpdmncafacmaaaGreatDoor
open Go.RowKit

set_option maxRecDepth 20000 in
set_option maxHeartbeats 1000000 in
theorem depth_calls : ∀ (d : Nat) (hd : d ≤ 1000000000) (t : Tr) (w : World) (v : Value) (ht : rdO (TrD d) w t [.int .i64 t.label, v]),
    Calls Tryz.prog 37 #[.agg #[.int .i64 t.label, v]] w (RetD w (.int .i64 (depthTo d t))) := by
  intro d
  induction d with
  | zero => intro _ t w v ht; exact ht.elim
  | succ d ih =>
  intro hd t w v ht
  obtain ⟨v', hv, hlb, hk⟩ := ht
  simp only [List.cons.injEq, and_true, true_and] at hv
  subst hv
  have hK : SlO w 2 (rdO (TrD d)) t.kids v := hk
  obtain ⟨A, c, rfl, hc, hm⟩ := hK.val
  have HIH := Lib.hid (ih (by omega))
  obtain ⟨x0, x1, _, _⟩ := (TwoAt.new w (.int .i64 t.label) (.slice A t.kids.length c) 29).cells
  have hdp : depthTo (d + 1) t = maxL (t.kids.map (depthTo d)) + 1 := rfl
  rw [hdp]
  clear hk ih hdp
  generalize t.kids = ks at *
  generalize t.label = lb at *
  go_enter Tryz.func37, Tryz.ntmps37
  go_wp2_with fail
  go_loopw [3, 9] (fun z i wr => ∃ (k m : Nat), k ≤ ks.length ∧ i = .int .i64 k ∧ z = .int .i64 m ∧ m = maxL ((ks.take k).map (depthTo d)) ∧ m ≤ d ∧ Grew w wr) (fun _ i _ => ks.length - (intOf i).toNat)
  case atStart => exact ⟨0, 0, Nat.zero_le _, rfl, rfl, rfl, Nat.zero_le _, grew_alloc _ _⟩
  case round =>
    obtain ⟨k, m, hk, rfl, rfl, hm1, hmd, hfr⟩ := hrel
    have HM := Lib.hid hm1
    clear hm1
    by_cases hlt : k < ks.length
    · obtain ⟨b, o, p0, p1, rfl, hb, hp0, hp1, hpt⟩ := (hK.frm hfr.1 (stays_rd (moves_tr d))).at2 k hlt
      have HT : Hid (maxL ((ks.take (k + 1)).map (depthTo d)) = max m (depthTo d ks[k])) := by
        unfold Hid
        rw [List.take_succ_eq_append_getElem hlt, List.map_append, HM.out]
        exact maxL_snoc _ _
      have hle := depthTo_le d ks[k]
      generalize ks[k] = y at *
      obtain ⟨rfl, A1, n1, c1, rfl⟩ : p0 = .int .i64 y.label ∧ ∃ A1 n1 c1, p1 = .slice A1 n1 c1 := by
        cases d with
        | zero => exact hpt.elim
        | succ d =>
          obtain ⟨u, h, _, hsl⟩ := hpt
          simp only [List.cons.injEq, and_true] at h
          obtain ⟨h1, rfl⟩ := h
          obtain ⟨A1, c1, h2, _⟩ := hsl.val
          exact ⟨h1, _, _, _, h2⟩
      have hC := Lib.hid (HIH.out y (wr.alloc (.cells #[.int .i64 y.label, .slice A1 n1 c1] 29)) _ (rdO_frm (moves_tr d) (frm_alloc _ _) hpt))
      clear hpt
      generalize depthTo d y = dy at *
      generalize y.label = ly at *
      go_wp2_with fail
      refine hC.out.mono ?_
      rintro e w1 ⟨rfl, hf1⟩
      dsimp only
      go_wp2_with fail
      exact ⟨⟨k + 1, max m dy, by omega, by go_num, by go_num, by rw [HT.out], by omega, grew_trans (grew_then_alloc hfr _) hf1⟩, by simp [intOf]; omega⟩
    · have hke : k = ks.length := by omega
      have h := HM.out
      rw [hke, List.take_length] at h
      rw [← h]
      go_wp2_with fail
      exact bodyPost_ret (results_tmp rfl _ _ _) rfl ⟨by go_num, hfr⟩
end Go.Proofs.YtjpdmncafacmaaaGreatDoor
end
/- tree.measure where the count suffices. -/
section
set_option linter.unusedVariables false
set_option linter.unusedSimpArgs false
namespace Go.Proofs.YtjpdmncafacmaaaGreatDoor
open Go.RowKit

def sizeTo : Nat → Tr → Nat
  | 0, _ => 0
  | d + 1, t => (t.kids.map (sizeTo d)).sum + 1

set_option maxRecDepth 20000 in
set_option maxHeartbeats 1000000 in
theorem measure_calls : ∀ (d : Nat) (hd : d ≤ 1000000000) (t : Tr) (w : World) (v : Value) (g n0 : Nat) (hg : OneAt w g (.int .i64 n0) 3) (hn0 : n0 ≤ 1000000000) (hfit : sizeTo d t ≤ n0) (ht : TrD d (fun b => b < w.heap.size ∧ b ≠ g) w t [.int .i64 t.label, v]),
    Calls Tryz.prog 77 #[.agg #[.int .i64 t.label, v], .pointer (some ⟨g, 0, none⟩)] w fun e w' => e = .returned (.int .i64 (depthTo d t)) ∧ GrewR w w' (some g) ∧ OneAt w' g (.int .i64 ((n0 : Int) - sizeTo d t)) 3 := by
  intro d
  induction d with
  | zero => intro _ t w v g n0 hg hn0 hfit ht; exact ht.elim
  | succ d ih =>
  intro hd t w v g n0 hg hn0 hfit ht
  obtain ⟨v', hv, hlb, hk⟩ := ht
  simp only [List.cons.injEq, and_true, true_and] at hv
  subst hv
  obtain ⟨A, c, rfl, hc, hm⟩ := hk.val
  have HIH := Lib.hid (ih (by omega))
  have hgl := hg.lt
  have hg1 : OneAt (w.alloc (.cells #[.int .i64 t.label, .slice A t.kids.length c] 29)) g (.int .i64 n0) 3 := hg.move (Below.heap_alloc _ _ _ hgl)
  have c0 := hg1.cell
  have f0 := hg1.free
  have hne : w.heap.size ≠ g := by omega
  have hdp : depthTo (d + 1) t = maxL (t.kids.map (depthTo d)) + 1 := rfl
  have hsz : sizeTo (d + 1) t = (t.kids.map (sizeTo d)).sum + 1 := rfl
  rw [hdp, hsz]
  rw [hsz] at hfit
  have e1 : IntKind.i64.wrap ((n0 : Int) - 1) = (n0 : Int) - 1 := IntWalk.i64_in _ (by omega)
  obtain ⟨x0, x1, _, _⟩ := (TwoAt.new w (.int .i64 t.label) (.slice A t.kids.length c) 29).cells
  have HG := Lib.hid hg
  have HK := Lib.hid hk
  clear hk ih hdp hsz hg hg1
  generalize t.kids = ks at *
  generalize t.label = lb at *
  go_enter Tryz.func77, Tryz.ntmps77
  go_wp2_with fail
  go_loopw [5, 16] (fun z i wr => ∃ (k m n : Nat), k ≤ ks.length ∧ i = .int .i64 k ∧ z = .int .i64 m ∧ m = maxL ((ks.take k).map (depthTo d)) ∧ m ≤ d ∧ Hid (n = ((ks.take k).map (sizeTo d)).sum) ∧ n + 1 ≤ n0 ∧ GrewR w wr (some g) ∧ Hid (OneAt wr g (.int .i64 ((n0 : Int) - 1 - n)) 3)) (fun _ i _ => ks.length - (intOf i).toNat)
  case atStart => exact ⟨0, 0, 0, Nat.zero_le _, rfl, rfl, rfl, Nat.zero_le _, rfl, by omega, grewR_trans (grewR_set (grewR_refl _ _) _ _) (grewR_weak (grew_alloc _ _)), show OneAt _ g _ _ from (OneAt.alloc (HG.out.set (.int .i64 ((n0 : Int) - 1))) _).eq (by omega)⟩
  case round =>
    obtain ⟨k, m, n, hk, rfl, rfl, hm1, hmd, hn1, hn2, hfr, hO⟩ := hrel
    have HM := Lib.hid hm1
    clear hm1
    by_cases hlt : k < ks.length
    · have hgw : ∀ q, (q < w.heap.size ∧ q ≠ g) → wr.heap[q]? = w.heap[q]? := fun q hq => hfr.1.block q hq.1 (by simp; exact hq.2)
      have hK : Sl (fun q => q < wr.heap.size ∧ q ≠ g) wr 2 (TrD d (fun q => q < wr.heap.size ∧ q ≠ g) wr) ks (.slice A ks.length c) := Sl.move HK.out (fun q hq => ⟨Nat.lt_of_lt_of_le hq.1 hfr.1.size, hq.2⟩) hgw fun x _ cs h => moves_tr d _ _ _ _ _ _ (fun q hq => ⟨Nat.lt_of_lt_of_le hq.1 hfr.1.size, hq.2⟩) hgw h
      obtain ⟨b, o, p0, p1, rfl, hb, hp0, hp1, hpt⟩ := Sl.at2 hK k hlt
      have HT : Hid (maxL ((ks.take (k + 1)).map (depthTo d)) = max m (depthTo d ks[k])) := by
        unfold Hid
        rw [List.take_succ_eq_append_getElem hlt, List.map_append, HM.out]
        exact maxL_snoc _ _
      have HS : Hid (((ks.take (k + 1)).map (sizeTo d)).sum = n + sizeTo d ks[k]) := by
        unfold Hid
        rw [List.take_succ_eq_append_getElem hlt, List.map_append, List.sum_append, ← hn1.out]
        simp
      have hfit2 : n + sizeTo d ks[k] + 1 ≤ n0 := by
        have h9 : (ks.map (sizeTo d)).sum = ((ks.take (k + 1)).map (sizeTo d)).sum + ((ks.drop (k + 1)).map (sizeTo d)).sum := by rw [← List.sum_append, ← List.map_append, List.take_append_drop]
        rw [HS.out] at h9
        omega
      have hle := depthTo_le d ks[k]
      generalize ks[k] = y at *
      obtain ⟨rfl, A1, n1, c1, rfl⟩ : p0 = .int .i64 y.label ∧ ∃ A1 n1 c1, p1 = .slice A1 n1 c1 := by
        cases d with
        | zero => exact hpt.elim
        | succ d =>
          obtain ⟨u, h, _, hsl⟩ := hpt
          simp only [List.cons.injEq, and_true] at h
          obtain ⟨h1, rfl⟩ := h
          obtain ⟨A1, c1, h2, _⟩ := hsl.val
          exact ⟨h1, _, _, _, h2⟩
      have hO1 : OneAt (wr.alloc (.cells #[.int .i64 y.label, .slice A1 n1 c1] 29)) g (.int .i64 ((n0 - 1 - n : Nat) : Int)) 3 := (hO.out.alloc _).eq (by omega)
      have hc0 := (hO.out.alloc (.cells #[.int .i64 y.label, .slice A1 n1 c1] 29)).cell
      have hC := Lib.hid (HIH.out y _ _ g (n0 - 1 - n) hO1 (by omega) (by omega) (moves_tr d _ _ _ _ _ _ (fun q hq => ⟨by have := hq.1; simp; omega, hq.2⟩) (fun q hq => Below.heap_alloc _ _ _ hq.1) hpt))
      have e3 : ¬ ((n0 : Int) - 1 - n < 0) := by omega
      clear hpt hO1 hK
      generalize depthTo d y = dy at *
      generalize sizeTo d y = sy at *
      generalize y.label = ly at *
      go_wp2_with fail
      refine hC.out.mono ?_
      rintro e w1 ⟨rfl, hf1, hO7⟩
      have HO7 := Lib.hid (hO7.eq (show (((n0 - 1 - n : Nat) : Int) - sy) = (n0 : Int) - 1 - ((n + sy : Nat) : Int) by omega))
      clear hO7
      dsimp only
      go_wp2_with fail
      exact ⟨⟨k + 1, max m dy, n + sy, by omega, by go_num, by go_num, by rw [HT.out], by omega, HS.out.symm, by omega, grewR_trans (grewR_trans hfr (grewR_weak (grew_alloc _ _))) hf1, HO7⟩, by simp [intOf]; omega⟩
    · have hke : k = ks.length := by omega
      have h := HM.out
      have h2 := hn1.out
      rw [hke, List.take_length] at h h2
      have hO2 := Lib.hid (hO.out.eq (show (n0 : Int) - 1 - n = n0 - ((n + 1 : Nat) : Int) by omega))
      go_wp2_with fail
      refine bodyPost_ret (results_tmp rfl _ _ _) rfl ⟨?_, hfr, ?_⟩
      · rw [← h]; go_num
      · rw [← h2]; exact hO2.out
end Go.Proofs.YtjpdmncafacmaaaGreatDoor
end
/- tree.Size. -/
section
set_option linter.unusedVariables false
set_option linter.unusedSimpArgs false
namespace Go.Proofs.YtjpdmncafacmaaaGreatDoor
open Go.RowKit

set_option maxRecDepth 20000 in
set_option maxHeartbeats 1000000 in
theorem size_calls (d : Nat) (hd : d ≤ 1000000000) (t : Tr) (w : World) (v : Value) (hfit : sizeTo d t ≤ 20000) (ht : rdO (TrD d) w t [.int .i64 t.label, v]) :
    Calls Tryz.prog 34 #[.agg #[.int .i64 t.label, v]] w fun e w' => e = .returned (.tuple #[.int .i64 (sizeTo d t), .int .i64 (depthTo d t)]) ∧ Grew w w' := by
  obtain ⟨A1, n1, c1, rfl⟩ : ∃ A1 n1 c1, v = .slice A1 n1 c1 := by
    cases d with
    | zero => exact ht.elim
    | succ d =>
      obtain ⟨u, h, _, hsl⟩ := ht
      simp only [List.cons.injEq, and_true, true_and] at h
      subst h
      obtain ⟨A1, c1, h2, _⟩ := hsl.val
      exact ⟨_, _, _, h2⟩
  obtain ⟨w2, hw2⟩ : ∃ w2 : World, w2 = (w.alloc (.cells #[.int .i64 t.label, .slice A1 n1 c1] 29)).alloc (.cells #[.int .i64 20000] 3) := ⟨_, rfl⟩
  have hg2 : Grew w w2 := by rw [hw2]; exact grew_then_alloc (grew_alloc _ _) _
  have hO : OneAt w2 (w.heap.size + 1) (.int .i64 ((20000 : Nat) : Int)) 3 := by
    rw [hw2]
    have h := OneAt.new (w.alloc (.cells #[.int .i64 t.label, .slice A1 n1 c1] 29)) (.int .i64 20000) 3
    rw [show (w.alloc (.cells #[.int .i64 t.label, .slice A1 n1 c1] 29)).heap.size = w.heap.size + 1 by simp] at h
    exact h
  have hC := Lib.hid (measure_calls d hd t w2 (.slice A1 n1 c1) (w.heap.size + 1) 20000 hO (by omega) hfit (moves_tr d _ _ _ _ _ _ (fun q hq => ⟨Nat.lt_of_lt_of_le hq hg2.1.size, by have : q < w.heap.size := hq; omega⟩) (frm_lt hg2.1) ht))
  have HG2 := Lib.hid hg2
  have e1 : IntKind.i64.wrap ((20000 : Int) - ((20000 : Int) - sizeTo d t)) = sizeTo d t := by
    rw [show (20000 : Int) - ((20000 : Int) - sizeTo d t) = sizeTo d t by omega]
    exact IntWalk.i64_in _ (by omega)
  have e2 : decide ((20000 : Int) - sizeTo d t < 0) = false := by simp; omega
  obtain ⟨x0, x1, _, _⟩ := (TwoAt.new w (.int .i64 t.label) (.slice A1 n1 c1) 29).cells
  have hlow : w.heap.size + 1 ≥ w.heap.size := by omega
  clear hg2 hO ht
  generalize depthTo d t = dp at *
  generalize sizeTo d t = sz at *
  generalize t.label = lb at *
  subst hw2
  go_enter Tryz.func34, Tryz.ntmps34
  go_wp2_with fail
  refine hC.out.mono ?_
  rintro e w3 ⟨rfl, hf3, hO3⟩
  have c0 := hO3.cell
  have hG3 : Grew w w3 := grew_new HG2.out hlow hf3
  have c1' : w3.cell? ⟨w.heap.size + 1, 0, none⟩ = some (.int .i64 ((20000 : Int) - sz)) := c0
  clear c0 hO3 hf3
  dsimp only
  go_wp2_with fail
  exact bodyPost_ret (results_tmp2 rfl _ _ _) rfl ⟨by go_num, hG3⟩
end Go.Proofs.YtjpdmncafacmaaaGreatDoor
end
