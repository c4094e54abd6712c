/- write, Text, Put: the strings of types. -/
import Derived.Test.YtmdgoalekkkpnaaDoorBuild
import Derived.Test.YtmdgoalekkkpnaaDoorShelf
import Derived.Test.YtmdgoalekkkpnaaDoorStrong
import Derived.Lib.AppendIntMem
import Derived.Lib.SmallJoins
import Derived.Test.YtmdgoalekkkpnaaDoorRead
set_option linter.unusedVariables false
set_option linter.unusedSimpArgs false
namespace Go.Proofs.YtmdgoalekkkpnaaDoor
open Go.RowKit

/- The string of a type. -/
mutual
def Ty.text : Ty → List UInt8
  | .mk s a => Ty.textRows a ++ Lib.itoa s
def Ty.textRows : List (List Ty) → List UInt8
  | [] => []
  | x :: xs => 91 :: (Ty.textSet x ++ 93 :: Ty.textRows xs)
def Ty.textSet : List Ty → List UInt8
  | [] => []
  | x :: xs => Ty.text x ++ Ty.textTail xs
def Ty.textTail : List Ty → List UInt8
  | [] => []
  | x :: xs => 44 :: (Ty.text x ++ Ty.textTail xs)
end
theorem Ty.textRows_append (a b : List (List Ty)) : Ty.textRows (a ++ b) = Ty.textRows a ++ Ty.textRows b := by
  induction a with
  | nil => simp [Ty.textRows]
  | cons x a ih => simp [Ty.textRows, ih]
theorem Ty.textTail_append (a b : List Ty) : Ty.textTail (a ++ b) = Ty.textTail a ++ Ty.textTail b := by
  induction a with
  | nil => simp [Ty.textTail]
  | cons x a ih => simp [Ty.textTail, ih]
theorem Ty.textSet_snoc (a : List Ty) (x : Ty) : Ty.textSet (a ++ [x]) = Ty.textSet a ++ (if a.length = 0 then [] else [44]) ++ Ty.text x := by
  cases a with
  | nil => simp [Ty.textSet, Ty.textTail]
  | cons y a => simp [Ty.textSet, Ty.textTail_append, Ty.textTail]
theorem Ty.textRows_take (a : List (List Ty)) (k : Nat) (h : k < a.length) : Ty.textRows (a.take (k + 1)) = Ty.textRows (a.take k) ++ 91 :: (Ty.textSet a[k] ++ [93]) := by
  rw [List.take_succ_eq_append_getElem h, Ty.textRows_append]
  simp [Ty.textRows]
theorem Ty.textSet_take (a : List Ty) (k : Nat) (h : k < a.length) : Ty.textSet (a.take (k + 1)) = Ty.textSet (a.take k) ++ (if k = 0 then [] else [44]) ++ Ty.text a[k] := by
  rw [List.take_succ_eq_append_getElem h, Ty.textSet_snoc, List.length_take_of_le (by omega)]
theorem Ty.textRows_len (a : List (List Ty)) (k : Nat) : (Ty.textRows (a.take k)).length ≤ (Ty.textRows a).length := by
  have := congrArg List.length (Ty.textRows_append (a.take k) (a.drop k))
  rw [List.take_append_drop, List.length_append] at this
  omega
theorem Ty.textSet_len : ∀ (k : Nat) (a : List Ty), (Ty.textSet (a.take k)).length ≤ (Ty.textSet a).length := by
  intro k a
  cases a with
  | nil => simp
  | cons x a =>
    cases k with
    | zero => simp [Ty.textSet]
    | succ k =>
      have := congrArg List.length (Ty.textTail_append (a.take k) (a.drop k))
      rw [List.take_append_drop, List.length_append] at this
      simp [Ty.textSet]
      omega

/-- The builder holds these bytes. -/
abbrev BldF (B b : Nat) (l : List UInt8) (w : World) : Prop := Lib.IsBuilderF 77 5 B b (Lib.byteCells l) w
theorem bld_byte (B b : Nat) (l : List UInt8) (c : UInt8) (q : Int) (hq : q = c.toNat) (w : World) (h : BldF B b l w) (hlen : l.length + 1 ≤ 140737488355328) (hBw : B ≤ w.heap.size) :
    Calls Tryd.prog 95 #[.pointer (some ⟨b, 0, none⟩), .int .u8 q] w fun e w' => e = .returned .nilIface ∧ BldF B b (l ++ [c]) w' ∧ Below B w w' ∧ Lib.OthersKept 5 (some b) w w' := by
  refine (byte_calls B b _ q w h (by rw [Lib.byteCells_length]; exact hlen) hBw).mono ?_
  rintro e w' ⟨rfl, h1, h2, h3⟩
  refine ⟨rfl, .inr ?_, h2, h3⟩
  rw [Lib.byteCells_append]
  simpa [Lib.byteCells, hq] using h1
theorem bld_string (B b : Nat) (l s : List UInt8) (w : World) (h : BldF B b l w) (hlen : l.length + s.length ≤ 140737488355328) (hBw : B ≤ w.heap.size) :
    Calls Tryd.prog 96 #[.pointer (some ⟨b, 0, none⟩), .string ⟨s.toArray⟩] w fun e w' => e = .returned (.tuple #[.int .i64 s.length, .nilIface]) ∧ BldF B b (l ++ s) w' ∧ Below B w w' ∧ Lib.OthersKept 5 (some b) w w' := by
  have hs : (⟨s.toArray⟩ : ByteArray).size = s.length := by
    show s.toArray.size = _
    simp
  refine (string_calls B b _ ⟨s.toArray⟩ w h (by rw [Lib.byteCells_length, hs]; exact hlen) hBw).mono ?_
  rintro e w' ⟨rfl, h1, h2, h3⟩
  rw [hs]
  refine ⟨rfl, .inr ?_, h2, h3⟩
  rw [Lib.byteCells_append]
  exact h1

theorem grow_frm (w : World) (n : Nat) (os : Array Obj) : w.grownBy (Go.Sort.grow (w.drewN n) os) none := by
  refine ⟨rfl, rfl, rfl, ?_, fun i hi _ => ?_⟩
  · show w.heap.size ≤ (w.heap ++ os).size
    simp
  · show (w.heap ++ os)[i]? = _
    rw [Array.getElem?_append_left hi]
theorem bld_frm {B b : Nat} {l : List UInt8} {w w' : World} (h : BldF B b l w) (hg : w.grownBy w' none) : BldF B b l w' := by
  have key : ∀ p, Lib.BuilderAtF 77 5 B b p (Lib.byteCells l) w → Lib.BuilderAtF 77 5 B b p (Lib.byteCells l) w' := fun p ⟨hB, v, hb, ho, hn⟩ =>
    ⟨hB, v, (frm_lt hg _ (Array.getElem?_eq_some_iff.1 hb).1).trans hb, ho.kept hg (by cases v.ownBlock <;> simp), hn⟩
  exact h.imp (key _) (key _)
theorem frm_below {w w' : World} {B : Nat} (hg : w.grownBy w' none) (hB : B ≤ w.heap.size) : Below B w w' := ⟨hg.os, hg.tape, hg.output, hg.size, fun k hk => frm_lt hg k (by omega)⟩
theorem frm_others {w w' : World} {e : TypeId} {b : Option Nat} (hg : w.grownBy w' none) : Lib.OthersKept e b w w' := fun k o hk _ _ => (frm_lt hg k (Array.getElem?_eq_some_iff.1 hk).1).trans hk
/-- The table that Itoa reads, in every world that is this one below B. -/
abbrev Tab (B : Nat) (w : World) : Prop := Lib.TabBelow Tryd.prog B w "internal/strconv.uint64pow10" .u64 Lib.pow10Tab
theorem Tab.step {B : Nat} {w w1 : World} (h : Tab B w) (hb : Below B w w1) : Tab B w1 := fun w' h' => h w' (hb.trans h')
theorem others_two {b g : Nat} {w w' : World} {v0 v1 : Value} (h : Lib.OthersKept 5 (some b) w w') (ht : TwoAt w g v0 v1 24) (hg : g ≠ b) : TwoAt w' g v0 v1 24 :=
  h _ _ ht (by simpa using hg) (by intro c fz e; injection e with _ e _; exact absurd e (by decide))

set_option maxHeartbeats 1000000 in
set_option maxRecDepth 100000 in
theorem write_calls : ∀ (t : Ty) (B b : Nat) (l : List UInt8) (w : World) (v0 v1 : Value), TyR (fun x => x < B) w t [v0, v1] → BldF B b l w → B ≤ w.heap.size → Tab B w →
    l.length + t.text.length ≤ 140737488355328 →
    Calls Tryd.prog 72 #[.pointer (some ⟨b, 0, none⟩), .agg #[v0, v1]] w fun e w' => e = .returned (.tuple #[]) ∧ BldF B b (l ++ t.text) w' ∧ Below B w w' ∧ Lib.OthersKept 5 (some b) w w' := by
  intro t
  induction t using Ty.ind with
  | h st args ih =>
    intro B b l w v0 v1 ht hb hBw htab hlen
    rw [TyR_mk] at ht
    obtain ⟨v, hcs, h1, h2, hs⟩ := ht
    obtain ⟨rfl, rfl⟩ : v0 = .int .i64 st ∧ v1 = v := by simpa using hcs
    obtain ⟨A, c, rfl, hc, hm⟩ := hs.val
    clear hcs
    have IH := Lib.hid ih
    clear ih
    have HT := Lib.hid htab
    clear htab
    have hbl : b < w.heap.size := by rcases hb with h | h <;> exact h.lt
    have htx : (Ty.mk st args).text = Ty.textRows args ++ Lib.itoa st := by rw [Ty.text]
    have HTX := Lib.hid htx
    rw [htx, List.length_append] at hlen
    clear htx
    go_enter Tryd.func72, Tryd.ntmps72
    go_wp2_with fail
    go_loopw [11] (fun i wr => ∃ k : Nat, k ≤ args.length ∧ i = .int .i64 k ∧ Below B w wr ∧ Lib.OthersKept 5 (some b) w wr ∧ BldF B b (l ++ Ty.textRows (args.take k)) wr ∧ TwoAt wr w.heap.size (.int .i64 st) (.slice A args.length c) 24) (fun i _ => args.length - (intOf i).toNat)
    case atStart => exact ⟨0, Nat.zero_le _, rfl, (Below.refl _ _).alloc hBw _, (Lib.OthersKept.refl _ _ _).alloc _, by simpa [Ty.textRows] using hb.alloc _, TwoAt.new _ _ _ _⟩
    case round =>
      obtain ⟨k, hk, rfl, hbw, hok, hbd, hbox⟩ := hrel
      obtain ⟨x1, x2, x3, x4⟩ := hbox.cells
      have xl := hbox.lt
      by_cases hlt : k < args.length
      · have hmv : ∀ b, b < B → wr.heap[b]? = w.heap[b]? := fun b hb => hbw.block b hb
        obtain ⟨o, p, q, rfl, ho, hq, hqs⟩ := (hs.move (fun _ h => h) hmv (fun x _ cs h => SetR.move (S' := fun x => x < B) (w' := wr) (fun _ h => h) hmv h)).at1 k hlt
        obtain ⟨q', hq', hqs⟩ := hqs
        obtain rfl : q = q' := by simpa using hq'
        obtain ⟨A2, c2, rfl, hc2, hm2⟩ := hqs.val
        clear hq'
        have HR := Lib.hid (Ty.textRows_take args k hlt)
        have hl1 := Ty.textRows_len args (k + 1)
        rw [HR.out] at hl1
        simp only [List.length_append, List.length_cons, List.length_nil] at hl1
        have hma := List.getElem_mem hlt
        generalize args[k] = ts at *
        go_wp2_with fail
        refine (bld_byte B b _ 91 91 rfl wr hbd (by rw [List.length_append]; omega) (Nat.le_trans hBw hbw.size)).mono ?_
        rintro e w1 ⟨rfl, hb1, hw1, hk1⟩
        have hbw1 := hbw.trans hw1
        have hok1 := hok.trans hk1
        have hbox1 := others_two hk1 hbox (by omega)
        clear x1 x2 x3 x4 xl hq hbox hbd
        go_wp2_with fail
        obtain ⟨wo, rfl⟩ : ∃ wo : World, wo = wr := ⟨_, rfl⟩
        go_loopw [19] (fun i wr => ∃ j : Nat, j ≤ ts.length ∧ i = .int .i64 j ∧ Below B w wr ∧ Lib.OthersKept 5 (some b) w wr ∧ BldF B b (l ++ Ty.textRows (args.take k) ++ [91] ++ Ty.textSet (ts.take j)) wr ∧ TwoAt wr w.heap.size (.int .i64 st) (.slice (some ⟨o, p, none⟩) args.length c) 24) (fun i _ => ts.length - (intOf i).toNat)
        case atStart => exact ⟨0, Nat.zero_le _, rfl, hbw1, hok1, by simpa [Ty.textSet] using hb1, hbox1⟩
        case round =>
          obtain ⟨j, hj, rfl, hbw2, hok2, hbd2, hbox2⟩ := hrel
          by_cases hlt2 : j < ts.length
          · have hmv2 : ∀ b, b < B → wr.heap[b]? = wo.heap[b]? := fun b hb => (hbw2.block b hb).trans (hbw.block b hb).symm
            obtain ⟨o2, p2, q0, q1, rfl, ho2, hq0, hq1, hqt⟩ := (hqs.move (fun _ h => h) hmv2 (fun x _ cs h => TyR.move (S' := fun x => x < B) (w' := wr) (fun _ h => h) hmv2 h)).at2 j hlt2
            obtain ⟨s1, A1, n1, c1, rfl, rfl⟩ := hqt.vals
            have HS := Lib.hid (Ty.textSet_take ts j hlt2)
            have hl2 := Ty.textSet_len (j + 1) ts
            rw [HS.out] at hl2
            have hmt := List.getElem_mem hlt2
            generalize ts[j] = t at *
            have hall : ∀ x : Nat, (Below B wr (wr.alloc (.cells #[.int .i64 s1, .slice A1 n1 c1] 24))) := fun _ => (Below.refl _ _).alloc (Nat.le_trans hBw hbw2.size) _
            have hk3 : Lib.OthersKept 5 (some b) wr (wr.alloc (.cells #[.int .i64 s1, .slice A1 n1 c1] 24)) := (Lib.OthersKept.refl _ _ _).alloc _
            have hbs1 : B ≤ wr.heap.size := Nat.le_trans hBw hbw2.size
            have hsz : B ≤ (wr.alloc (.cells #[.int .i64 s1, .slice A1 n1 c1] 24)).heap.size := by simp; omega
            have hall1 := hbw2.trans (hall 0)
            by_cases hj0 : j = 0
            · have hjn : j ≤ 0 := by omega
              rw [if_pos hj0] at hl2
              simp only [List.append_nil, List.length_append] at hl2
              have HJ := Lib.hid hj0
              clear hj0
              go_wp2_with fail
              refine (IH.out _ hma _ hmt B b _ _ _ _ (hqt.move (fun _ h => h) (fun b hb => (hall 0).block b hb)) (hbd2.alloc _) hsz (HT.out.step hall1) (by simp only [List.length_append, List.length_cons, List.length_nil]; omega)).mono ?_
              rintro e w5 ⟨rfl, hb5, hw5, hk5⟩
              go_wp2_with fail
              refine ⟨⟨j + 1, by omega, by go_num, hall1.trans hw5, (hok2.trans hk3).trans hk5, ?_, others_two hk5 (hbox2.alloc _) (by omega)⟩, by simp [intOf]; omega⟩
              rw [HS.out, if_pos HJ.out]
              simpa using hb5
            · have hjp : 0 < j := by omega
              rw [if_neg hj0] at hl2
              simp only [List.length_append, List.length_cons, List.length_nil] at hl2
              have HJ := Lib.hid hj0
              clear hj0
              go_wp2_with fail
              refine (bld_byte B b _ 44 44 rfl _ (hbd2.alloc _) (by simp only [List.length_append, List.length_cons, List.length_nil]; omega) hsz).mono ?_
              rintro e w4 ⟨rfl, hb4, hw4, hk4⟩
              have hbl2 : b < wr.heap.size := by rcases hbd2 with h | h <;> exact h.lt
              have hbx := others_two hk4 (TwoAt.new wr (.int .i64 s1) (.slice A1 n1 c1) 24) (by omega)
              obtain ⟨x1, x2, x3, x4⟩ := hbx.cells
              have xl := hbx.lt
              go_wp2_with fail
              refine (IH.out _ hma _ hmt B b _ _ _ _ (hqt.move (fun _ h => h) (fun b hb => ((hall 0).trans hw4).block b hb)) hb4 (Nat.le_trans hsz hw4.size) (HT.out.step (hall1.trans hw4)) (by simp only [List.length_append, List.length_cons, List.length_nil]; omega)).mono ?_
              rintro e w5 ⟨rfl, hb5, hw5, hk5⟩
              go_wp2_with fail
              refine ⟨⟨j + 1, by omega, by go_num, (hall1.trans hw4).trans hw5, ((hok2.trans hk3).trans hk4).trans hk5, ?_, others_two hk5 (others_two hk4 (hbox2.alloc _) (by omega)) (by omega)⟩, by simp [intOf]; omega⟩
              rw [HS.out, if_neg HJ.out]
              simpa using hb5
          · obtain rfl : j = ts.length := by omega
            rw [List.take_length] at hbd2
            go_wp2_with fail
            refine (bld_byte B b _ 93 93 rfl _ hbd2 (by simp only [List.length_append, List.length_cons, List.length_nil]; omega) (Nat.le_trans hBw hbw2.size)).mono ?_
            rintro e w4 ⟨rfl, hb4, hw4, hk4⟩
            go_wp2_with fail
            refine ⟨⟨k + 1, by omega, by go_num, hbw2.trans hw4, hok2.trans hk4, ?_, others_two hk4 hbox2 (by omega)⟩, by simp [intOf]; omega⟩
            rw [HR.out]
            simpa using hb4
      · obtain rfl : k = args.length := by omega
        rw [List.take_length] at hbd
        go_wp2_with fail
        refine (Tryd.strconv_Itoa st h1 h2 wr (HT.out.step hbw).here).mono ?_
        rintro e w4 ⟨rfl, n4, os4, rfl⟩
        have hg4 := grow_frm wr n4 os4
        generalize Go.Sort.grow (wr.drewN n4) os4 = w4 at *
        have hb4 := bld_frm hbd hg4
        have hBr := Nat.le_trans hBw hbw.size
        go_wp2_with fail
        refine (bld_string B b _ (Lib.itoa st) _ hb4 (by rw [List.length_append]; omega) (Nat.le_trans hBr hg4.size)).mono ?_
        rintro e w5 ⟨rfl, hb5, hw5, hk5⟩
        go_wp2_with fail
        refine bodyPost_end (results_none rfl _ _ _) rfl ⟨rfl, ?_, (hbw.trans (frm_below hg4 hBr)).trans hw5, (hok.trans (frm_others hg4)).trans hk5⟩
        rw [HTX.out]
        simpa using hb5

theorem text_calls (t : Ty) (w : World) (v0 v1 : Value) (ht : TyO w t [v0, v1]) (htab : Lib.TabIs Tryd.prog w "internal/strconv.uint64pow10" .u64 Lib.pow10Tab) (hlen : t.text.length ≤ 140737488355328) :
    Calls Tryd.prog 47 #[.agg #[v0, v1]] w (Ret w (.string (bs t.text))) := by
  obtain ⟨st, A, n, c, rfl, rfl⟩ := ht.vals
  have HT : Hid (Tab w.heap.size w) := Lib.tabBelow_of_tabIs htab
  clear htab
  go_enter Tryd.func47, Tryd.ntmps47
  go_wp2_with fail
  have hW0 : w.grownBy (w.alloc (.cells #[.int .i64 st, .slice A n c] 24)) none := frm_alloc _ _
  have hW : w.grownBy ((w.alloc (.cells #[.int .i64 st, .slice A n c] 24)).alloc (.cells #[.pointer none, .slice none 0 0] 77)) none := frm_then_alloc (frm_alloc _ _) _
  have hbd : BldF w.heap.size (w.heap.size + 1) [] ((w.alloc (.cells #[.int .i64 st, .slice A n c] 24)).alloc (.cells #[.pointer none, .slice none 0 0] 77)) :=
    .inl ⟨by omega, .slice none 0 0, TwoAt.new2 _ _ _ _ _, World.ownsRowF_nil _ _ _ _, by simp [Value.ownBlock]⟩
  refine (write_calls t w.heap.size (w.heap.size + 1) [] _ _ _ (ht.move (fun _ h => h) (frm_lt hW)) hbd hW.size (HT.out.step (frm_below hW (Nat.le_refl _))) (by simpa using hlen)).mono ?_
  rintro e w1 ⟨rfl, hb1, hw1, hk1⟩
  have hsz := Nat.le_trans hW.size hw1.size
  have hlow : Below w.heap.size w w1 := (frm_below hW (Nat.le_refl _)).trans hw1
  rw [List.nil_append] at hb1
  go_wp2_with fail
  refine (Tryd.Builder_String_any_k w.heap.size (w.heap.size + 1) t.text _ hb1 hsz).mono ?_
  rintro e w2 ⟨rfl, hb2, hw2, hk2⟩
  have hlow2 := hlow.trans hw2
  go_wp2_with fail
  exact bodyPost_ret (results_tmp rfl _ _ _) rfl ⟨rfl, ⟨hlow2.os, hlow2.tape, hlow2.output, hlow2.size, fun k hk _ => hlow2.block k hk⟩⟩

/-- What Put returns. -/
def Ty.put (t : Ty) : List UInt8 × Int := if t.large then ([], 12) else if 65536 < t.text.length then ([], 3) else (t.text, 0)

set_option maxRecDepth 20000 in
theorem put_calls (t : Ty) (w : World) (v0 v1 : Value) (ht : TyO w t [v0, v1]) (htab : Lib.TabIs Tryd.prog w "internal/strconv.uint64pow10" .u64 Lib.pow10Tab) (hlen : t.text.length ≤ 140737488355328) :
    Calls Tryd.prog 15 #[.agg #[v0, v1]] w (Ret w (.tuple #[.string (bs (Ty.put t).1), .int .i64 (Ty.put t).2])) := by
  obtain ⟨st, A, n, c, rfl, rfl⟩ := ht.vals
  have HT : Hid (Tab w.heap.size w) := Lib.tabBelow_of_tabIs htab
  clear htab
  have hlen' : t.text.length ≤ 9223372036854775807 := by omega
  go_enter Tryd.func15, Tryd.ntmps15
  go_wp2_with fail
  have hf0 := frm_alloc w (.cells #[.int .i64 st, .slice A n c] 24)
  refine (large_calls t _ _ _ (stays_ty _ _ _ _ hf0 ht)).mono ?_
  rintro e w1 ⟨rfl, hf1⟩
  have hf01 := frm_trans hf0 hf1
  have hbx := (TwoAt.new w (.int .i64 st) (.slice A n c) 24).move (frm_lt hf1 _ (by simp))
  obtain ⟨x1, x2, x3, x4⟩ := hbx.cells
  cases hlg : t.large
  · have HL := Lib.hid hlg
    clear hlg
    go_wp2_with fail
    refine (text_calls t _ _ _ (stays_ty _ _ _ _ hf01 ht) (HT.out.step (frm_below hf01 (Nat.le_refl _))).here hlen).mono ?_
    rintro e w2 ⟨rfl, hf2⟩
    have hsz := bs_size t.text
    have hput : Hid (Ty.put t = if 65536 < t.text.length then ([], 3) else (t.text, 0)) := by unfold Hid Ty.put; rw [HL.out]; rfl
    by_cases hl : 65536 < t.text.length
    · have hP : Hid (Ty.put t = ([], 3)) := by unfold Hid; rw [hput.out, if_pos hl]
      have hsz2 : 65536 < (bs t.text).size := by omega
      generalize bs t.text = s at *
      clear hsz
      go_wp2_with fail
      refine bodyPost_ret (results_tmp2 rfl _ _ _) rfl ⟨?_, frm_trans hf01 hf2⟩
      rw [hP.out]
      rfl
    · have hP : Hid (Ty.put t = (t.text, 0)) := by unfold Hid; rw [hput.out, if_neg hl]
      have hsz2 : (bs t.text).size ≤ 65536 := by omega
      have hbs : Hid (bs (Ty.put t).1 = bs t.text) := by unfold Hid; rw [hP.out]
      generalize bs t.text = s at *
      clear hsz
      go_wp2_with fail
      refine bodyPost_ret (results_tmp2 rfl _ _ _) rfl ⟨?_, frm_trans hf01 hf2⟩
      rw [hbs.out, hP.out]
      rfl
  · have HL := Lib.hid hlg
    clear hlg
    go_wp2_with fail
    refine bodyPost_ret (results_tmp2 rfl _ _ _) rfl ⟨?_, hf01⟩
    unfold Ty.put
    rw [HL.out]
    rfl
end Go.Proofs.YtmdgoalekkkpnaaDoor
