/- turn: the states of all types in a list are changed, and nothing else. -/
import Derived.Test.YtmdgoalekkkpnaaDoorCopyW
set_option linter.unusedVariables false
set_option linter.unusedSimpArgs false
namespace Go.Proofs.YtmdgoalekkkpnaaDoor
open Go.RowKit

def InI64 (m : Int) : Prop := -9223372036854775808 ≤ m ∧ m ≤ 9223372036854775807
/-- Nothing but whole numbers in blocks from `base` on is changed. -/
structure Twist (base : Nat) (w w' : World) : Prop where
  os : w'.os = w.os
  tape : w'.tape = w.tape
  output : w'.output = w.output
  size : w'.heap.size = w.heap.size
  old : ∀ b, b < base → w'.heap[b]? = w.heap[b]?
  cell : ∀ a v, w.cell? a = some v → ∃ v', w'.cell? a = some v' ∧ (v' = v ∨ ∃ n m, v = .int .i64 n ∧ v' = .int .i64 m ∧ InI64 m)
  frz : ∀ a, w'.frozen? a = w.frozen? a
theorem Twist.refl (base : Nat) (w : World) : Twist base w w := ⟨rfl, rfl, rfl, rfl, fun _ _ => rfl, fun a v h => ⟨v, h, .inl rfl⟩, fun _ => rfl⟩
theorem Twist.trans {base : Nat} {w w1 w2 : World} (h : Twist base w w1) (h' : Twist base w1 w2) : Twist base w w2 := by
  refine ⟨h'.os.trans h.os, h'.tape.trans h.tape, h'.output.trans h.output, h'.size.trans h.size, fun b hb => (h'.old b hb).trans (h.old b hb), fun a v hv => ?_, fun a => (h'.frz a).trans (h.frz a)⟩
  obtain ⟨v1, c1, e1⟩ := h.cell a v hv
  obtain ⟨v2, c2, e2⟩ := h'.cell a v1 c1
  refine ⟨v2, c2, ?_⟩
  rcases e1 with rfl | ⟨n, m, rfl, rfl, hm⟩
  · exact e2
  · rcases e2 with rfl | ⟨n', m', he, rfl, hm'⟩
    · exact .inr ⟨n, m, rfl, rfl, hm⟩
    · exact .inr ⟨n, m', rfl, rfl, hm'⟩
theorem Twist.store {base : Nat} {w w1 : World} (h : Twist base w w1) {b o : Nat} {n m : Int} (hb : base ≤ b) (hc : w1.cell? ⟨b, o, none⟩ = some (.int .i64 n)) (hm : InI64 m) : Twist base w (w1.setCell ⟨b, o, none⟩ (.int .i64 m)) := by
  refine h.trans ⟨rfl, rfl, rfl, by simp, fun c hcb => Below.heap_setCell _ _ _ _ (show c ≠ b by omega), fun a v hv => ?_, fun a => by simp⟩
  by_cases e : a = ⟨b, o, none⟩
  · subst e
    rw [hc] at hv
    injection hv with hv
    subst hv
    exact ⟨_, World.cell?_setCell_same _ _ _ hc, .inr ⟨n, m, rfl, rfl, hm⟩⟩
  · exact ⟨v, by rw [World.cell?_setCell_other _ _ _ _ (fun h => e h.symm)]; exact hv, .inl rfl⟩
theorem Twist.slice {base : Nat} {w w' : World} (h : Twist base w w') {a : Addr} {A : Option Addr} {n c : Nat} (hc : w.cell? a = some (.slice A n c)) : w'.cell? a = some (.slice A n c) := by
  obtain ⟨v', h1, h2⟩ := h.cell a _ hc
  rcases h2 with rfl | ⟨n, m, he, _⟩
  · exact h1
  · cases he
theorem Twist.int {base : Nat} {w w' : World} (h : Twist base w w') {a : Addr} {n : Int} (hn : InI64 n) (hc : w.cell? a = some (.int .i64 n)) : ∃ m, InI64 m ∧ w'.cell? a = some (.int .i64 m) := by
  obtain ⟨v', h1, h2⟩ := h.cell a _ hc
  rcases h2 with rfl | ⟨_, m, _, rfl, hm⟩
  · exact ⟨n, hn, h1⟩
  · exact ⟨m, hm, h1⟩
theorem choose_list {α : Type} (n : Nat) (Q : Nat → α → Prop) (h : ∀ j, j < n → ∃ y, Q j y) : ∃ l : List α, l.length = n ∧ ∀ j (hj : j < l.length), Q j l[j] := by
  refine ⟨List.ofFn fun j : Fin n => Classical.choose (h j.1 j.2), by simp, fun j hj => ?_⟩
  simp only [List.getElem_ofFn]
  exact Classical.choose_spec (h j (by simpa using hj))
theorem sizeSet_congr : ∀ (a b : List Ty), a.length = b.length → (∀ j (h : j < a.length) (h' : j < b.length), (a[j]).size = (b[j]).size) → Ty.sizeSet a = Ty.sizeSet b
  | [], [], _, _ => rfl
  | [], _ :: _, h, _ => by simp at h
  | _ :: _, [], h, _ => by simp at h
  | x :: a, y :: b, h, hs => by
    rw [Ty.sizeSet, Ty.sizeSet, sizeSet_congr a b (by simpa using h) (fun j h1 h2 => by have := hs (j + 1) (by simpa using h1) (by simpa using h2); simpa using this)]
    have := hs 0 (by simp) (by simp)
    simp only [List.getElem_cons_zero] at this
    rw [this]
theorem sizeRows_congr : ∀ (a b : List (List Ty)), a.length = b.length → (∀ j (h : j < a.length) (h' : j < b.length), Ty.sizeSet a[j] = Ty.sizeSet b[j]) → Ty.sizeRows a = Ty.sizeRows b
  | [], [], _, _ => rfl
  | [], _ :: _, h, _ => by simp at h
  | _ :: _, [], h, _ => by simp at h
  | x :: a, y :: b, h, hs => by
    rw [Ty.sizeRows, Ty.sizeRows, sizeRows_congr a b (by simpa using h) (fun j h1 h2 => by have := hs (j + 1) (by simpa using h1) (by simpa using h2); simpa using this)]
    have := hs 0 (by simp) (by simp)
    simp only [List.getElem_cons_zero] at this
    rw [this]
/-- A type's reading behind a twist: another type of the same size. -/
theorem twist_ty {base : Nat} {S : Nat → Prop} {w w' : World} (hT : Twist base w w') : ∀ (t : Ty) (v0 v1 : Value), TyR S w t [v0, v1] → ∃ args', Ty.sizeRows args' + 1 = t.size ∧ ∀ m, InI64 m → TyR S w' (.mk m args') [.int .i64 m, v1] := by
  intro t
  induction t using Ty.ind with
  | h st args ih =>
    intro v0 v1 h
    rw [TyR_mk] at h
    obtain ⟨v, hcs, h1, h2, A, c, rfl, hc, hm, hp⟩ := h
    obtain ⟨rfl, rfl⟩ : v0 = .int .i64 st ∧ v1 = .slice A args.length c := by simpa using hcs
    -- each set once more
    obtain ⟨args', hl, hq⟩ := choose_list args.length (fun i ts' => ∀ (hi : i < args.length), ts'.length = (args[i]).length ∧ Ty.sizeSet ts' = Ty.sizeSet args[i] ∧ ∀ b o, A = some ⟨b, o, none⟩ → ∃ u, w'.cell? ⟨b, o + i, none⟩ = some u ∧ SetR S w' ts' [u]) (fun i hi => by
      obtain ⟨b, o, hA, hb, hrow⟩ := hp (by omega)
      obtain ⟨cs, hcl, hcc, u, rfl, hu⟩ := hrow i hi
      have hcu := hcc 0 (by omega)
      simp only [List.getElem?_cons_zero, Nat.mul_one, Nat.add_zero] at hcu
      obtain ⟨A2, c2, rfl, hc2, hm2, hp2⟩ := hu
      obtain ⟨ts', hl2, hq2⟩ := choose_list (args[i]).length (fun j t' => ∀ (hj : j < (args[i]).length), t'.size = ((args[i])[j]).size ∧ ∀ b o, A2 = some ⟨b, o, none⟩ → ∃ u0 u1, w'.cell? ⟨b, o + j * 2, none⟩ = some u0 ∧ w'.cell? ⟨b, o + j * 2 + 1, none⟩ = some u1 ∧ TyR S w' t' [u0, u1]) (fun j hj => by
        obtain ⟨b2, o2, hA2, hb2, hrow2⟩ := hp2 (by omega)
        obtain ⟨ds, hdl, hdc, hdr⟩ := hrow2 j hj
        match ds, hdl with
        | [d0, d1], _ =>
          have e0 := hdc 0 (by omega)
          have e1 := hdc 1 (by omega)
          simp only [List.getElem?_cons_zero, List.getElem?_cons_succ, Nat.add_zero] at e0 e1
          obtain ⟨a', hs', hr'⟩ := ih _ (List.getElem_mem hi) _ (List.getElem_mem hj) d0 d1 hdr
          have hin : ∃ s0, d0 = .int .i64 s0 ∧ InI64 s0 ∧ ∃ A5 n5 c5, d1 = .slice A5 n5 c5 := by
            cases hx : (args[i])[j] with
            | mk s0 a0 =>
              rw [hx, TyR_mk] at hdr
              obtain ⟨v5, hv5, q1, q2, A5, c5, hv6, _⟩ := hdr
              obtain ⟨rfl, rfl⟩ : d0 = .int .i64 s0 ∧ d1 = v5 := by simpa using hv5
              exact ⟨s0, rfl, ⟨q1, q2⟩, A5, _, c5, hv6⟩
          obtain ⟨s0, rfl, hs0, A5, n5, c5, rfl⟩ := hin
          obtain ⟨m0, hm0, hc0⟩ := hT.int hs0 e0
          refine ⟨.mk m0 a', fun _ => ⟨?_, fun b o hbo => ?_⟩⟩
          · have : (Ty.mk m0 a').size = 1 + Ty.sizeRows a' := rfl
            omega
          · rw [hA2] at hbo
            injection hbo with hbo
            injection hbo with hb' ho' _
            subst hb' ho'
            exact ⟨_, _, hc0, hT.slice e1, hr' m0 hm0⟩)
      refine ⟨ts', fun _ => ⟨hl2, sizeSet_congr _ _ hl2 fun j h1 h2 => (hq2 j h1 h2).1, fun b' o' hbo => ?_⟩⟩
      rw [hA] at hbo
      injection hbo with hbo
      injection hbo with hb' ho' _
      subst hb' ho'
      refine ⟨_, hT.slice hcu, _, rfl, A2, c2, by rw [hl2], by omega, by omega, fun h0 => ?_⟩
      obtain ⟨b2, o2, hA2, hb2, _⟩ := hp2 (by omega)
      refine ⟨b2, o2, hA2, hb2, fun j hj => ?_⟩
      obtain ⟨u0, u1, g0, g1, gr⟩ := (hq2 j hj (by omega)).2 b2 o2 hA2
      refine ⟨[u0, u1], rfl, fun q hq => ?_, gr⟩
      match q with
      | 0 => simpa using g0
      | 1 => simpa using g1)
    refine ⟨args', ?_, fun m hmm => TyR_mk.2 ⟨_, rfl, hmm.1, hmm.2, A, c, by rw [hl], by omega, by omega, fun h0 => ?_⟩⟩
    · have e1 : (Ty.mk st args).size = 1 + Ty.sizeRows args := rfl
      have e2 := sizeRows_congr args' args hl fun j h1 h2 => (hq j h1 h2).2.1
      omega
    · obtain ⟨b, o, hA, hb, _⟩ := hp (by omega)
      refine ⟨b, o, hA, hb, fun i hi => ?_⟩
      obtain ⟨u, hu, hsr⟩ := (hq i hi (by omega)).2.2 b o hA
      exact ⟨[u], rfl, fun q hq => by match q with | 0 => simpa using hu, hsr⟩

theorem sizeSet_mem2 : ∀ (ts : List Ty) (t : Ty), t ∈ ts → t.size ≤ Ty.sizeSet ts
  | [], t, h => by cases h
  | x :: r, t, h => by
    rw [Ty.sizeSet]
    rcases List.mem_cons.1 h with rfl | h
    · omega
    · have := sizeSet_mem2 r t h; omega
theorem sizeRows_mem2 : ∀ (a : List (List Ty)) (s : List Ty), s ∈ a → Ty.sizeSet s ≤ Ty.sizeRows a
  | [], t, h => by cases h
  | x :: r, t, h => by
    rw [Ty.sizeRows]
    rcases List.mem_cons.1 h with rfl | h
    · omega
    · have := sizeRows_mem2 r t h; omega
/-- A row of types whose states may be written, their inner blocks among `S`. -/
def TRow (S : Nat → Prop) (base : Nat) (w : World) (ts : List Ty) (v : Value) : Prop :=
  ∃ A c, v = .slice A ts.length c ∧ ts.length ≤ c ∧ ts.length ≤ 140737488351232 ∧ (0 < ts.length → ∃ b o, A = some ⟨b, o, none⟩ ∧ base ≤ b ∧
    ∀ i (h : i < ts.length), ∃ v0 v1, w.cell? ⟨b, o + i * 2, none⟩ = some v0 ∧ w.cell? ⟨b, o + i * 2 + 1, none⟩ = some v1 ∧ w.frozen? ⟨b, o + i * 2, none⟩ = false ∧ TyR S w ts[i] [v0, v1])
/-- The row behind a twist. -/
theorem TRow.twist {S : Nat → Prop} {base : Nat} {w w' : World} {ts : List Ty} {v : Value} (h : TRow S base w ts v) (hT : Twist base w w') : ∃ ts', ts'.length = ts.length ∧ (∀ j (h : j < ts'.length) (h' : j < ts.length), (ts'[j]).size = (ts[j]).size) ∧ TRow S base w' ts' v := by
  obtain ⟨A, c, rfl, hc, hm, hp⟩ := h
  obtain ⟨ts', hl, hq⟩ := choose_list ts.length (fun j t' => ∀ (hj : j < ts.length), t'.size = (ts[j]).size ∧ ∀ b o, A = some ⟨b, o, none⟩ → ∃ u0 u1, w'.cell? ⟨b, o + j * 2, none⟩ = some u0 ∧ w'.cell? ⟨b, o + j * 2 + 1, none⟩ = some u1 ∧ w'.frozen? ⟨b, o + j * 2, none⟩ = false ∧ TyR S w' t' [u0, u1]) (fun j hj => by
    obtain ⟨b, o, hA, hb, hrow⟩ := hp (by omega)
    obtain ⟨d0, d1, e0, e1, hz, hdr⟩ := hrow j hj
    obtain ⟨a', hs', hr'⟩ := twist_ty hT _ d0 d1 hdr
    have hin : ∃ s0, d0 = .int .i64 s0 ∧ InI64 s0 ∧ ∃ A5 n5 c5, d1 = .slice A5 n5 c5 := by
      cases hx : ts[j] with
      | mk s0 a0 =>
        rw [hx, TyR_mk] at hdr
        obtain ⟨v5, hv5, q1, q2, A5, c5, hv6, _⟩ := hdr
        obtain ⟨rfl, rfl⟩ : d0 = .int .i64 s0 ∧ d1 = v5 := by simpa using hv5
        exact ⟨s0, rfl, ⟨q1, q2⟩, A5, _, c5, hv6⟩
    obtain ⟨s0, rfl, hs0, A5, n5, c5, rfl⟩ := hin
    obtain ⟨m0, hm0, hc0⟩ := hT.int hs0 e0
    refine ⟨.mk m0 a', fun _ => ⟨?_, fun b' o' hbo => ?_⟩⟩
    · have : (Ty.mk m0 a').size = 1 + Ty.sizeRows a' := rfl
      omega
    · rw [hA] at hbo
      injection hbo with hbo
      injection hbo with hb' ho' _
      subst hb' ho'
      exact ⟨_, _, hc0, hT.slice e1, (hT.frz _).trans hz, hr' m0 hm0⟩)
  refine ⟨ts', hl, fun j h1 h2 => (hq j h1 h2).1, A, c, by rw [hl], by omega, by omega, fun h0 => ?_⟩
  obtain ⟨b, o, hA, hb, _⟩ := hp (by omega)
  refine ⟨b, o, hA, hb, fun j hj => ?_⟩
  exact (hq j hj (by omega)).2 b o hA
theorem wrap_in (n : Int) : InI64 (IntKind.i64.wrap n) := by
  rw [IntKind.wrap_i64]
  unfold InI64
  omega

theorem bits_in (o : BinOp) (a b : Int) : InI64 (bits o .i64 a b) := by
  unfold bits
  exact wrap_in _

set_option maxRecDepth 100000 in
set_option maxHeartbeats 2000000 in
theorem turn_calls : ∀ (n : Nat) (ts : List Ty), Ty.sizeSet ts ≤ n → ∀ (S : Nat → Prop) (base : Nat) (w : World) (v : Value), TRow S base w ts v → (∀ b, S b → base ≤ b ∧ Unf w b) →
    Calls Tryd.prog 45 #[v] w fun e w' => e = .returned (.tuple #[]) ∧ Twist base w w' := by
  intro n
  induction n using Nat.strongRecOn with
  | _ n ih =>
    intro ts hn S base w v hv hS
    have HR := Lib.hid hv
    have HSS := Lib.hid hS
    have HI := Lib.hid ih
    obtain ⟨A, c, rfl, hc, hm, _⟩ := hv
    have HN := Lib.hid hn
    clear hS ih hn
    go_enter Tryd.func45, Tryd.ntmps45
    go_wp2_with fail
    go_loopw [7] (fun i wr => ∃ k : Nat, k ≤ ts.length ∧ i = .int .i64 k ∧ Hid (Twist base w wr)) (fun i _ => ts.length - (intOf i).toNat)
    case atStart => exact ⟨0, Nat.zero_le _, rfl, Twist.refl _ _⟩
    case round =>
      obtain ⟨k, hk, rfl, HT⟩ := hrel
      by_cases hlt : k < ts.length
      · obtain ⟨ts', hl', hsz, hv'⟩ := HR.out.twist HT.out
        obtain ⟨A', c', he, _, _, hp⟩ := hv'
        rw [hl'] at he
        injection he with e1 e2 e3
        subst e1 e3
        obtain ⟨b, o, rfl, hb, hrow⟩ := hp (by omega)
        obtain ⟨d0, d1, hd0, hd1, hz, hdr⟩ := hrow k (by omega)
        have hsk := hsz k (by omega) hlt
        have hle := sizeSet_mem2 ts _ (List.getElem_mem hlt)
        rw [← hsk] at hle
        have hle2 : Hid ((ts'[k]'(by omega)).size ≤ n) := Nat.le_trans hle HN.out
        clear hrow hp hsk hle hsz
        generalize ts'[k]'(by omega) = t at *
        clear hl'
        obtain ⟨st, args⟩ := t
        rw [TyR_mk] at hdr
        obtain ⟨v1, hcs, h1, h2, hs⟩ := hdr
        obtain ⟨rfl, rfl⟩ : d0 = .int .i64 st ∧ d1 = v1 := by simpa using hcs
        obtain ⟨A1, c1, rfl, hc1, hm1⟩ := hs.val
        have HS1 := Lib.hid hs
        clear hs hcs
        have hsz1 : Hid (Ty.sizeRows args < n) := by
          have := hle2.out
          have e : (Ty.mk st args).size = 1 + Ty.sizeRows args := rfl
          unfold Hid
          omega
        have HD0 := Lib.hid hd0
        have HD1 := Lib.hid hd1
        have HZ := Lib.hid hz
        clear hd0 hz
        go_wp2_with fail
        obtain ⟨wo, hwo⟩ : ∃ wo : World, wo = wr := ⟨_, rfl⟩
        subst hwo
        go_loopw [16] (fun j wq => ∃ m : Nat, m ≤ args.length ∧ j = .int .i64 m ∧ Hid (Twist base wo wq)) (fun j _ => args.length - (intOf j).toNat)
        case atStart => exact ⟨0, Nat.zero_le _, rfl, Twist.refl _ _⟩
        case round =>
          obtain ⟨m, hm3, rfl, HT2⟩ := hrel
          by_cases hlt2 : m < args.length
          · obtain ⟨b3, o3, u, rfl, hb3, hu, v9, hv9, hsu⟩ := HS1.out.at1 m hlt2
            obtain rfl : u = v9 := by simpa using hv9
            obtain ⟨A5, c5, rfl, hv8, hv7⟩ := hsu.val
            clear hv8 hv7
            have hrow3 : TRow S base wo args[m] (.slice A5 (args[m]).length c5) := by
              obtain ⟨A6, c6, hu5, q1, q2, hp5⟩ := hsu
              refine ⟨A6, c6, hu5, q1, q2, fun h0 => ?_⟩
              obtain ⟨b6, o6, hA6, hb6, hr6⟩ := hp5 h0
              refine ⟨b6, o6, hA6, (HSS.out _ hb6).1, fun i hi => ?_⟩
              obtain ⟨cs, hcl, hcc, hrr⟩ := hr6 i hi
              match cs, hcl with
              | [g0, g1], _ => exact ⟨g0, g1, (by have h9 := hcc 0 (by omega); simp only [Nat.add_zero, List.getElem?_cons_zero] at h9; exact h9), (by have h9 := hcc 1 (by omega); simp only [List.getElem?_cons_succ, List.getElem?_cons_zero] at h9; exact h9), (HT.out.frz _).trans ((HSS.out _ hb6).2 _), hrr⟩
            obtain ⟨ts2, hl2, hsz2, hrow4⟩ := hrow3.twist HT2.out
            have hss : Ty.sizeSet ts2 ≤ Ty.sizeRows args := by
              rw [sizeSet_congr ts2 args[m] hl2 hsz2]
              exact sizeRows_mem2 args _ (List.getElem_mem hlt2)
            have HCall := Lib.hid (HI.out _ hsz1.out ts2 hss S base wr _ hrow4 (fun b hb => ⟨(HSS.out b hb).1, fun o => ((HT2.out.frz _).trans (HT.out.frz _)).trans ((HSS.out b hb).2 o)⟩))
            have hu2 := HT2.out.slice hu
            clear hv9 hsu hrow3 hrow4 hl2 hsz2 hss hu
            generalize (args[m]).length = nm at *
            go_wp2_with fail
            refine HCall.out.mono ?_
            rintro e w5 ⟨rfl, hT5⟩
            have HT6 : Hid (Twist base wo w5) := HT2.out.trans hT5
            clear hT5
            go_wp2_with fail
            exact ⟨⟨m + 1, by omega, by go_num, HT6⟩, by simp [intOf]; omega⟩
          · obtain rfl : m = args.length := by omega
            obtain ⟨m0, hm0, hc0⟩ := HT2.out.int ⟨h1, h2⟩ HD0.out
            have hz0 := (HT2.out.frz ⟨b, o + k * 2, none⟩).trans HZ.out
            have hc1 := HT2.out.slice HD1.out
            have HM0 := Lib.hid hm0
            clear hd1 hm0
            go_wp2_with fail
            exact ⟨⟨k + 1, by omega, by go_num, (HT.out.trans HT2.out).store hb hc0 (bits_in _ _ _)⟩, by simp [intOf]; omega⟩
      · obtain rfl : k = ts.length := by omega
        go_wp2_with fail
        exact bodyPost_end (results_none rfl _ _ _) rfl ⟨rfl, HT.out⟩
end Go.Proofs.YtmdgoalekkkpnaaDoor
