/- mix's once: alternatives in order, each once; copies of rows. -/
import Derived.Test.YtjpdmncafacmaaaGreatDoorCompactA
set_option linter.unusedVariables false
set_option linter.unusedSimpArgs false
namespace Go.Proofs.YtjpdmncafacmaaaGreatDoor
open Go.RowKit

theorem insertionA_none (A : Option Addr) (c : Nat) (w : World) : Calls Tryz.prog 131 #[.slice A 0 c, .int .i64 0, .int .i64 0, .func (.func 75) #[] #[]] w fun e w' => e = .returned (.tuple #[]) ∧ w = w' := by
  go_enter Tryz.func131, Tryz.ntmps131
  go_wp2_with fail
  refine wp_loop_rounds 1 ?_
  rw [rounds_succ]
  go_wp2_with fail
  exact bodyPost_end (results_none rfl _ _ _) rfl ⟨rfl, rfl⟩
theorem pdqA_none (A : Option Addr) (c : Nat) (w : World) (n : Int) : Calls Tryz.prog 115 #[.slice A 0 c, .int .i64 0, .int .i64 0, .int .i64 n, .func (.func 75) #[] #[]] w fun e w' => e = .returned (.tuple #[]) ∧ w = w' := by
  go_enter Tryz.func115, Tryz.ntmps115
  go_wp2_with fail
  refine wp_loop_rounds 1 ?_
  rw [rounds_succ]
  go_wp2_with fail
  refine (insertionA_none _ _ _).mono ?_
  rintro e w1 ⟨rfl, rfl⟩
  go_wp2_with fail
  exact bodyPost_ret (results_none rfl _ _ _) rfl ⟨rfl, rfl⟩
theorem sortA_none (A : Option Addr) (c : Nat) (w : World) : Calls Tryz.prog 86 #[.slice A 0 c, .func (.func 75) #[] #[]] w fun e w' => e = .returned (.tuple #[]) ∧ w = w' := by
  go_enter Tryz.func86, Tryz.ntmps86
  go_wp2_with fail
  refine (Tryz.bits_Len 0 _ (by omega) (by omega)).mono ?_
  rintro e w1 ⟨rfl, rfl⟩
  generalize ((Lib.bitLen (Int.toNat 0) : Nat) : Int) = n
  go_wp2_with fail
  refine (pdqA_none _ _ _ _).mono ?_
  rintro e w1 ⟨rfl, rfl⟩
  go_wp2_with fail
  exact bodyPost_end (results_none rfl _ _ _) rfl ⟨rfl, rfl⟩
theorem compactA_none (A : Option Addr) (c : Nat) (w : World) : Calls Tryz.prog 120 #[.slice A 0 c, .func (.func 121) #[] #[]] w fun e w' => e = .returned (.slice A 0 c) ∧ w = w' := by
  go_enter Tryz.func120, Tryz.ntmps120
  go_wp2_with fail
  exact bodyPost_ret (results_tmp rfl _ _ _) rfl ⟨rfl, rfl⟩

theorem setL_len {α : Type} (f : α → α → Int) (xs : List α) : (setL f xs).length ≤ xs.length := by
  have h : ∀ (l o : List α), (l.foldl (fun o x => insL f x o) o).length ≤ l.length + o.length := by
    intro l
    induction l with
    | nil => intro o; simp
    | cons x l ih =>
      intro o
      have h1 : ∀ o : List α, (insL f x o).length ≤ o.length + 1 := by
        intro o
        induction o with
        | nil => simp [insL]
        | cons y o iho =>
          unfold insL
          split
          · simpa using iho
          · split <;> simp
      have := ih (insL f x o)
      have := h1 o
      simp only [List.foldl_cons, List.length_cons]
      omega
  simpa [setL] using h xs []

set_option maxRecDepth 20000 in
set_option maxHeartbeats 400000 in
theorem once_calls (xs : List (List Nd)) (hsm : ∀ l ∈ xs, ∀ x ∈ l, Nd.small x) (hlen : xs.length ≤ 140737488351232) (w : World) (v : Value) {base : Nat} {ok : Nat → Prop} (H : Own (WR AltR) w base 76 1 ok v xs) :
    Calls Tryz.prog 92 #[v] w fun e w' => ∃ A c, e = .returned (.slice A (altSet xs).length c) ∧ GrewR w w' v.ownBlock ∧ WR AltsR (fun b => Sup ok w v b ∨ some b = v.ownBlock) w' (altSet xs) [.slice A (altSet xs).length c] := by
  rcases H.cases with ⟨rfl, rfl⟩ | ⟨g, c, rfl, hc, hb, hg⟩
  · have hC : Hid (∀ w : World, Calls Tryz.prog 120 #[.slice none 0 0, .func (.func 121) #[] #[]] w fun e w' => e = .returned (.slice none 0 0) ∧ w = w') := compactA_none none 0
    clear H hsm hlen
    go_enter Tryz.func92, Tryz.ntmps92
    go_wp2_with fail
    refine (sortA_none none 0 _).mono ?_
    rintro e w1 ⟨rfl, rfl⟩
    go_wp2_with fail
    refine (hC.out _).mono ?_
    rintro e w1 ⟨rfl, rfl⟩
    go_wp2_with fail
    exact bodyPost_ret (results_tmp rfl _ _ _) rfl ⟨none, 0, rfl, grewR_refl _ _, _, rfl, none, 0, rfl, by simp [altSet, setL], by simp [altSet, setL], by simp [altSet, setL]⟩
  · by_cases h0 : xs.length = 0
    · have hx0 : xs = [] := List.eq_nil_of_length_eq_zero h0
      subst hx0
      have hC : Hid (∀ w : World, Calls Tryz.prog 120 #[.slice (some ⟨g, 0, none⟩) 0 c, .func (.func 121) #[] #[]] w fun e w' => e = .returned (.slice (some ⟨g, 0, none⟩) 0 c) ∧ w = w') := compactA_none _ c
      clear H hsm hlen h0 hc hb hg
      go_enter Tryz.func92, Tryz.ntmps92
      go_wp2_with fail
      refine (sortA_none _ c _).mono ?_
      rintro e w1 ⟨rfl, rfl⟩
      go_wp2_with fail
      refine (hC.out _).mono ?_
      rintro e w1 ⟨rfl, rfl⟩
      go_wp2_with fail
      exact bodyPost_ret (results_tmp rfl _ _ _) rfl ⟨_, c, rfl, grewR_refl _ _, _, rfl, _, c, rfl, by simp [altSet, setL], by simp [altSet, setL], by simp [altSet, setL]⟩
    have hrow := H.rowG
    have hu := H.unf g rfl
    have hS : ∀ b, Sup ok w (.slice (some ⟨g, 0, none⟩) xs.length c) b → b < w.heap.size ∧ b ≠ g := fun b hb => ⟨hb.2.1, fun e => hb.2.2 (by rw [e]; rfl)⟩
    generalize hSS : Sup ok w (.slice (some ⟨g, 0, none⟩) xs.length c) = S at *
    have HS := Lib.hid (sortA_calls (cap := c) hS hg hu hrow hsm (by omega) hlen)
    have HSup := Lib.hid hS
    clear H hrow hu hsm hS hSS
    go_enter Tryz.func92, Tryz.ntmps92
    go_wp2_with fail
    refine HS.out.mono ?_
    rintro e w1 ⟨rfl, hf1, hu1, ts, hp, hso, hr1⟩
    have hl : ts.length = xs.length := hp.length_eq
    have hset : Hid (cpt eqA ts = altSet xs) := cpt_setL ord_alt hp hso
    have hcc := compactA_calls (cap := c) (fun b hb => ⟨Nat.lt_of_lt_of_le (HSup.out b hb).1 hf1.1.size, (HSup.out b hb).2⟩) (Nat.lt_of_lt_of_le hg hf1.1.size) hu1 hr1 (by omega) (by omega)
    rw [hl] at hcc
    have HCC := Lib.hid hcc
    clear hcc hu1 hr1 hso hl
    go_wp2_with fail
    refine HCC.out.mono ?_
    rintro e w2 ⟨rfl, hf2, hu2, hr2⟩
    rw [hset.out] at hr2 ⊢
    have HR := Lib.hid hr2
    have HU := Lib.hid hu2
    clear hr2 hu2
    go_wp2_with fail
    have hle : (altSet xs).length ≤ xs.length := setL_len (cmpL Nd.cmp) xs
    refine bodyPost_ret (results_tmp rfl _ _ _) rfl ⟨_, _, rfl, grewR_trans hf1 hf2, _, rfl, ?_⟩
    refine ⟨_, c, rfl, by omega, by omega, fun h0 => ⟨g, 0, rfl, ⟨.inr rfl, HU.out⟩, fun i hi => ?_⟩⟩
    obtain ⟨cs, q1, q2, q3⟩ := HR.out i hi
    exact ⟨cs, q1, by simpa using q2, moves_alt _ _ _ _ _ _ (fun b hb => ⟨.inl hb.1, hb.2⟩) (fun _ _ => rfl) q3⟩
end Go.Proofs.YtjpdmncafacmaaaGreatDoor
