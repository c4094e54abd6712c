/- mix's ordered: needs in order, each once. -/
import Derived.Test.YtjpdmncafacmaaaGreatDoorCompactN
import Derived.Test.YtjpdmncafacmaaaGreatDoorShelf
set_option linter.unusedVariables false
set_option linter.unusedSimpArgs false
namespace Go.Proofs.YtjpdmncafacmaaaGreatDoor
open Go.RowKit

theorem info_nd : (Tryz.prog.info? 80).map (fun i => (i.zero, i.size, i.bytes)) = some (some (.agg #[.int .i64 0, .int .i64 0]), 2, 16) := by kernel_rfl
theorem info_int : (Tryz.prog.info? 3).map (fun i => (i.zero, i.size, i.bytes)) = some (some (.int .i64 0), 1, 8) := by kernel_rfl
theorem info_alt : (Tryz.prog.info? 76).map (fun i => (i.zero, i.size, i.bytes)) = some (some (.slice none 0 0), 1, 24) := by kernel_rfl
theorem info_alts : (Tryz.prog.info? 50).map (fun i => (i.zero, i.size, i.bytes)) = some (some (.slice none 0 0), 1, 24) := by kernel_rfl
theorem info_rule : (Tryz.prog.info? 49).map (fun i => (i.zero, i.size, i.bytes)) = some (some (.slice none 0 0), 1, 24) := by kernel_rfl
theorem elem_nd : ElemInfo Tryz.prog 76 80 2 16 := .of Tryz.underlying76 info_nd rfl (by omega)
theorem elem_int : ElemInfo Tryz.prog 22 3 1 8 := .of Tryz.underlying22 info_int rfl (by omega)
theorem elem_alt : ElemInfo Tryz.prog 50 76 1 24 := .of Tryz.underlying50 info_alt rfl (by omega)
theorem elem_alts : ElemInfo Tryz.prog 49 50 1 24 := .of Tryz.underlying49 info_alts rfl (by omega)
theorem elem_rule : ElemInfo Tryz.prog 23 49 1 24 := .of Tryz.underlying23 info_rule rfl (by omega)

theorem insertionN_none (A : Option Addr) (c : Nat) (w : World) : Calls Tryz.prog 143 #[.slice A 0 c, .int .i64 0, .int .i64 0, .func (.func 73) #[] #[]] w fun e w' => e = .returned (.tuple #[]) ∧ w = w' := by
  go_enter Tryz.func143, Tryz.ntmps143
  go_wp2_with fail
  refine wp_loop_rounds 1 ?_
  rw [rounds_succ]
  go_wp2_with fail
  exact bodyPost_end (results_none rfl _ _ _) rfl ⟨rfl, rfl⟩
theorem pdqN_none (A : Option Addr) (c : Nat) (w : World) (n : Int) : Calls Tryz.prog 123 #[.slice A 0 c, .int .i64 0, .int .i64 0, .int .i64 n, .func (.func 73) #[] #[]] w fun e w' => e = .returned (.tuple #[]) ∧ w = w' := by
  go_enter Tryz.func123, Tryz.ntmps123
  go_wp2_with fail
  refine wp_loop_rounds 1 ?_
  rw [rounds_succ]
  go_wp2_with fail
  refine (insertionN_none _ _ _).mono ?_
  rintro e w1 ⟨rfl, rfl⟩
  go_wp2_with fail
  exact bodyPost_ret (results_none rfl _ _ _) rfl ⟨rfl, rfl⟩
theorem sortN_none (A : Option Addr) (c : Nat) (w : World) : Calls Tryz.prog 103 #[.slice A 0 c, .func (.func 73) #[] #[]] w fun e w' => e = .returned (.tuple #[]) ∧ w = w' := by
  go_enter Tryz.func103, Tryz.ntmps103
  go_wp2_with fail
  refine (Tryz.bits_Len 0 _ (by omega) (by omega)).mono ?_
  rintro e w1 ⟨rfl, rfl⟩
  generalize ((Lib.bitLen (Int.toNat 0) : Nat) : Int) = n
  go_wp2_with fail
  refine (pdqN_none _ _ _ _).mono ?_
  rintro e w1 ⟨rfl, rfl⟩
  go_wp2_with fail
  exact bodyPost_end (results_none rfl _ _ _) rfl ⟨rfl, rfl⟩
theorem compactN_none (A : Option Addr) (c : Nat) (w : World) : Calls Tryz.prog 104 #[.slice A 0 c] w fun e w' => e = .returned (.slice A 0 c) ∧ w = w' := by
  go_enter Tryz.func104, Tryz.ntmps104
  go_wp2_with fail
  exact bodyPost_ret (results_tmp rfl _ _ _) rfl ⟨rfl, rfl⟩

theorem ndSet_len (xs : List Nd) : (ndSet xs).length ≤ xs.length := by
  have h : ∀ (l o : List Nd), (l.foldl (fun o x => insL Nd.cmp x o) o).length ≤ l.length + o.length := by
    intro l
    induction l with
    | nil => intro o; simp
    | cons x l ih =>
      intro o
      have h1 : ∀ o : List Nd, (insL Nd.cmp x o).length ≤ o.length + 1 := by
        intro o
        induction o with
        | nil => simp [insL]
        | cons y o iho =>
          unfold insL
          split
          · simpa using iho
          · split <;> simp
      have := ih (insL Nd.cmp x o)
      have := h1 o
      simp only [List.foldl_cons, List.length_cons]
      omega
  simpa [ndSet, setL] using h xs []

set_option maxRecDepth 20000 in
set_option maxHeartbeats 400000 in
theorem ordered_calls (xs : List Nd) (hsm : ∀ x ∈ xs, Nd.small x) (hlen : xs.length ≤ 140737488351232) (w : World) (v : Value) {base : Nat} {ok : Nat → Prop} (H : Own NdR w base 80 2 ok v xs) :
    Calls Tryz.prog 60 #[v] w fun e w' => ∃ A c, e = .returned (.slice A (ndSet xs).length c) ∧ GrewR w w' v.ownBlock ∧ WR AltR (fun b => some b = v.ownBlock) w' (ndSet xs) [.slice A (ndSet xs).length c] := by
  rcases H.cases with ⟨rfl, rfl⟩ | ⟨g, c, rfl, hc, hb, hg⟩
  · have hC : Hid (∀ w : World, Calls Tryz.prog 104 #[.slice none 0 0] w fun e w' => e = .returned (.slice none 0 0) ∧ w = w') := compactN_none none 0
    clear H hsm hlen
    go_enter Tryz.func60, Tryz.ntmps60
    go_wp2_with fail
    refine (sortN_none none 0 _).mono ?_
    rintro e w1 ⟨rfl, rfl⟩
    go_wp2_with fail
    refine (hC.out _).mono ?_
    rintro e w1 ⟨rfl, rfl⟩
    go_wp2_with fail
    exact bodyPost_ret (results_tmp rfl _ _ _) rfl ⟨none, 0, rfl, grewR_refl _ _, _, rfl, none, 0, rfl, by simp [ndSet, setL], by simp [ndSet, setL], by simp [ndSet, setL]⟩
  · have hrow : RowG 2 NdR (fun _ => True) w g xs := H.rowG.move moves_nd (fun _ _ => trivial) (fun _ _ => rfl) rfl
    have hu := H.unf g rfl
    have HS := Lib.hid (sortN_calls (cap := c) hg hu hrow hsm hlen)
    clear H hrow hu hsm
    go_enter Tryz.func60, Tryz.ntmps60
    go_wp2_with fail
    refine HS.out.mono ?_
    rintro e w1 ⟨rfl, hf1, hu1, ts, hp, hso, hr1⟩
    have hl : ts.length = xs.length := hp.length_eq
    have hset : Hid (cpt eqN ts = ndSet xs) := cpt_setL ord_nd hp hso
    have hcc := compactN_calls (cap := c) (Nat.lt_of_lt_of_le hg hf1.1.size) hu1 hr1 (by omega) (by omega)
    rw [hl] at hcc
    have HCC := Lib.hid hcc
    clear hcc hu1 hr1 hso hl
    go_wp2_with fail
    refine HCC.out.mono ?_
    rintro e w2 ⟨rfl, hf2, hu2, hr2⟩
    rw [hset.out] at hr2 ⊢
    have HR := Lib.hid hr2
    have HU := Lib.hid hu2
    clear hr2 hu2
    go_wp2_with fail
    have hle := ndSet_len xs
    refine bodyPost_ret (results_tmp rfl _ _ _) rfl ⟨_, _, rfl, grewR_trans hf1 hf2, _, rfl, ?_⟩
    have hr : RowG 2 NdR (fun b => b = g ∧ Unf w2 b) w2 g (ndSet xs) := fun i hi => HR.out i hi
    exact Sl.move (RowG.sl (c := c) hr (by omega) (by omega) ⟨rfl, HU.out⟩) (fun b hb => ⟨by rw [hb.1]; rfl, hb.2⟩) (fun _ _ => rfl) fun x _ cs h => h
end Go.Proofs.YtjpdmncafacmaaaGreatDoor
