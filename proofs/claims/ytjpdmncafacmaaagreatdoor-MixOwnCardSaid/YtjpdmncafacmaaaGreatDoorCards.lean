/-
  DERIVED. GIVEN WITH THE SEED: THE CARDS: each row of YtjpdmncafacmaaaGreatDoorRows.lean that lists a variable, with what it lists TIED to the program's text (the seventh form; the later family's looks); each row that meets fmt, with fmt's text TOLD by the authors' own Lean function (tested against real Go, not proved from fmt's source: count such statements apart). THE CARD IS WHAT COUNTS. Prove the row's statement (the work); the ties are given (YtjpdmncafacmaaaGreatDoorTie.lean); close each card by the builder's one call (the guide's Derived/Test/ToyasCard.lean, 'card_holds'). Laid BY PROGRAM, IN A SANDBOX (cutbox-door.mjs). By AI agents, Wed Nov 11 2026. No macro, syntax, notation, axiom, sorry.
-/
import Derived.Test.YtjpdmncafacmaaaGreatDoorRows
import GoSem.ClaimSeven
namespace Go.Proofs.YtjpdmncafacmaaaGreatDoor
namespace Rows

/-- THE TIED CARD OF 'virgationlaw10.MixSome'. -/
def mixSomeCard : Claim7 := { stood := { row := mixSomeRow, standIns := [], harness := (true, "20b9ce57d81eb0344624bd7a0f5cae9feb1220a2fb8eb37eabf6837aabb41aee"), looks := false }, kinds := [], alts := [], laidByText := true, laidKinds := [.data, .data], laidTests := true, laidLooks := .later }
def MixSomeCardSaid : Prop := Claim7.holds Tryz.pinned (.plain (OpenSpec.ofChange mixSomeSpec)) mixSomeCard

/-- THE TIED CARD OF 'virgationlaw10.MixDual'. -/
def mixDualCard : Claim7 := { stood := { row := mixDualRow, standIns := [], harness := (true, "20b9ce57d81eb0344624bd7a0f5cae9feb1220a2fb8eb37eabf6837aabb41aee"), looks := false }, kinds := [], alts := [], laidByText := true, laidKinds := [.data, .data], laidTests := true, laidLooks := .later }
def MixDualCardSaid : Prop := Claim7.holds Tryz.pinned (.plain (OpenSpec.ofChange mixDualSpec)) mixDualCard

/-- THE TIED CARD OF 'virgationlaw10.MixMerge'. -/
def mixMergeCard : Claim7 := { stood := { row := mixMergeRow, standIns := [], harness := (true, "20b9ce57d81eb0344624bd7a0f5cae9feb1220a2fb8eb37eabf6837aabb41aee"), looks := false }, kinds := [], alts := [], laidByText := true, laidKinds := [.data, .data, .data], laidTests := true, laidLooks := .later }
def MixMergeCardSaid : Prop := Claim7.holds Tryz.pinned (.plain (OpenSpec.ofChange mixMergeSpec)) mixMergeCard

/-- THE TIED CARD OF 'virgationlaw10.MixOwn'. -/
def mixOwnCard : Claim7 := { stood := { row := mixOwnRow, standIns := [], harness := (true, "20b9ce57d81eb0344624bd7a0f5cae9feb1220a2fb8eb37eabf6837aabb41aee"), looks := false }, kinds := [], alts := [], laidByText := true, laidKinds := [.data, .data, .data], laidTests := true, laidLooks := .later }
def MixOwnCardSaid : Prop := Claim7.holds Tryz.pinned (.plain (OpenSpec.ofChange mixOwnSpec)) mixOwnCard

/-- THE TIED CARD OF 'virgationlaw10.MixAccepts'. -/
def mixAcceptsCard : Claim7 := { stood := { row := mixAcceptsRow, standIns := [], harness := (true, "20b9ce57d81eb0344624bd7a0f5cae9feb1220a2fb8eb37eabf6837aabb41aee"), looks := false }, kinds := [], alts := [], laidByText := true, laidKinds := [.data, .data, .data], laidTests := true, laidLooks := .later }
def MixAcceptsCardSaid : Prop := Claim7.holds Tryz.pinned (.plain (OpenSpec.ofChange mixAcceptsSpec)) mixAcceptsCard

/-- THE SECOND FORM's CARD OF 'virgationlaw10.MixSome'. -/
def mixSomeUptoCard : Claim7 := { stood := { row := mixSomeUptoRow, standIns := [], harness := (true, "20b9ce57d81eb0344624bd7a0f5cae9feb1220a2fb8eb37eabf6837aabb41aee"), looks := false }, kinds := [], alts := [], laidByText := true, laidKinds := [.data, .data], laidTests := true, laidLooks := .later }
def MixSomeUptoCardSaid : Prop := Claim7.holds Tryz.pinned (.plain (OpenSpec.upto mixSomeSpec)) mixSomeUptoCard

/-- THE SECOND FORM's CARD OF 'virgationlaw10.MixDual'. -/
def mixDualUptoCard : Claim7 := { stood := { row := mixDualUptoRow, standIns := [], harness := (true, "20b9ce57d81eb0344624bd7a0f5cae9feb1220a2fb8eb37eabf6837aabb41aee"), looks := false }, kinds := [], alts := [], laidByText := true, laidKinds := [.data, .data], laidTests := true, laidLooks := .later }
def MixDualUptoCardSaid : Prop := Claim7.holds Tryz.pinned (.plain (OpenSpec.upto mixDualSpec)) mixDualUptoCard

/-- THE SECOND FORM's CARD OF 'virgationlaw10.MixMerge'. -/
def mixMergeUptoCard : Claim7 := { stood := { row := mixMergeUptoRow, standIns := [], harness := (true, "20b9ce57d81eb0344624bd7a0f5cae9feb1220a2fb8eb37eabf6837aabb41aee"), looks := false }, kinds := [], alts := [], laidByText := true, laidKinds := [.data, .data, .data], laidTests := true, laidLooks := .later }
def MixMergeUptoCardSaid : Prop := Claim7.holds Tryz.pinned (.plain (OpenSpec.upto mixMergeSpec)) mixMergeUptoCard

/-- THE SECOND FORM's CARD OF 'virgationlaw10.MixOwn'. -/
def mixOwnUptoCard : Claim7 := { stood := { row := mixOwnUptoRow, standIns := [], harness := (true, "20b9ce57d81eb0344624bd7a0f5cae9feb1220a2fb8eb37eabf6837aabb41aee"), looks := false }, kinds := [], alts := [], laidByText := true, laidKinds := [.data, .data, .data], laidTests := true, laidLooks := .later }
def MixOwnUptoCardSaid : Prop := Claim7.holds Tryz.pinned (.plain (OpenSpec.upto mixOwnSpec)) mixOwnUptoCard

/-- THE SECOND FORM's CARD OF 'virgationlaw10.MixAccepts'. -/
def mixAcceptsUptoCard : Claim7 := { stood := { row := mixAcceptsUptoRow, standIns := [], harness := (true, "20b9ce57d81eb0344624bd7a0f5cae9feb1220a2fb8eb37eabf6837aabb41aee"), looks := false }, kinds := [], alts := [], laidByText := true, laidKinds := [.data, .data, .data], laidTests := true, laidLooks := .later }
def MixAcceptsUptoCardSaid : Prop := Claim7.holds Tryz.pinned (.plain (OpenSpec.upto mixAcceptsSpec)) mixAcceptsUptoCard
end Rows
end Go.Proofs.YtjpdmncafacmaaaGreatDoor
