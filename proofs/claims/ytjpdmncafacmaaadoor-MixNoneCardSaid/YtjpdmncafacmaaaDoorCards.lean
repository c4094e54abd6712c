/-
  DERIVED. GIVEN WITH THE SEED: THE CARDS: each row of YtjpdmncafacmaaaDoorRows.lean that lists a variable, with what it lists TIED to the program's text (the seventh form; the later family's looks); each row that meets fmt, with fmt's text TOLD by the authors' own Lean function (tested against real Go, not proved from fmt's source: count such statements apart). THE CARD IS WHAT COUNTS. Prove the row's statement (the work); the ties are given (YtjpdmncafacmaaaDoorTie.lean); close each card by the builder's one call (the guide's Derived/Test/ToyasCard.lean, 'card_holds'). Laid BY PROGRAM, IN A SANDBOX (cutbox-door.mjs). By AI agents, Wed Nov 11 2026. No macro, syntax, notation, axiom, sorry.
-/
import Derived.Test.YtjpdmncafacmaaaDoorRows
import GoSem.ClaimSeven
namespace Go.Proofs.YtjpdmncafacmaaaDoor
namespace Rows

/-- THE TIED CARD OF 'virgationlaw10.MixAnd'. -/
def mixAndCard : Claim7 := { stood := { row := mixAndRow, standIns := [], harness := (true, "87710bab2e7313159514e6fb443f796122adcdf28b7df563352defeb5427d428"), looks := false }, kinds := [], alts := [], laidByText := true, laidKinds := [.data, .data], laidTests := true, laidLooks := .later }
def MixAndCardSaid : Prop := Claim7.holds Tryd.pinned (.plain (OpenSpec.ofChange mixAndSpec)) mixAndCard

/-- THE TIED CARD OF 'virgationlaw10.MixOr'. -/
def mixOrCard : Claim7 := { stood := { row := mixOrRow, standIns := [], harness := (true, "87710bab2e7313159514e6fb443f796122adcdf28b7df563352defeb5427d428"), looks := false }, kinds := [], alts := [], laidByText := true, laidKinds := [.data, .data], laidTests := true, laidLooks := .later }
def MixOrCardSaid : Prop := Claim7.holds Tryd.pinned (.plain (OpenSpec.ofChange mixOrSpec)) mixOrCard

/-- THE TIED CARD OF 'virgationlaw10.MixReach'. -/
def mixReachCard : Claim7 := { stood := { row := mixReachRow, standIns := [], harness := (true, "87710bab2e7313159514e6fb443f796122adcdf28b7df563352defeb5427d428"), looks := false }, kinds := [], alts := [], laidByText := true, laidKinds := [.data, .data], laidTests := true, laidLooks := .later }
def MixReachCardSaid : Prop := Claim7.holds Tryd.pinned (.plain (OpenSpec.ofChange mixReachSpec)) mixReachCard

/-- THE TIED CARD OF 'virgationlaw10.MixPlain'. -/
def mixPlainCard : Claim7 := { stood := { row := mixPlainRow, standIns := [], harness := (true, "87710bab2e7313159514e6fb443f796122adcdf28b7df563352defeb5427d428"), looks := false }, kinds := [], alts := [], laidByText := true, laidKinds := [.data, .data], laidTests := true, laidLooks := .later }
def MixPlainCardSaid : Prop := Claim7.holds Tryd.pinned (.plain (OpenSpec.ofChange mixPlainSpec)) mixPlainCard

/-- THE TIED CARD OF 'virgationlaw10.MixNone'. -/
def mixNoneCard : Claim7 := { stood := { row := mixNoneRow, standIns := [], harness := (true, "87710bab2e7313159514e6fb443f796122adcdf28b7df563352defeb5427d428"), looks := false }, kinds := [], alts := [], laidByText := true, laidKinds := [.data, .data], laidTests := true, laidLooks := .later }
def MixNoneCardSaid : Prop := Claim7.holds Tryd.pinned (.plain (OpenSpec.ofChange mixNoneSpec)) mixNoneCard

/-- THE SECOND FORM's CARD OF 'virgationlaw10.MixAnd'. -/
def mixAndUptoCard : Claim7 := { stood := { row := mixAndUptoRow, standIns := [], harness := (true, "87710bab2e7313159514e6fb443f796122adcdf28b7df563352defeb5427d428"), looks := false }, kinds := [], alts := [], laidByText := true, laidKinds := [.data, .data], laidTests := true, laidLooks := .later }
def MixAndUptoCardSaid : Prop := Claim7.holds Tryd.pinned (.plain (OpenSpec.upto mixAndSpec)) mixAndUptoCard

/-- THE SECOND FORM's CARD OF 'virgationlaw10.MixOr'. -/
def mixOrUptoCard : Claim7 := { stood := { row := mixOrUptoRow, standIns := [], harness := (true, "87710bab2e7313159514e6fb443f796122adcdf28b7df563352defeb5427d428"), looks := false }, kinds := [], alts := [], laidByText := true, laidKinds := [.data, .data], laidTests := true, laidLooks := .later }
def MixOrUptoCardSaid : Prop := Claim7.holds Tryd.pinned (.plain (OpenSpec.upto mixOrSpec)) mixOrUptoCard

/-- THE SECOND FORM's CARD OF 'virgationlaw10.MixReach'. -/
def mixReachUptoCard : Claim7 := { stood := { row := mixReachUptoRow, standIns := [], harness := (true, "87710bab2e7313159514e6fb443f796122adcdf28b7df563352defeb5427d428"), looks := false }, kinds := [], alts := [], laidByText := true, laidKinds := [.data, .data], laidTests := true, laidLooks := .later }
def MixReachUptoCardSaid : Prop := Claim7.holds Tryd.pinned (.plain (OpenSpec.upto mixReachSpec)) mixReachUptoCard

/-- THE SECOND FORM's CARD OF 'virgationlaw10.MixPlain'. -/
def mixPlainUptoCard : Claim7 := { stood := { row := mixPlainUptoRow, standIns := [], harness := (true, "87710bab2e7313159514e6fb443f796122adcdf28b7df563352defeb5427d428"), looks := false }, kinds := [], alts := [], laidByText := true, laidKinds := [.data, .data], laidTests := true, laidLooks := .later }
def MixPlainUptoCardSaid : Prop := Claim7.holds Tryd.pinned (.plain (OpenSpec.upto mixPlainSpec)) mixPlainUptoCard

/-- THE SECOND FORM's CARD OF 'virgationlaw10.MixNone'. -/
def mixNoneUptoCard : Claim7 := { stood := { row := mixNoneUptoRow, standIns := [], harness := (true, "87710bab2e7313159514e6fb443f796122adcdf28b7df563352defeb5427d428"), looks := false }, kinds := [], alts := [], laidByText := true, laidKinds := [.data, .data], laidTests := true, laidLooks := .later }
def MixNoneUptoCardSaid : Prop := Claim7.holds Tryd.pinned (.plain (OpenSpec.upto mixNoneSpec)) mixNoneUptoCard
end Rows
end Go.Proofs.YtjpdmncafacmaaaDoor
