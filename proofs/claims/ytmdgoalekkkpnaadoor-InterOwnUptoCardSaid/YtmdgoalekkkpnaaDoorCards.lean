/-
  DERIVED. GIVEN WITH THE SEED: THE CARDS: each row of YtmdgoalekkkpnaaDoorRows.lean that lists a variable, with what it lists TIED to the program's text (the seventh form; the later family's looks); each row that meets fmt, with fmt's text TOLD by the authors' own Lean function (tested against real Go, not proved from fmt's source: count such statements apart). THE CARD IS WHAT COUNTS. Prove the row's statement (the work); the ties are given (YtmdgoalekkkpnaaDoorTie.lean); close each card by the builder's one call (the guide's Derived/Test/ToyasCard.lean, 'card_holds'). Laid BY PROGRAM, IN A SANDBOX (cutbox-door.mjs). By AI agents, Wed Nov 11 2026. No macro, syntax, notation, axiom, sorry.
-/
import Derived.Test.YtmdgoalekkkpnaaDoorRows
import GoSem.ClaimSeven
namespace Go.Proofs.YtmdgoalekkkpnaaDoor
namespace Rows

/-- THE TIED CARD OF 'virgationlaw12.InterPut'. -/
def interPutCard : Claim7 := { stood := { row := interPutRow, standIns := [], harness := (true, "d749a7820507f14bf6ce4231dd35f271c696be213029cec25a46866d1422a832"), looks := false }, kinds := [], alts := [], laidByText := true, laidKinds := [.data, .data, .data], laidTests := true, laidLooks := .later }
def InterPutCardSaid : Prop := Claim7.holds Tryd.pinned (.plain (OpenSpec.ofChange interPutSpec)) interPutCard

/-- THE TIED CARD OF 'virgationlaw12.InterGet'. -/
def interGetCard : Claim7 := { stood := { row := interGetRow, standIns := [], harness := (true, "d749a7820507f14bf6ce4231dd35f271c696be213029cec25a46866d1422a832"), looks := false }, kinds := [], alts := [], laidByText := true, laidKinds := [.data, .data, .data], laidTests := true, laidLooks := .later }
def InterGetCardSaid : Prop := Claim7.holds Tryd.pinned (.plain (OpenSpec.ofChange interGetSpec)) interGetCard

/-- THE TIED CARD OF 'virgationlaw12.InterStrength'. -/
def interStrengthCard : Claim7 := { stood := { row := interStrengthRow, standIns := [], harness := (true, "d749a7820507f14bf6ce4231dd35f271c696be213029cec25a46866d1422a832"), looks := false }, kinds := [], alts := [], laidByText := true, laidKinds := [.data, .data, .data], laidTests := true, laidLooks := .later }
def InterStrengthCardSaid : Prop := Claim7.holds Tryd.pinned (.plain (OpenSpec.ofChange interStrengthSpec)) interStrengthCard

/-- THE TIED CARD OF 'virgationlaw12.InterLess'. -/
def interLessCard : Claim7 := { stood := { row := interLessRow, standIns := [], harness := (true, "d749a7820507f14bf6ce4231dd35f271c696be213029cec25a46866d1422a832"), looks := false }, kinds := [], alts := [], laidByText := true, laidKinds := [.data, .data, .data], laidTests := true, laidLooks := .later }
def InterLessCardSaid : Prop := Claim7.holds Tryd.pinned (.plain (OpenSpec.ofChange interLessSpec)) interLessCard

/-- THE TIED CARD OF 'virgationlaw12.InterRound'. -/
def interRoundCard : Claim7 := { stood := { row := interRoundRow, standIns := [], harness := (true, "d749a7820507f14bf6ce4231dd35f271c696be213029cec25a46866d1422a832"), looks := false }, kinds := [], alts := [], laidByText := true, laidKinds := [.data, .data, .data], laidTests := true, laidLooks := .later }
def InterRoundCardSaid : Prop := Claim7.holds Tryd.pinned (.plain (OpenSpec.ofChange interRoundSpec)) interRoundCard

/-- THE TIED CARD OF 'virgationlaw12.InterCompare'. -/
def interCompareCard : Claim7 := { stood := { row := interCompareRow, standIns := [], harness := (true, "d749a7820507f14bf6ce4231dd35f271c696be213029cec25a46866d1422a832"), looks := false }, kinds := [], alts := [], laidByText := true, laidKinds := [.data, .data, .data], laidTests := true, laidLooks := .later }
def InterCompareCardSaid : Prop := Claim7.holds Tryd.pinned (.plain (OpenSpec.ofChange interCompareSpec)) interCompareCard

/-- THE TIED CARD OF 'virgationlaw12.InterOrder'. -/
def interOrderCard : Claim7 := { stood := { row := interOrderRow, standIns := [], harness := (true, "d749a7820507f14bf6ce4231dd35f271c696be213029cec25a46866d1422a832"), looks := false }, kinds := [], alts := [], laidByText := true, laidKinds := [.data, .data, .data], laidTests := true, laidLooks := .later }
def InterOrderCardSaid : Prop := Claim7.holds Tryd.pinned (.plain (OpenSpec.ofChange interOrderSpec)) interOrderCard

/-- THE TIED CARD OF 'virgationlaw12.InterCheck'. -/
def interCheckCard : Claim7 := { stood := { row := interCheckRow, standIns := [], harness := (true, "d749a7820507f14bf6ce4231dd35f271c696be213029cec25a46866d1422a832"), looks := false }, kinds := [], alts := [], laidByText := true, laidKinds := [.data, .data, .data], laidTests := true, laidLooks := .later }
def InterCheckCardSaid : Prop := Claim7.holds Tryd.pinned (.plain (OpenSpec.ofChange interCheckSpec)) interCheckCard

/-- THE TIED CARD OF 'virgationlaw12.InterSets'. -/
def interSetsCard : Claim7 := { stood := { row := interSetsRow, standIns := [], harness := (true, "d749a7820507f14bf6ce4231dd35f271c696be213029cec25a46866d1422a832"), looks := false }, kinds := [], alts := [], laidByText := true, laidKinds := [.data, .data, .data], laidTests := true, laidLooks := .later }
def InterSetsCardSaid : Prop := Claim7.holds Tryd.pinned (.plain (OpenSpec.ofChange interSetsSpec)) interSetsCard

/-- THE TIED CARD OF 'virgationlaw12.InterSet'. -/
def interSetCard : Claim7 := { stood := { row := interSetRow, standIns := [], harness := (true, "d749a7820507f14bf6ce4231dd35f271c696be213029cec25a46866d1422a832"), looks := false }, kinds := [], alts := [], laidByText := true, laidKinds := [.data, .data, .data], laidTests := true, laidLooks := .later }
def InterSetCardSaid : Prop := Claim7.holds Tryd.pinned (.plain (OpenSpec.ofChange interSetSpec)) interSetCard

/-- THE TIED CARD OF 'virgationlaw12.InterValid'. -/
def interValidCard : Claim7 := { stood := { row := interValidRow, standIns := [], harness := (true, "d749a7820507f14bf6ce4231dd35f271c696be213029cec25a46866d1422a832"), looks := false }, kinds := [], alts := [], laidByText := true, laidKinds := [.data, .data, .data], laidTests := true, laidLooks := .later }
def InterValidCardSaid : Prop := Claim7.holds Tryd.pinned (.plain (OpenSpec.ofChange interValidSpec)) interValidCard

/-- THE TIED CARD OF 'virgationlaw12.InterOwn'. -/
def interOwnCard : Claim7 := { stood := { row := interOwnRow, standIns := [], harness := (true, "d749a7820507f14bf6ce4231dd35f271c696be213029cec25a46866d1422a832"), looks := false }, kinds := [], alts := [], laidByText := true, laidKinds := [.data, .data, .data], laidTests := true, laidLooks := .later }
def InterOwnCardSaid : Prop := Claim7.holds Tryd.pinned (.plain (OpenSpec.ofChange interOwnSpec)) interOwnCard

/-- THE SECOND FORM's CARD OF 'virgationlaw12.InterPut'. -/
def interPutUptoCard : Claim7 := { stood := { row := interPutUptoRow, standIns := [], harness := (true, "d749a7820507f14bf6ce4231dd35f271c696be213029cec25a46866d1422a832"), looks := false }, kinds := [], alts := [], laidByText := true, laidKinds := [.data, .data, .data], laidTests := true, laidLooks := .later }
def InterPutUptoCardSaid : Prop := Claim7.holds Tryd.pinned (.plain (OpenSpec.upto interPutSpec)) interPutUptoCard

/-- THE SECOND FORM's CARD OF 'virgationlaw12.InterGet'. -/
def interGetUptoCard : Claim7 := { stood := { row := interGetUptoRow, standIns := [], harness := (true, "d749a7820507f14bf6ce4231dd35f271c696be213029cec25a46866d1422a832"), looks := false }, kinds := [], alts := [], laidByText := true, laidKinds := [.data, .data, .data], laidTests := true, laidLooks := .later }
def InterGetUptoCardSaid : Prop := Claim7.holds Tryd.pinned (.plain (OpenSpec.upto interGetSpec)) interGetUptoCard

/-- THE SECOND FORM's CARD OF 'virgationlaw12.InterStrength'. -/
def interStrengthUptoCard : Claim7 := { stood := { row := interStrengthUptoRow, standIns := [], harness := (true, "d749a7820507f14bf6ce4231dd35f271c696be213029cec25a46866d1422a832"), looks := false }, kinds := [], alts := [], laidByText := true, laidKinds := [.data, .data, .data], laidTests := true, laidLooks := .later }
def InterStrengthUptoCardSaid : Prop := Claim7.holds Tryd.pinned (.plain (OpenSpec.upto interStrengthSpec)) interStrengthUptoCard

/-- THE SECOND FORM's CARD OF 'virgationlaw12.InterLess'. -/
def interLessUptoCard : Claim7 := { stood := { row := interLessUptoRow, standIns := [], harness := (true, "d749a7820507f14bf6ce4231dd35f271c696be213029cec25a46866d1422a832"), looks := false }, kinds := [], alts := [], laidByText := true, laidKinds := [.data, .data, .data], laidTests := true, laidLooks := .later }
def InterLessUptoCardSaid : Prop := Claim7.holds Tryd.pinned (.plain (OpenSpec.upto interLessSpec)) interLessUptoCard

/-- THE SECOND FORM's CARD OF 'virgationlaw12.InterRound'. -/
def interRoundUptoCard : Claim7 := { stood := { row := interRoundUptoRow, standIns := [], harness := (true, "d749a7820507f14bf6ce4231dd35f271c696be213029cec25a46866d1422a832"), looks := false }, kinds := [], alts := [], laidByText := true, laidKinds := [.data, .data, .data], laidTests := true, laidLooks := .later }
def InterRoundUptoCardSaid : Prop := Claim7.holds Tryd.pinned (.plain (OpenSpec.upto interRoundSpec)) interRoundUptoCard

/-- THE SECOND FORM's CARD OF 'virgationlaw12.InterCompare'. -/
def interCompareUptoCard : Claim7 := { stood := { row := interCompareUptoRow, standIns := [], harness := (true, "d749a7820507f14bf6ce4231dd35f271c696be213029cec25a46866d1422a832"), looks := false }, kinds := [], alts := [], laidByText := true, laidKinds := [.data, .data, .data], laidTests := true, laidLooks := .later }
def InterCompareUptoCardSaid : Prop := Claim7.holds Tryd.pinned (.plain (OpenSpec.upto interCompareSpec)) interCompareUptoCard

/-- THE SECOND FORM's CARD OF 'virgationlaw12.InterOrder'. -/
def interOrderUptoCard : Claim7 := { stood := { row := interOrderUptoRow, standIns := [], harness := (true, "d749a7820507f14bf6ce4231dd35f271c696be213029cec25a46866d1422a832"), looks := false }, kinds := [], alts := [], laidByText := true, laidKinds := [.data, .data, .data], laidTests := true, laidLooks := .later }
def InterOrderUptoCardSaid : Prop := Claim7.holds Tryd.pinned (.plain (OpenSpec.upto interOrderSpec)) interOrderUptoCard

/-- THE SECOND FORM's CARD OF 'virgationlaw12.InterCheck'. -/
def interCheckUptoCard : Claim7 := { stood := { row := interCheckUptoRow, standIns := [], harness := (true, "d749a7820507f14bf6ce4231dd35f271c696be213029cec25a46866d1422a832"), looks := false }, kinds := [], alts := [], laidByText := true, laidKinds := [.data, .data, .data], laidTests := true, laidLooks := .later }
def InterCheckUptoCardSaid : Prop := Claim7.holds Tryd.pinned (.plain (OpenSpec.upto interCheckSpec)) interCheckUptoCard

/-- THE SECOND FORM's CARD OF 'virgationlaw12.InterSets'. -/
def interSetsUptoCard : Claim7 := { stood := { row := interSetsUptoRow, standIns := [], harness := (true, "d749a7820507f14bf6ce4231dd35f271c696be213029cec25a46866d1422a832"), looks := false }, kinds := [], alts := [], laidByText := true, laidKinds := [.data, .data, .data], laidTests := true, laidLooks := .later }
def InterSetsUptoCardSaid : Prop := Claim7.holds Tryd.pinned (.plain (OpenSpec.upto interSetsSpec)) interSetsUptoCard

/-- THE SECOND FORM's CARD OF 'virgationlaw12.InterSet'. -/
def interSetUptoCard : Claim7 := { stood := { row := interSetUptoRow, standIns := [], harness := (true, "d749a7820507f14bf6ce4231dd35f271c696be213029cec25a46866d1422a832"), looks := false }, kinds := [], alts := [], laidByText := true, laidKinds := [.data, .data, .data], laidTests := true, laidLooks := .later }
def InterSetUptoCardSaid : Prop := Claim7.holds Tryd.pinned (.plain (OpenSpec.upto interSetSpec)) interSetUptoCard

/-- THE SECOND FORM's CARD OF 'virgationlaw12.InterValid'. -/
def interValidUptoCard : Claim7 := { stood := { row := interValidUptoRow, standIns := [], harness := (true, "d749a7820507f14bf6ce4231dd35f271c696be213029cec25a46866d1422a832"), looks := false }, kinds := [], alts := [], laidByText := true, laidKinds := [.data, .data, .data], laidTests := true, laidLooks := .later }
def InterValidUptoCardSaid : Prop := Claim7.holds Tryd.pinned (.plain (OpenSpec.upto interValidSpec)) interValidUptoCard

/-- THE SECOND FORM's CARD OF 'virgationlaw12.InterOwn'. -/
def interOwnUptoCard : Claim7 := { stood := { row := interOwnUptoRow, standIns := [], harness := (true, "d749a7820507f14bf6ce4231dd35f271c696be213029cec25a46866d1422a832"), looks := false }, kinds := [], alts := [], laidByText := true, laidKinds := [.data, .data, .data], laidTests := true, laidLooks := .later }
def InterOwnUptoCardSaid : Prop := Claim7.holds Tryd.pinned (.plain (OpenSpec.upto interOwnSpec)) interOwnUptoCard
end Rows
end Go.Proofs.YtmdgoalekkkpnaaDoor
