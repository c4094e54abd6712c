/-
  NARROWER THAN 'FOR EVERY INPUT', by the rows' own cells (each row's printed sentence says how): InterPut: loops, laid · InterGet: laid · InterStrength: loops, laid · InterLess: loops, laid · InterRound: loops, laid · InterCompare: loops, laid · InterOrder: loops, laid · InterCheck: loops, laid · InterSets: loops, laid · InterSet: loops, laid · InterValid: loops, laid · InterOwn: loops, laid.
  DERIVED. THE GIVEN ROWS OF THIS SEAT. 12 by the template 'for every input the law returns true; each argument reads behind the call as it read before'; 0 by the template 'total and deterministic' (their statements: YtmdgoalekkkpnaaDoorTotals.lean).
  GIVEN WITH THE SEED: the statements are not yours to turn. If you find one false, say at which input.
  Laid BY PROGRAM, IN A SANDBOX (cutbox-rows.mjs): the forced cells as the released guide's own fill.sh prints them over the translation 82d67761a76a7546… (all of the seat's roots in one cut). By AI agents, Wed Nov 11 2026. No macro, syntax, notation, axiom, sorry.
-/
import Derived.Test.YtmdgoalekkkpnaaDoorChecked
import GoSem.Claim
import GoSem.ClaimJoined
import GoSem.ClaimMapViews
import Derived.JoinedTies
import Derived.KernelRfl
namespace Go.Proofs.YtmdgoalekkkpnaaDoor
/- THE CELL 'sum', in the pinned program and in every row, IS THE sha256 OF THE DUMP (.gsa) THAT YtmdgoalekkkpnaaDoorProg.lean LOADS. Nothing in Lean hashes anything: it is a label: what it is worth is what the hold of that sum in a sandbox is worth. -/
noncomputable def Tryd.pinned : Pinned := { name := "ytmdgoalekkkpnaadoor", sum := "82d67761a76a7546f6732f11989b773ae6ab66ce7f5ca58e22ee3fc32374f7d2", checked := Tryd.checked }
namespace Rows
def none {H : Type} : Left H := { results := [], args := [] }

/- WHAT THE LISTED PACKAGE-LEVEL VARIABLES READ AS WHEN THE CALL BEGINS. Each datum BY PROGRAM (the guide's laid-datum.mjs) off the statement by which the dump's own 'gosem.cut.vars' lays the variable. In a bare row this is a premise. The card (YtmdgoalekkkpnaaDoorCards.lean) ties it to the program's text. -/
def laid_math_bits_deBruijn32tab {H : Type} : DataW H := .agg [.lit (.int .u8 0), .lit (.int .u8 1), .lit (.int .u8 28), .lit (.int .u8 2), .lit (.int .u8 29), .lit (.int .u8 14), .lit (.int .u8 24), .lit (.int .u8 3), .lit (.int .u8 30), .lit (.int .u8 22), .lit (.int .u8 20), .lit (.int .u8 15), .lit (.int .u8 25), .lit (.int .u8 17), .lit (.int .u8 4), .lit (.int .u8 8), .lit (.int .u8 31), .lit (.int .u8 27), .lit (.int .u8 13), .lit (.int .u8 23), .lit (.int .u8 21), .lit (.int .u8 19), .lit (.int .u8 16), .lit (.int .u8 7), .lit (.int .u8 26), .lit (.int .u8 12), .lit (.int .u8 18), .lit (.int .u8 6), .lit (.int .u8 11), .lit (.int .u8 5), .lit (.int .u8 10), .lit (.int .u8 9)]
def laid_math_bits_deBruijn64tab {H : Type} : DataW H := .agg [.lit (.int .u8 0), .lit (.int .u8 1), .lit (.int .u8 56), .lit (.int .u8 2), .lit (.int .u8 57), .lit (.int .u8 49), .lit (.int .u8 28), .lit (.int .u8 3), .lit (.int .u8 61), .lit (.int .u8 58), .lit (.int .u8 42), .lit (.int .u8 50), .lit (.int .u8 38), .lit (.int .u8 29), .lit (.int .u8 17), .lit (.int .u8 4), .lit (.int .u8 62), .lit (.int .u8 47), .lit (.int .u8 59), .lit (.int .u8 36), .lit (.int .u8 45), .lit (.int .u8 43), .lit (.int .u8 51), .lit (.int .u8 22), .lit (.int .u8 53), .lit (.int .u8 39), .lit (.int .u8 33), .lit (.int .u8 30), .lit (.int .u8 24), .lit (.int .u8 18), .lit (.int .u8 12), .lit (.int .u8 5), .lit (.int .u8 63), .lit (.int .u8 55), .lit (.int .u8 48), .lit (.int .u8 27), .lit (.int .u8 60), .lit (.int .u8 41), .lit (.int .u8 37), .lit (.int .u8 16), .lit (.int .u8 46), .lit (.int .u8 35), .lit (.int .u8 44), .lit (.int .u8 21), .lit (.int .u8 52), .lit (.int .u8 32), .lit (.int .u8 23), .lit (.int .u8 11), .lit (.int .u8 54), .lit (.int .u8 26), .lit (.int .u8 40), .lit (.int .u8 15), .lit (.int .u8 34), .lit (.int .u8 20), .lit (.int .u8 31), .lit (.int .u8 10), .lit (.int .u8 25), .lit (.int .u8 14), .lit (.int .u8 19), .lit (.int .u8 9), .lit (.int .u8 13), .lit (.int .u8 8), .lit (.int .u8 7), .lit (.int .u8 6)]
def laid_internal_strconv_uint64pow10 {H : Type} : DataW H := .agg [.lit (.int .u64 1), .lit (.int .u64 10), .lit (.int .u64 100), .lit (.int .u64 1000), .lit (.int .u64 10000), .lit (.int .u64 100000), .lit (.int .u64 1000000), .lit (.int .u64 10000000), .lit (.int .u64 100000000), .lit (.int .u64 1000000000), .lit (.int .u64 10000000000), .lit (.int .u64 100000000000), .lit (.int .u64 1000000000000), .lit (.int .u64 10000000000000), .lit (.int .u64 100000000000000), .lit (.int .u64 1000000000000000), .lit (.int .u64 10000000000000000), .lit (.int .u64 100000000000000000), .lit (.int .u64 1000000000000000000), .lit (.int .u64 10000000000000000000)]

/-- 'virgationlaw12.InterPut': WHATEVER THE INPUT: true; the input reads as it did. -/
def interPutSpec : ChangeSpec := { name := "interPut", fn := fun _ => fun
  | [d] => { results := [.lit (.bool true)], args := [d] }
  | _ => none }
def interPutRow : OpenClaim := { program := "ytmdgoalekkkpnaadoor", sum := "82d67761a76a7546f6732f11989b773ae6ab66ce7f5ca58e22ee3fc32374f7d2", func := "virgation/virgationlaw12.InterPut", spec := "interPut", inPlace := ["internal/abi.NoEscape"], unfollowed := true, recurses := true, named := ["internal/strconv.uint64pow10", "math/bits.deBruijn32tab", "math/bits.deBruijn64tab"], loops := true, apart := false, laid := [("math/bits.deBruijn32tab", laid_math_bits_deBruijn32tab), ("math/bits.deBruijn64tab", laid_math_bits_deBruijn64tab), ("internal/strconv.uint64pow10", laid_internal_strconv_uint64pow10)] }
def InterPutSaid : Prop := interPutRow.holds Tryd.pinned (OpenSpec.ofChange interPutSpec)

/-- ITS FALSE NEIGHBOUR: 'it returns false'. Refute it at one input. -/
def interPutWrong : ChangeSpec := { name := "interPut", fn := fun _ => fun
  | [d] => { results := [.lit (.bool false)], args := [d] }
  | _ => none }
def InterPutWrongFalsely : Prop := interPutRow.holds Tryd.pinned (OpenSpec.ofChange interPutWrong)

/-- 'virgationlaw12.InterGet': WHATEVER THE INPUT: true; the input reads as it did. -/
def interGetSpec : ChangeSpec := { name := "interGet", fn := fun _ => fun
  | [d] => { results := [.lit (.bool true)], args := [d] }
  | _ => none }
def interGetRow : OpenClaim := { program := "ytmdgoalekkkpnaadoor", sum := "82d67761a76a7546f6732f11989b773ae6ab66ce7f5ca58e22ee3fc32374f7d2", func := "virgation/virgationlaw12.InterGet", spec := "interGet", inPlace := ["internal/abi.NoEscape"], unfollowed := true, recurses := true, named := ["internal/strconv.uint64pow10", "math/bits.deBruijn32tab", "math/bits.deBruijn64tab"], apart := false, laid := [("math/bits.deBruijn32tab", laid_math_bits_deBruijn32tab), ("math/bits.deBruijn64tab", laid_math_bits_deBruijn64tab), ("internal/strconv.uint64pow10", laid_internal_strconv_uint64pow10)] }
def InterGetSaid : Prop := interGetRow.holds Tryd.pinned (OpenSpec.ofChange interGetSpec)

/-- ITS FALSE NEIGHBOUR: 'it returns false'. Refute it at one input. -/
def interGetWrong : ChangeSpec := { name := "interGet", fn := fun _ => fun
  | [d] => { results := [.lit (.bool false)], args := [d] }
  | _ => none }
def InterGetWrongFalsely : Prop := interGetRow.holds Tryd.pinned (OpenSpec.ofChange interGetWrong)

/-- 'virgationlaw12.InterStrength': WHATEVER THE INPUT: true; the input reads as it did. -/
def interStrengthSpec : ChangeSpec := { name := "interStrength", fn := fun _ => fun
  | [d1, d2, d3] => { results := [.lit (.bool true)], args := [d1, d2, d3] }
  | _ => none }
def interStrengthRow : OpenClaim := { program := "ytmdgoalekkkpnaadoor", sum := "82d67761a76a7546f6732f11989b773ae6ab66ce7f5ca58e22ee3fc32374f7d2", func := "virgation/virgationlaw12.InterStrength", spec := "interStrength", inPlace := ["internal/abi.NoEscape"], unfollowed := true, recurses := true, named := ["internal/strconv.uint64pow10", "math/bits.deBruijn32tab", "math/bits.deBruijn64tab"], loops := true, apart := false, laid := [("math/bits.deBruijn32tab", laid_math_bits_deBruijn32tab), ("math/bits.deBruijn64tab", laid_math_bits_deBruijn64tab), ("internal/strconv.uint64pow10", laid_internal_strconv_uint64pow10)] }
def InterStrengthSaid : Prop := interStrengthRow.holds Tryd.pinned (OpenSpec.ofChange interStrengthSpec)

/-- ITS FALSE NEIGHBOUR: 'it returns false'. Refute it at one input. -/
def interStrengthWrong : ChangeSpec := { name := "interStrength", fn := fun _ => fun
  | [d1, d2, d3] => { results := [.lit (.bool false)], args := [d1, d2, d3] }
  | _ => none }
def InterStrengthWrongFalsely : Prop := interStrengthRow.holds Tryd.pinned (OpenSpec.ofChange interStrengthWrong)

/-- 'virgationlaw12.InterLess': WHATEVER THE INPUT: true; the input reads as it did. -/
def interLessSpec : ChangeSpec := { name := "interLess", fn := fun _ => fun
  | [d1, d2, d3, d4] => { results := [.lit (.bool true)], args := [d1, d2, d3, d4] }
  | _ => none }
def interLessRow : OpenClaim := { program := "ytmdgoalekkkpnaadoor", sum := "82d67761a76a7546f6732f11989b773ae6ab66ce7f5ca58e22ee3fc32374f7d2", func := "virgation/virgationlaw12.InterLess", spec := "interLess", inPlace := ["internal/abi.NoEscape"], unfollowed := true, recurses := true, named := ["internal/strconv.uint64pow10", "math/bits.deBruijn32tab", "math/bits.deBruijn64tab"], loops := true, apart := false, laid := [("math/bits.deBruijn32tab", laid_math_bits_deBruijn32tab), ("math/bits.deBruijn64tab", laid_math_bits_deBruijn64tab), ("internal/strconv.uint64pow10", laid_internal_strconv_uint64pow10)] }
def InterLessSaid : Prop := interLessRow.holds Tryd.pinned (OpenSpec.ofChange interLessSpec)

/-- ITS FALSE NEIGHBOUR: 'it returns false'. Refute it at one input. -/
def interLessWrong : ChangeSpec := { name := "interLess", fn := fun _ => fun
  | [d1, d2, d3, d4] => { results := [.lit (.bool false)], args := [d1, d2, d3, d4] }
  | _ => none }
def InterLessWrongFalsely : Prop := interLessRow.holds Tryd.pinned (OpenSpec.ofChange interLessWrong)

/-- 'virgationlaw12.InterRound': WHATEVER THE INPUT: true; the input reads as it did. -/
def interRoundSpec : ChangeSpec := { name := "interRound", fn := fun _ => fun
  | [d1, d2] => { results := [.lit (.bool true)], args := [d1, d2] }
  | _ => none }
def interRoundRow : OpenClaim := { program := "ytmdgoalekkkpnaadoor", sum := "82d67761a76a7546f6732f11989b773ae6ab66ce7f5ca58e22ee3fc32374f7d2", func := "virgation/virgationlaw12.InterRound", spec := "interRound", inPlace := ["internal/abi.NoEscape"], unfollowed := true, recurses := true, named := ["internal/strconv.uint64pow10", "math/bits.deBruijn32tab", "math/bits.deBruijn64tab"], loops := true, apart := false, laid := [("math/bits.deBruijn32tab", laid_math_bits_deBruijn32tab), ("math/bits.deBruijn64tab", laid_math_bits_deBruijn64tab), ("internal/strconv.uint64pow10", laid_internal_strconv_uint64pow10)] }
def InterRoundSaid : Prop := interRoundRow.holds Tryd.pinned (OpenSpec.ofChange interRoundSpec)

/-- ITS FALSE NEIGHBOUR: 'it returns false'. Refute it at one input. -/
def interRoundWrong : ChangeSpec := { name := "interRound", fn := fun _ => fun
  | [d1, d2] => { results := [.lit (.bool false)], args := [d1, d2] }
  | _ => none }
def InterRoundWrongFalsely : Prop := interRoundRow.holds Tryd.pinned (OpenSpec.ofChange interRoundWrong)

/-- 'virgationlaw12.InterCompare': WHATEVER THE INPUT: true; the input reads as it did. -/
def interCompareSpec : ChangeSpec := { name := "interCompare", fn := fun _ => fun
  | [d1, d2] => { results := [.lit (.bool true)], args := [d1, d2] }
  | _ => none }
def interCompareRow : OpenClaim := { program := "ytmdgoalekkkpnaadoor", sum := "82d67761a76a7546f6732f11989b773ae6ab66ce7f5ca58e22ee3fc32374f7d2", func := "virgation/virgationlaw12.InterCompare", spec := "interCompare", inPlace := ["internal/abi.NoEscape"], unfollowed := true, recurses := true, named := ["internal/strconv.uint64pow10", "math/bits.deBruijn32tab", "math/bits.deBruijn64tab"], loops := true, apart := false, laid := [("math/bits.deBruijn32tab", laid_math_bits_deBruijn32tab), ("math/bits.deBruijn64tab", laid_math_bits_deBruijn64tab), ("internal/strconv.uint64pow10", laid_internal_strconv_uint64pow10)] }
def InterCompareSaid : Prop := interCompareRow.holds Tryd.pinned (OpenSpec.ofChange interCompareSpec)

/-- ITS FALSE NEIGHBOUR: 'it returns false'. Refute it at one input. -/
def interCompareWrong : ChangeSpec := { name := "interCompare", fn := fun _ => fun
  | [d1, d2] => { results := [.lit (.bool false)], args := [d1, d2] }
  | _ => none }
def InterCompareWrongFalsely : Prop := interCompareRow.holds Tryd.pinned (OpenSpec.ofChange interCompareWrong)

/-- 'virgationlaw12.InterOrder': WHATEVER THE INPUT: true; the input reads as it did. -/
def interOrderSpec : ChangeSpec := { name := "interOrder", fn := fun _ => fun
  | [d1, d2, d3] => { results := [.lit (.bool true)], args := [d1, d2, d3] }
  | _ => none }
def interOrderRow : OpenClaim := { program := "ytmdgoalekkkpnaadoor", sum := "82d67761a76a7546f6732f11989b773ae6ab66ce7f5ca58e22ee3fc32374f7d2", func := "virgation/virgationlaw12.InterOrder", spec := "interOrder", inPlace := ["internal/abi.NoEscape"], unfollowed := true, recurses := true, named := ["internal/strconv.uint64pow10", "math/bits.deBruijn32tab", "math/bits.deBruijn64tab"], loops := true, apart := false, laid := [("math/bits.deBruijn32tab", laid_math_bits_deBruijn32tab), ("math/bits.deBruijn64tab", laid_math_bits_deBruijn64tab), ("internal/strconv.uint64pow10", laid_internal_strconv_uint64pow10)] }
def InterOrderSaid : Prop := interOrderRow.holds Tryd.pinned (OpenSpec.ofChange interOrderSpec)

/-- ITS FALSE NEIGHBOUR: 'it returns false'. Refute it at one input. -/
def interOrderWrong : ChangeSpec := { name := "interOrder", fn := fun _ => fun
  | [d1, d2, d3] => { results := [.lit (.bool false)], args := [d1, d2, d3] }
  | _ => none }
def InterOrderWrongFalsely : Prop := interOrderRow.holds Tryd.pinned (OpenSpec.ofChange interOrderWrong)

/-- 'virgationlaw12.InterCheck': WHATEVER THE INPUT: true; the input reads as it did. -/
def interCheckSpec : ChangeSpec := { name := "interCheck", fn := fun _ => fun
  | [d1, d2, d3] => { results := [.lit (.bool true)], args := [d1, d2, d3] }
  | _ => none }
def interCheckRow : OpenClaim := { program := "ytmdgoalekkkpnaadoor", sum := "82d67761a76a7546f6732f11989b773ae6ab66ce7f5ca58e22ee3fc32374f7d2", func := "virgation/virgationlaw12.InterCheck", spec := "interCheck", inPlace := ["internal/abi.NoEscape"], unfollowed := true, recurses := true, named := ["internal/strconv.uint64pow10", "math/bits.deBruijn32tab", "math/bits.deBruijn64tab"], loops := true, apart := false, laid := [("math/bits.deBruijn32tab", laid_math_bits_deBruijn32tab), ("math/bits.deBruijn64tab", laid_math_bits_deBruijn64tab), ("internal/strconv.uint64pow10", laid_internal_strconv_uint64pow10)] }
def InterCheckSaid : Prop := interCheckRow.holds Tryd.pinned (OpenSpec.ofChange interCheckSpec)

/-- ITS FALSE NEIGHBOUR: 'it returns false'. Refute it at one input. -/
def interCheckWrong : ChangeSpec := { name := "interCheck", fn := fun _ => fun
  | [d1, d2, d3] => { results := [.lit (.bool false)], args := [d1, d2, d3] }
  | _ => none }
def InterCheckWrongFalsely : Prop := interCheckRow.holds Tryd.pinned (OpenSpec.ofChange interCheckWrong)

/-- 'virgationlaw12.InterSets': WHATEVER THE INPUT: true; the input reads as it did. -/
def interSetsSpec : ChangeSpec := { name := "interSets", fn := fun _ => fun
  | [d1, d2, d3] => { results := [.lit (.bool true)], args := [d1, d2, d3] }
  | _ => none }
def interSetsRow : OpenClaim := { program := "ytmdgoalekkkpnaadoor", sum := "82d67761a76a7546f6732f11989b773ae6ab66ce7f5ca58e22ee3fc32374f7d2", func := "virgation/virgationlaw12.InterSets", spec := "interSets", inPlace := ["internal/abi.NoEscape"], unfollowed := true, recurses := true, named := ["internal/strconv.uint64pow10", "math/bits.deBruijn32tab", "math/bits.deBruijn64tab"], loops := true, apart := false, laid := [("math/bits.deBruijn32tab", laid_math_bits_deBruijn32tab), ("math/bits.deBruijn64tab", laid_math_bits_deBruijn64tab), ("internal/strconv.uint64pow10", laid_internal_strconv_uint64pow10)] }
def InterSetsSaid : Prop := interSetsRow.holds Tryd.pinned (OpenSpec.ofChange interSetsSpec)

/-- ITS FALSE NEIGHBOUR: 'it returns false'. Refute it at one input. -/
def interSetsWrong : ChangeSpec := { name := "interSets", fn := fun _ => fun
  | [d1, d2, d3] => { results := [.lit (.bool false)], args := [d1, d2, d3] }
  | _ => none }
def InterSetsWrongFalsely : Prop := interSetsRow.holds Tryd.pinned (OpenSpec.ofChange interSetsWrong)

/-- 'virgationlaw12.InterSet': WHATEVER THE INPUT: true; the input reads as it did. -/
def interSetSpec : ChangeSpec := { name := "interSet", fn := fun _ => fun
  | [d] => { results := [.lit (.bool true)], args := [d] }
  | _ => none }
def interSetRow : OpenClaim := { program := "ytmdgoalekkkpnaadoor", sum := "82d67761a76a7546f6732f11989b773ae6ab66ce7f5ca58e22ee3fc32374f7d2", func := "virgation/virgationlaw12.InterSet", spec := "interSet", inPlace := ["internal/abi.NoEscape"], unfollowed := true, recurses := true, named := ["internal/strconv.uint64pow10", "math/bits.deBruijn32tab", "math/bits.deBruijn64tab"], loops := true, apart := false, laid := [("math/bits.deBruijn32tab", laid_math_bits_deBruijn32tab), ("math/bits.deBruijn64tab", laid_math_bits_deBruijn64tab), ("internal/strconv.uint64pow10", laid_internal_strconv_uint64pow10)] }
def InterSetSaid : Prop := interSetRow.holds Tryd.pinned (OpenSpec.ofChange interSetSpec)

/-- ITS FALSE NEIGHBOUR: 'it returns false'. Refute it at one input. -/
def interSetWrong : ChangeSpec := { name := "interSet", fn := fun _ => fun
  | [d] => { results := [.lit (.bool false)], args := [d] }
  | _ => none }
def InterSetWrongFalsely : Prop := interSetRow.holds Tryd.pinned (OpenSpec.ofChange interSetWrong)

/-- 'virgationlaw12.InterValid': WHATEVER THE INPUT: true; the input reads as it did. -/
def interValidSpec : ChangeSpec := { name := "interValid", fn := fun _ => fun
  | [d1, d2, d3] => { results := [.lit (.bool true)], args := [d1, d2, d3] }
  | _ => none }
def interValidRow : OpenClaim := { program := "ytmdgoalekkkpnaadoor", sum := "82d67761a76a7546f6732f11989b773ae6ab66ce7f5ca58e22ee3fc32374f7d2", func := "virgation/virgationlaw12.InterValid", spec := "interValid", inPlace := ["internal/abi.NoEscape"], unfollowed := true, recurses := true, named := ["internal/strconv.uint64pow10", "math/bits.deBruijn32tab", "math/bits.deBruijn64tab"], loops := true, apart := false, laid := [("math/bits.deBruijn32tab", laid_math_bits_deBruijn32tab), ("math/bits.deBruijn64tab", laid_math_bits_deBruijn64tab), ("internal/strconv.uint64pow10", laid_internal_strconv_uint64pow10)] }
def InterValidSaid : Prop := interValidRow.holds Tryd.pinned (OpenSpec.ofChange interValidSpec)

/-- ITS FALSE NEIGHBOUR: 'it returns false'. Refute it at one input. -/
def interValidWrong : ChangeSpec := { name := "interValid", fn := fun _ => fun
  | [d1, d2, d3] => { results := [.lit (.bool false)], args := [d1, d2, d3] }
  | _ => none }
def InterValidWrongFalsely : Prop := interValidRow.holds Tryd.pinned (OpenSpec.ofChange interValidWrong)

/-- 'virgationlaw12.InterOwn': WHATEVER THE INPUT: true; the input reads as it did. -/
def interOwnSpec : ChangeSpec := { name := "interOwn", fn := fun _ => fun
  | [d1, d2, d3] => { results := [.lit (.bool true)], args := [d1, d2, d3] }
  | _ => none }
def interOwnRow : OpenClaim := { program := "ytmdgoalekkkpnaadoor", sum := "82d67761a76a7546f6732f11989b773ae6ab66ce7f5ca58e22ee3fc32374f7d2", func := "virgation/virgationlaw12.InterOwn", spec := "interOwn", inPlace := ["internal/abi.NoEscape"], unfollowed := true, recurses := true, named := ["internal/strconv.uint64pow10", "math/bits.deBruijn32tab", "math/bits.deBruijn64tab"], loops := true, apart := false, laid := [("math/bits.deBruijn32tab", laid_math_bits_deBruijn32tab), ("math/bits.deBruijn64tab", laid_math_bits_deBruijn64tab), ("internal/strconv.uint64pow10", laid_internal_strconv_uint64pow10)] }
def InterOwnSaid : Prop := interOwnRow.holds Tryd.pinned (OpenSpec.ofChange interOwnSpec)

/-- ITS FALSE NEIGHBOUR: 'it returns false'. Refute it at one input. -/
def interOwnWrong : ChangeSpec := { name := "interOwn", fn := fun _ => fun
  | [d1, d2, d3] => { results := [.lit (.bool false)], args := [d1, d2, d3] }
  | _ => none }
def InterOwnWrongFalsely : Prop := interOwnRow.holds Tryd.pinned (OpenSpec.ofChange interOwnWrong)

/- THE SECOND FORM. 'bulk': how many values and letters a reading holds, each counted each time it is reached (what is shared counts as often as it is met; a slice's spare places count too). A statement '..UptoSaid' is the law's where the arguments, and the package variables that the reading takes, are together of bulk at most 1048576: NARROWER than '..Said'. Prove '..Said' where nothing that the law and all that it calls make is longer than what came in: it says more and counts as full. Else prove '..UptoSaid'. A law counts once. -/
mutual
def uptoBulk {H : Type} : DataW H → Nat
  | .lit (.string bytes) => bytes.length + 1
  | .lit _ => 1
  | .nil => 1
  | .ptr d => uptoBulk d + 1
  | .slice elems spare => uptoBulkAll elems + uptoBulkAll spare + 1
  | .agg parts => uptoBulkAll parts + 1
  | .iface _ d => uptoBulk d + 1
  | .map entries => uptoBulkEntries entries + 1
  | .held _ => 1
def uptoBulkAll {H : Type} : List (DataW H) → Nat
  | [] => 0
  | d :: r => uptoBulk d + uptoBulkAll r
def uptoBulkEntries {H : Type} : List (Lit × DataW H) → Nat
  | [] => 0
  | x :: r => uptoBulkEntry x + uptoBulkEntries r
def uptoBulkEntry {H : Type} : Lit × DataW H → Nat
  | (.string bytes, d) => bytes.length + uptoBulk d + 1
  | (_, d) => uptoBulk d + 1
 end
def uptoSmall : (H : Type) → List (DataW H) → Bool := fun _ ds => decide (uptoBulkAll ds ≤ 1048576)
def OpenSpec.upto (s : _root_.Go.ChangeSpec) : _root_.Go.OpenSpec := { _root_.Go.OpenSpec.ofChange s with cond := some uptoSmall }

/-- 'virgationlaw12.InterPut', WHERE WHAT IT READS IS OF BULK AT MOST 1048576: true; the input reads as it did. -/
def interPutUptoRow : OpenClaim := { program := "ytmdgoalekkkpnaadoor", sum := "82d67761a76a7546f6732f11989b773ae6ab66ce7f5ca58e22ee3fc32374f7d2", func := "virgation/virgationlaw12.InterPut", spec := "interPut", inPlace := ["internal/abi.NoEscape"], unfollowed := true, recurses := true, named := ["internal/strconv.uint64pow10", "math/bits.deBruijn32tab", "math/bits.deBruijn64tab"], loops := true, apart := false, laid := [("math/bits.deBruijn32tab", laid_math_bits_deBruijn32tab), ("math/bits.deBruijn64tab", laid_math_bits_deBruijn64tab), ("internal/strconv.uint64pow10", laid_internal_strconv_uint64pow10)], narrowed := true }
def InterPutUptoSaid : Prop := interPutUptoRow.holds Tryd.pinned (OpenSpec.upto interPutSpec)

/-- 'virgationlaw12.InterGet', WHERE WHAT IT READS IS OF BULK AT MOST 1048576: true; the input reads as it did. -/
def interGetUptoRow : OpenClaim := { program := "ytmdgoalekkkpnaadoor", sum := "82d67761a76a7546f6732f11989b773ae6ab66ce7f5ca58e22ee3fc32374f7d2", func := "virgation/virgationlaw12.InterGet", spec := "interGet", inPlace := ["internal/abi.NoEscape"], unfollowed := true, recurses := true, named := ["internal/strconv.uint64pow10", "math/bits.deBruijn32tab", "math/bits.deBruijn64tab"], apart := false, laid := [("math/bits.deBruijn32tab", laid_math_bits_deBruijn32tab), ("math/bits.deBruijn64tab", laid_math_bits_deBruijn64tab), ("internal/strconv.uint64pow10", laid_internal_strconv_uint64pow10)], narrowed := true }
def InterGetUptoSaid : Prop := interGetUptoRow.holds Tryd.pinned (OpenSpec.upto interGetSpec)

/-- 'virgationlaw12.InterStrength', WHERE WHAT IT READS IS OF BULK AT MOST 1048576: true; the input reads as it did. -/
def interStrengthUptoRow : OpenClaim := { program := "ytmdgoalekkkpnaadoor", sum := "82d67761a76a7546f6732f11989b773ae6ab66ce7f5ca58e22ee3fc32374f7d2", func := "virgation/virgationlaw12.InterStrength", spec := "interStrength", inPlace := ["internal/abi.NoEscape"], unfollowed := true, recurses := true, named := ["internal/strconv.uint64pow10", "math/bits.deBruijn32tab", "math/bits.deBruijn64tab"], loops := true, apart := false, laid := [("math/bits.deBruijn32tab", laid_math_bits_deBruijn32tab), ("math/bits.deBruijn64tab", laid_math_bits_deBruijn64tab), ("internal/strconv.uint64pow10", laid_internal_strconv_uint64pow10)], narrowed := true }
def InterStrengthUptoSaid : Prop := interStrengthUptoRow.holds Tryd.pinned (OpenSpec.upto interStrengthSpec)

/-- 'virgationlaw12.InterLess', WHERE WHAT IT READS IS OF BULK AT MOST 1048576: true; the input reads as it did. -/
def interLessUptoRow : OpenClaim := { program := "ytmdgoalekkkpnaadoor", sum := "82d67761a76a7546f6732f11989b773ae6ab66ce7f5ca58e22ee3fc32374f7d2", func := "virgation/virgationlaw12.InterLess", spec := "interLess", inPlace := ["internal/abi.NoEscape"], unfollowed := true, recurses := true, named := ["internal/strconv.uint64pow10", "math/bits.deBruijn32tab", "math/bits.deBruijn64tab"], loops := true, apart := false, laid := [("math/bits.deBruijn32tab", laid_math_bits_deBruijn32tab), ("math/bits.deBruijn64tab", laid_math_bits_deBruijn64tab), ("internal/strconv.uint64pow10", laid_internal_strconv_uint64pow10)], narrowed := true }
def InterLessUptoSaid : Prop := interLessUptoRow.holds Tryd.pinned (OpenSpec.upto interLessSpec)

/-- 'virgationlaw12.InterRound', WHERE WHAT IT READS IS OF BULK AT MOST 1048576: true; the input reads as it did. -/
def interRoundUptoRow : OpenClaim := { program := "ytmdgoalekkkpnaadoor", sum := "82d67761a76a7546f6732f11989b773ae6ab66ce7f5ca58e22ee3fc32374f7d2", func := "virgation/virgationlaw12.InterRound", spec := "interRound", inPlace := ["internal/abi.NoEscape"], unfollowed := true, recurses := true, named := ["internal/strconv.uint64pow10", "math/bits.deBruijn32tab", "math/bits.deBruijn64tab"], loops := true, apart := false, laid := [("math/bits.deBruijn32tab", laid_math_bits_deBruijn32tab), ("math/bits.deBruijn64tab", laid_math_bits_deBruijn64tab), ("internal/strconv.uint64pow10", laid_internal_strconv_uint64pow10)], narrowed := true }
def InterRoundUptoSaid : Prop := interRoundUptoRow.holds Tryd.pinned (OpenSpec.upto interRoundSpec)

/-- 'virgationlaw12.InterCompare', WHERE WHAT IT READS IS OF BULK AT MOST 1048576: true; the input reads as it did. -/
def interCompareUptoRow : OpenClaim := { program := "ytmdgoalekkkpnaadoor", sum := "82d67761a76a7546f6732f11989b773ae6ab66ce7f5ca58e22ee3fc32374f7d2", func := "virgation/virgationlaw12.InterCompare", spec := "interCompare", inPlace := ["internal/abi.NoEscape"], unfollowed := true, recurses := true, named := ["internal/strconv.uint64pow10", "math/bits.deBruijn32tab", "math/bits.deBruijn64tab"], loops := true, apart := false, laid := [("math/bits.deBruijn32tab", laid_math_bits_deBruijn32tab), ("math/bits.deBruijn64tab", laid_math_bits_deBruijn64tab), ("internal/strconv.uint64pow10", laid_internal_strconv_uint64pow10)], narrowed := true }
def InterCompareUptoSaid : Prop := interCompareUptoRow.holds Tryd.pinned (OpenSpec.upto interCompareSpec)

/-- 'virgationlaw12.InterOrder', WHERE WHAT IT READS IS OF BULK AT MOST 1048576: true; the input reads as it did. -/
def interOrderUptoRow : OpenClaim := { program := "ytmdgoalekkkpnaadoor", sum := "82d67761a76a7546f6732f11989b773ae6ab66ce7f5ca58e22ee3fc32374f7d2", func := "virgation/virgationlaw12.InterOrder", spec := "interOrder", inPlace := ["internal/abi.NoEscape"], unfollowed := true, recurses := true, named := ["internal/strconv.uint64pow10", "math/bits.deBruijn32tab", "math/bits.deBruijn64tab"], loops := true, apart := false, laid := [("math/bits.deBruijn32tab", laid_math_bits_deBruijn32tab), ("math/bits.deBruijn64tab", laid_math_bits_deBruijn64tab), ("internal/strconv.uint64pow10", laid_internal_strconv_uint64pow10)], narrowed := true }
def InterOrderUptoSaid : Prop := interOrderUptoRow.holds Tryd.pinned (OpenSpec.upto interOrderSpec)

/-- 'virgationlaw12.InterCheck', WHERE WHAT IT READS IS OF BULK AT MOST 1048576: true; the input reads as it did. -/
def interCheckUptoRow : OpenClaim := { program := "ytmdgoalekkkpnaadoor", sum := "82d67761a76a7546f6732f11989b773ae6ab66ce7f5ca58e22ee3fc32374f7d2", func := "virgation/virgationlaw12.InterCheck", spec := "interCheck", inPlace := ["internal/abi.NoEscape"], unfollowed := true, recurses := true, named := ["internal/strconv.uint64pow10", "math/bits.deBruijn32tab", "math/bits.deBruijn64tab"], loops := true, apart := false, laid := [("math/bits.deBruijn32tab", laid_math_bits_deBruijn32tab), ("math/bits.deBruijn64tab", laid_math_bits_deBruijn64tab), ("internal/strconv.uint64pow10", laid_internal_strconv_uint64pow10)], narrowed := true }
def InterCheckUptoSaid : Prop := interCheckUptoRow.holds Tryd.pinned (OpenSpec.upto interCheckSpec)

/-- 'virgationlaw12.InterSets', WHERE WHAT IT READS IS OF BULK AT MOST 1048576: true; the input reads as it did. -/
def interSetsUptoRow : OpenClaim := { program := "ytmdgoalekkkpnaadoor", sum := "82d67761a76a7546f6732f11989b773ae6ab66ce7f5ca58e22ee3fc32374f7d2", func := "virgation/virgationlaw12.InterSets", spec := "interSets", inPlace := ["internal/abi.NoEscape"], unfollowed := true, recurses := true, named := ["internal/strconv.uint64pow10", "math/bits.deBruijn32tab", "math/bits.deBruijn64tab"], loops := true, apart := false, laid := [("math/bits.deBruijn32tab", laid_math_bits_deBruijn32tab), ("math/bits.deBruijn64tab", laid_math_bits_deBruijn64tab), ("internal/strconv.uint64pow10", laid_internal_strconv_uint64pow10)], narrowed := true }
def InterSetsUptoSaid : Prop := interSetsUptoRow.holds Tryd.pinned (OpenSpec.upto interSetsSpec)

/-- 'virgationlaw12.InterSet', WHERE WHAT IT READS IS OF BULK AT MOST 1048576: true; the input reads as it did. -/
def interSetUptoRow : OpenClaim := { program := "ytmdgoalekkkpnaadoor", sum := "82d67761a76a7546f6732f11989b773ae6ab66ce7f5ca58e22ee3fc32374f7d2", func := "virgation/virgationlaw12.InterSet", spec := "interSet", inPlace := ["internal/abi.NoEscape"], unfollowed := true, recurses := true, named := ["internal/strconv.uint64pow10", "math/bits.deBruijn32tab", "math/bits.deBruijn64tab"], loops := true, apart := false, laid := [("math/bits.deBruijn32tab", laid_math_bits_deBruijn32tab), ("math/bits.deBruijn64tab", laid_math_bits_deBruijn64tab), ("internal/strconv.uint64pow10", laid_internal_strconv_uint64pow10)], narrowed := true }
def InterSetUptoSaid : Prop := interSetUptoRow.holds Tryd.pinned (OpenSpec.upto interSetSpec)

/-- 'virgationlaw12.InterValid', WHERE WHAT IT READS IS OF BULK AT MOST 1048576: true; the input reads as it did. -/
def interValidUptoRow : OpenClaim := { program := "ytmdgoalekkkpnaadoor", sum := "82d67761a76a7546f6732f11989b773ae6ab66ce7f5ca58e22ee3fc32374f7d2", func := "virgation/virgationlaw12.InterValid", spec := "interValid", inPlace := ["internal/abi.NoEscape"], unfollowed := true, recurses := true, named := ["internal/strconv.uint64pow10", "math/bits.deBruijn32tab", "math/bits.deBruijn64tab"], loops := true, apart := false, laid := [("math/bits.deBruijn32tab", laid_math_bits_deBruijn32tab), ("math/bits.deBruijn64tab", laid_math_bits_deBruijn64tab), ("internal/strconv.uint64pow10", laid_internal_strconv_uint64pow10)], narrowed := true }
def InterValidUptoSaid : Prop := interValidUptoRow.holds Tryd.pinned (OpenSpec.upto interValidSpec)

/-- 'virgationlaw12.InterOwn', WHERE WHAT IT READS IS OF BULK AT MOST 1048576: true; the input reads as it did. -/
def interOwnUptoRow : OpenClaim := { program := "ytmdgoalekkkpnaadoor", sum := "82d67761a76a7546f6732f11989b773ae6ab66ce7f5ca58e22ee3fc32374f7d2", func := "virgation/virgationlaw12.InterOwn", spec := "interOwn", inPlace := ["internal/abi.NoEscape"], unfollowed := true, recurses := true, named := ["internal/strconv.uint64pow10", "math/bits.deBruijn32tab", "math/bits.deBruijn64tab"], loops := true, apart := false, laid := [("math/bits.deBruijn32tab", laid_math_bits_deBruijn32tab), ("math/bits.deBruijn64tab", laid_math_bits_deBruijn64tab), ("internal/strconv.uint64pow10", laid_internal_strconv_uint64pow10)], narrowed := true }
def InterOwnUptoSaid : Prop := interOwnUptoRow.holds Tryd.pinned (OpenSpec.upto interOwnSpec)

end Rows
end Go.Proofs.YtmdgoalekkkpnaaDoor
