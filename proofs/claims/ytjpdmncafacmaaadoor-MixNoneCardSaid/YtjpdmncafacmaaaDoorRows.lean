/-
  NARROWER THAN 'FOR EVERY INPUT', by the rows' own cells (each row's printed sentence says how): MixAnd: laid · MixOr: laid · MixReach: laid · MixPlain: laid · MixNone: laid.
  DERIVED. THE GIVEN ROWS OF THIS SEAT. 5 by the template 'for every input the law returns true; each argument reads behind the call as it read before'; 0 by the template 'total and deterministic' (their statements: YtjpdmncafacmaaaDoorTotals.lean).
  GIVEN WITH THE SEED: the statements are not yours to turn. If you find one false, say at which input.
  Laid BY PROGRAM, IN A SANDBOX (cutbox-rows.mjs): the forced cells as the released guide's own fill.sh prints them over the translation 80158adc480c747c… (all of the seat's roots in one cut). By AI agents, Wed Nov 11 2026. No macro, syntax, notation, axiom, sorry.
-/
import Derived.Test.YtjpdmncafacmaaaDoorChecked
import GoSem.Claim
import GoSem.ClaimJoined
import GoSem.ClaimMapViews
import Derived.JoinedTies
import Derived.KernelRfl
namespace Go.Proofs.YtjpdmncafacmaaaDoor
/- THE CELL 'sum', in the pinned program and in every row, IS THE sha256 OF THE DUMP (.gsa) THAT YtjpdmncafacmaaaDoorProg.lean LOADS. Nothing in Lean hashes anything: it is a label: what it is worth is what the hold of that sum in a sandbox is worth. -/
noncomputable def Tryd.pinned : Pinned := { name := "ytjpdmncafacmaaadoor", sum := "80158adc480c747c49ad75fa77d73a031ded14c5a8ee19e23b3c16a6e8db2cbb", checked := Tryd.checked }
namespace Rows
def none {H : Type} : Left H := { results := [], args := [] }

/- WHAT THE LISTED PACKAGE-LEVEL VARIABLES READ AS WHEN THE CALL BEGINS. Each datum BY PROGRAM (the guide's laid-datum.mjs) off the statement by which the dump's own 'gosem.cut.vars' lays the variable. In a bare row this is a premise. The card (YtjpdmncafacmaaaDoorCards.lean) ties it to the program's text. -/
def laid_math_bits_deBruijn32tab {H : Type} : DataW H := .agg [.lit (.int .u8 0), .lit (.int .u8 1), .lit (.int .u8 28), .lit (.int .u8 2), .lit (.int .u8 29), .lit (.int .u8 14), .lit (.int .u8 24), .lit (.int .u8 3), .lit (.int .u8 30), .lit (.int .u8 22), .lit (.int .u8 20), .lit (.int .u8 15), .lit (.int .u8 25), .lit (.int .u8 17), .lit (.int .u8 4), .lit (.int .u8 8), .lit (.int .u8 31), .lit (.int .u8 27), .lit (.int .u8 13), .lit (.int .u8 23), .lit (.int .u8 21), .lit (.int .u8 19), .lit (.int .u8 16), .lit (.int .u8 7), .lit (.int .u8 26), .lit (.int .u8 12), .lit (.int .u8 18), .lit (.int .u8 6), .lit (.int .u8 11), .lit (.int .u8 5), .lit (.int .u8 10), .lit (.int .u8 9)]
def laid_math_bits_deBruijn64tab {H : Type} : DataW H := .agg [.lit (.int .u8 0), .lit (.int .u8 1), .lit (.int .u8 56), .lit (.int .u8 2), .lit (.int .u8 57), .lit (.int .u8 49), .lit (.int .u8 28), .lit (.int .u8 3), .lit (.int .u8 61), .lit (.int .u8 58), .lit (.int .u8 42), .lit (.int .u8 50), .lit (.int .u8 38), .lit (.int .u8 29), .lit (.int .u8 17), .lit (.int .u8 4), .lit (.int .u8 62), .lit (.int .u8 47), .lit (.int .u8 59), .lit (.int .u8 36), .lit (.int .u8 45), .lit (.int .u8 43), .lit (.int .u8 51), .lit (.int .u8 22), .lit (.int .u8 53), .lit (.int .u8 39), .lit (.int .u8 33), .lit (.int .u8 30), .lit (.int .u8 24), .lit (.int .u8 18), .lit (.int .u8 12), .lit (.int .u8 5), .lit (.int .u8 63), .lit (.int .u8 55), .lit (.int .u8 48), .lit (.int .u8 27), .lit (.int .u8 60), .lit (.int .u8 41), .lit (.int .u8 37), .lit (.int .u8 16), .lit (.int .u8 46), .lit (.int .u8 35), .lit (.int .u8 44), .lit (.int .u8 21), .lit (.int .u8 52), .lit (.int .u8 32), .lit (.int .u8 23), .lit (.int .u8 11), .lit (.int .u8 54), .lit (.int .u8 26), .lit (.int .u8 40), .lit (.int .u8 15), .lit (.int .u8 34), .lit (.int .u8 20), .lit (.int .u8 31), .lit (.int .u8 10), .lit (.int .u8 25), .lit (.int .u8 14), .lit (.int .u8 19), .lit (.int .u8 9), .lit (.int .u8 13), .lit (.int .u8 8), .lit (.int .u8 7), .lit (.int .u8 6)]

/-- 'virgationlaw10.MixAnd': WHATEVER THE INPUT: true; the input reads as it did. -/
def mixAndSpec : ChangeSpec := { name := "mixAnd", fn := fun _ => fun
  | [d1, d2] => { results := [.lit (.bool true)], args := [d1, d2] }
  | _ => none }
def mixAndRow : OpenClaim := { program := "ytjpdmncafacmaaadoor", sum := "80158adc480c747c49ad75fa77d73a031ded14c5a8ee19e23b3c16a6e8db2cbb", func := "virgation/virgationlaw10.MixAnd", spec := "mixAnd", unfollowed := true, recurses := true, named := ["math/bits.deBruijn32tab", "math/bits.deBruijn64tab"], apart := false, laid := [("math/bits.deBruijn32tab", laid_math_bits_deBruijn32tab), ("math/bits.deBruijn64tab", laid_math_bits_deBruijn64tab)] }
def MixAndSaid : Prop := mixAndRow.holds Tryd.pinned (OpenSpec.ofChange mixAndSpec)

/-- ITS FALSE NEIGHBOUR: 'it returns false'. Refute it at one input. -/
def mixAndWrong : ChangeSpec := { name := "mixAnd", fn := fun _ => fun
  | [d1, d2] => { results := [.lit (.bool false)], args := [d1, d2] }
  | _ => none }
def MixAndWrongFalsely : Prop := mixAndRow.holds Tryd.pinned (OpenSpec.ofChange mixAndWrong)

/-- 'virgationlaw10.MixOr': WHATEVER THE INPUT: true; the input reads as it did. -/
def mixOrSpec : ChangeSpec := { name := "mixOr", fn := fun _ => fun
  | [d1, d2] => { results := [.lit (.bool true)], args := [d1, d2] }
  | _ => none }
def mixOrRow : OpenClaim := { program := "ytjpdmncafacmaaadoor", sum := "80158adc480c747c49ad75fa77d73a031ded14c5a8ee19e23b3c16a6e8db2cbb", func := "virgation/virgationlaw10.MixOr", spec := "mixOr", unfollowed := true, recurses := true, named := ["math/bits.deBruijn32tab", "math/bits.deBruijn64tab"], apart := false, laid := [("math/bits.deBruijn32tab", laid_math_bits_deBruijn32tab), ("math/bits.deBruijn64tab", laid_math_bits_deBruijn64tab)] }
def MixOrSaid : Prop := mixOrRow.holds Tryd.pinned (OpenSpec.ofChange mixOrSpec)

/-- ITS FALSE NEIGHBOUR: 'it returns false'. Refute it at one input. -/
def mixOrWrong : ChangeSpec := { name := "mixOr", fn := fun _ => fun
  | [d1, d2] => { results := [.lit (.bool false)], args := [d1, d2] }
  | _ => none }
def MixOrWrongFalsely : Prop := mixOrRow.holds Tryd.pinned (OpenSpec.ofChange mixOrWrong)

/-- 'virgationlaw10.MixReach': WHATEVER THE INPUT: true; the input reads as it did. -/
def mixReachSpec : ChangeSpec := { name := "mixReach", fn := fun _ => fun
  | [d] => { results := [.lit (.bool true)], args := [d] }
  | _ => none }
def mixReachRow : OpenClaim := { program := "ytjpdmncafacmaaadoor", sum := "80158adc480c747c49ad75fa77d73a031ded14c5a8ee19e23b3c16a6e8db2cbb", func := "virgation/virgationlaw10.MixReach", spec := "mixReach", unfollowed := true, recurses := true, named := ["math/bits.deBruijn32tab", "math/bits.deBruijn64tab"], apart := false, laid := [("math/bits.deBruijn32tab", laid_math_bits_deBruijn32tab), ("math/bits.deBruijn64tab", laid_math_bits_deBruijn64tab)] }
def MixReachSaid : Prop := mixReachRow.holds Tryd.pinned (OpenSpec.ofChange mixReachSpec)

/-- ITS FALSE NEIGHBOUR: 'it returns false'. Refute it at one input. -/
def mixReachWrong : ChangeSpec := { name := "mixReach", fn := fun _ => fun
  | [d] => { results := [.lit (.bool false)], args := [d] }
  | _ => none }
def MixReachWrongFalsely : Prop := mixReachRow.holds Tryd.pinned (OpenSpec.ofChange mixReachWrong)

/-- 'virgationlaw10.MixPlain': WHATEVER THE INPUT: true; the input reads as it did. -/
def mixPlainSpec : ChangeSpec := { name := "mixPlain", fn := fun _ => fun
  | [d] => { results := [.lit (.bool true)], args := [d] }
  | _ => none }
def mixPlainRow : OpenClaim := { program := "ytjpdmncafacmaaadoor", sum := "80158adc480c747c49ad75fa77d73a031ded14c5a8ee19e23b3c16a6e8db2cbb", func := "virgation/virgationlaw10.MixPlain", spec := "mixPlain", unfollowed := true, recurses := true, named := ["math/bits.deBruijn32tab", "math/bits.deBruijn64tab"], apart := false, laid := [("math/bits.deBruijn32tab", laid_math_bits_deBruijn32tab), ("math/bits.deBruijn64tab", laid_math_bits_deBruijn64tab)] }
def MixPlainSaid : Prop := mixPlainRow.holds Tryd.pinned (OpenSpec.ofChange mixPlainSpec)

/-- ITS FALSE NEIGHBOUR: 'it returns false'. Refute it at one input. -/
def mixPlainWrong : ChangeSpec := { name := "mixPlain", fn := fun _ => fun
  | [d] => { results := [.lit (.bool false)], args := [d] }
  | _ => none }
def MixPlainWrongFalsely : Prop := mixPlainRow.holds Tryd.pinned (OpenSpec.ofChange mixPlainWrong)

/-- 'virgationlaw10.MixNone': WHATEVER THE INPUT: true; the input reads as it did. -/
def mixNoneSpec : ChangeSpec := { name := "mixNone", fn := fun _ => fun
  | [d] => { results := [.lit (.bool true)], args := [d] }
  | _ => none }
def mixNoneRow : OpenClaim := { program := "ytjpdmncafacmaaadoor", sum := "80158adc480c747c49ad75fa77d73a031ded14c5a8ee19e23b3c16a6e8db2cbb", func := "virgation/virgationlaw10.MixNone", spec := "mixNone", unfollowed := true, recurses := true, named := ["math/bits.deBruijn32tab", "math/bits.deBruijn64tab"], apart := false, laid := [("math/bits.deBruijn32tab", laid_math_bits_deBruijn32tab), ("math/bits.deBruijn64tab", laid_math_bits_deBruijn64tab)] }
def MixNoneSaid : Prop := mixNoneRow.holds Tryd.pinned (OpenSpec.ofChange mixNoneSpec)

/-- ITS FALSE NEIGHBOUR: 'it returns false'. Refute it at one input. -/
def mixNoneWrong : ChangeSpec := { name := "mixNone", fn := fun _ => fun
  | [d] => { results := [.lit (.bool false)], args := [d] }
  | _ => none }
def MixNoneWrongFalsely : Prop := mixNoneRow.holds Tryd.pinned (OpenSpec.ofChange mixNoneWrong)

/- THE SECOND FORM. 'bulk': how many values and letters a reading holds, each counted each time it is reached (what is shared counts as often as it is met; a slice's spare places count too). A statement '..UptoSaid' is the law's where the arguments, and the package variables that the reading takes, are together of bulk at most 1048576: NARROWER than '..Said'. Prove '..Said' where nothing that the law and all that it calls make is longer than what came in: it says more and counts as full. Else prove '..UptoSaid'. A law counts once. -/
mutual
def uptoBulk {H : Type} : DataW H → Nat
  | .lit (.string bytes) => bytes.length + 1
  | .lit _ => 1
  | .nil => 1
  | .ptr d => uptoBulk d + 1
  | .slice elems spare => uptoBulkAll elems + uptoBulkAll spare + 1
  | .agg parts => uptoBulkAll parts + 1
  | .iface _ d => uptoBulk d + 1
  | .map entries => uptoBulkEntries entries + 1
  | .held _ => 1
def uptoBulkAll {H : Type} : List (DataW H) → Nat
  | [] => 0
  | d :: r => uptoBulk d + uptoBulkAll r
def uptoBulkEntries {H : Type} : List (Lit × DataW H) → Nat
  | [] => 0
  | x :: r => uptoBulkEntry x + uptoBulkEntries r
def uptoBulkEntry {H : Type} : Lit × DataW H → Nat
  | (.string bytes, d) => bytes.length + uptoBulk d + 1
  | (_, d) => uptoBulk d + 1
 end
def uptoSmall : (H : Type) → List (DataW H) → Bool := fun _ ds => decide (uptoBulkAll ds ≤ 1048576)
def OpenSpec.upto (s : _root_.Go.ChangeSpec) : _root_.Go.OpenSpec := { _root_.Go.OpenSpec.ofChange s with cond := some uptoSmall }

/-- 'virgationlaw10.MixAnd', WHERE WHAT IT READS IS OF BULK AT MOST 1048576: true; the input reads as it did. -/
def mixAndUptoRow : OpenClaim := { program := "ytjpdmncafacmaaadoor", sum := "80158adc480c747c49ad75fa77d73a031ded14c5a8ee19e23b3c16a6e8db2cbb", func := "virgation/virgationlaw10.MixAnd", spec := "mixAnd", unfollowed := true, recurses := true, named := ["math/bits.deBruijn32tab", "math/bits.deBruijn64tab"], apart := false, laid := [("math/bits.deBruijn32tab", laid_math_bits_deBruijn32tab), ("math/bits.deBruijn64tab", laid_math_bits_deBruijn64tab)], narrowed := true }
def MixAndUptoSaid : Prop := mixAndUptoRow.holds Tryd.pinned (OpenSpec.upto mixAndSpec)

/-- 'virgationlaw10.MixOr', WHERE WHAT IT READS IS OF BULK AT MOST 1048576: true; the input reads as it did. -/
def mixOrUptoRow : OpenClaim := { program := "ytjpdmncafacmaaadoor", sum := "80158adc480c747c49ad75fa77d73a031ded14c5a8ee19e23b3c16a6e8db2cbb", func := "virgation/virgationlaw10.MixOr", spec := "mixOr", unfollowed := true, recurses := true, named := ["math/bits.deBruijn32tab", "math/bits.deBruijn64tab"], apart := false, laid := [("math/bits.deBruijn32tab", laid_math_bits_deBruijn32tab), ("math/bits.deBruijn64tab", laid_math_bits_deBruijn64tab)], narrowed := true }
def MixOrUptoSaid : Prop := mixOrUptoRow.holds Tryd.pinned (OpenSpec.upto mixOrSpec)

/-- 'virgationlaw10.MixReach', WHERE WHAT IT READS IS OF BULK AT MOST 1048576: true; the input reads as it did. -/
def mixReachUptoRow : OpenClaim := { program := "ytjpdmncafacmaaadoor", sum := "80158adc480c747c49ad75fa77d73a031ded14c5a8ee19e23b3c16a6e8db2cbb", func := "virgation/virgationlaw10.MixReach", spec := "mixReach", unfollowed := true, recurses := true, named := ["math/bits.deBruijn32tab", "math/bits.deBruijn64tab"], apart := false, laid := [("math/bits.deBruijn32tab", laid_math_bits_deBruijn32tab), ("math/bits.deBruijn64tab", laid_math_bits_deBruijn64tab)], narrowed := true }
def MixReachUptoSaid : Prop := mixReachUptoRow.holds Tryd.pinned (OpenSpec.upto mixReachSpec)

/-- 'virgationlaw10.MixPlain', WHERE WHAT IT READS IS OF BULK AT MOST 1048576: true; the input reads as it did. -/
def mixPlainUptoRow : OpenClaim := { program := "ytjpdmncafacmaaadoor", sum := "80158adc480c747c49ad75fa77d73a031ded14c5a8ee19e23b3c16a6e8db2cbb", func := "virgation/virgationlaw10.MixPlain", spec := "mixPlain", unfollowed := true, recurses := true, named := ["math/bits.deBruijn32tab", "math/bits.deBruijn64tab"], apart := false, laid := [("math/bits.deBruijn32tab", laid_math_bits_deBruijn32tab), ("math/bits.deBruijn64tab", laid_math_bits_deBruijn64tab)], narrowed := true }
def MixPlainUptoSaid : Prop := mixPlainUptoRow.holds Tryd.pinned (OpenSpec.upto mixPlainSpec)

/-- 'virgationlaw10.MixNone', WHERE WHAT IT READS IS OF BULK AT MOST 1048576: true; the input reads as it did. -/
def mixNoneUptoRow : OpenClaim := { program := "ytjpdmncafacmaaadoor", sum := "80158adc480c747c49ad75fa77d73a031ded14c5a8ee19e23b3c16a6e8db2cbb", func := "virgation/virgationlaw10.MixNone", spec := "mixNone", unfollowed := true, recurses := true, named := ["math/bits.deBruijn32tab", "math/bits.deBruijn64tab"], apart := false, laid := [("math/bits.deBruijn32tab", laid_math_bits_deBruijn32tab), ("math/bits.deBruijn64tab", laid_math_bits_deBruijn64tab)], narrowed := true }
def MixNoneUptoSaid : Prop := mixNoneUptoRow.holds Tryd.pinned (OpenSpec.upto mixNoneSpec)

end Rows
end Go.Proofs.YtjpdmncafacmaaaDoor
