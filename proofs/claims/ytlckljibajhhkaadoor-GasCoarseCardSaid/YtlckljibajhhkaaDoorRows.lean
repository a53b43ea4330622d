/-
  NARROWER THAN 'FOR EVERY INPUT', by the rows' own cells (each row's printed sentence says how): GasKeeps: laid · GasRun: laid · GasCoarse: laid · GasStep: laid · GasRound: laid.
  DERIVED. THE GIVEN ROWS OF THIS SEAT. 5 by the template 'for every input the law returns true; each argument reads behind the call as it read before'; 0 by the template 'total and deterministic' (their statements: YtlckljibajhhkaaDoorTotals.lean).
  GIVEN WITH THE SEED: the statements are not yours to turn. If you find one false, say at which input.
  Laid BY PROGRAM, IN A SANDBOX (cutbox-rows.mjs): the forced cells as the released guide's own fill.sh prints them over the translation f44d8e193e8adc24… (all of the seat's roots in one cut). By AI agents, Wed Nov 11 2026. No macro, syntax, notation, axiom, sorry.
-/
import Derived.Test.YtlckljibajhhkaaDoorChecked
import GoSem.PinnedTables
import GoSem.Claim
import GoSem.ClaimJoined
import GoSem.ClaimMapViews
import Derived.JoinedTies
import Derived.KernelRfl
namespace Go.Proofs.YtlckljibajhhkaaDoor
/- THE CELL 'sum', in the pinned program and in every row, IS THE sha256 OF THE DUMP (.gsa) THAT YtlckljibajhhkaaDoorProg.lean LOADS. Nothing in Lean hashes anything: it is a label: what it is worth is what the hold of that sum in a sandbox is worth. -/
noncomputable def Tryd.pinned : Pinned := { name := "ytlckljibajhhkaadoor", sum := "f44d8e193e8adc24485076944f743ad970f111affb0bf54aa6282f678b5ec25a", checked := Tryd.checked }
namespace Rows
def none {H : Type} : Left H := { results := [], args := [] }

/- WHAT THE LISTED PACKAGE-LEVEL VARIABLES READ AS WHEN THE CALL BEGINS. Each datum BY PROGRAM (the guide's laid-datum.mjs) off the statement by which the dump's own 'gosem.cut.vars' lays the variable. In a bare row this is a premise. The card (YtlckljibajhhkaaDoorCards.lean) ties it to the program's text. -/
def laid_unicode_utf8_acceptRanges {H : Type} : DataW H := .agg [.agg [.lit (.int .u8 128), .lit (.int .u8 191)], .agg [.lit (.int .u8 160), .lit (.int .u8 191)], .agg [.lit (.int .u8 128), .lit (.int .u8 159)], .agg [.lit (.int .u8 144), .lit (.int .u8 191)], .agg [.lit (.int .u8 128), .lit (.int .u8 143)], .agg [.lit (.int .u8 0), .lit (.int .u8 0)], .agg [.lit (.int .u8 0), .lit (.int .u8 0)], .agg [.lit (.int .u8 0), .lit (.int .u8 0)], .agg [.lit (.int .u8 0), .lit (.int .u8 0)], .agg [.lit (.int .u8 0), .lit (.int .u8 0)], .agg [.lit (.int .u8 0), .lit (.int .u8 0)], .agg [.lit (.int .u8 0), .lit (.int .u8 0)], .agg [.lit (.int .u8 0), .lit (.int .u8 0)], .agg [.lit (.int .u8 0), .lit (.int .u8 0)], .agg [.lit (.int .u8 0), .lit (.int .u8 0)], .agg [.lit (.int .u8 0), .lit (.int .u8 0)]]
def laid_demon_api_ErrText {H : Type} : DataW H := .iface "*errors.errorString" (.ptr (.agg [.lit (.string [100, 101, 109, 111, 110, 58, 32, 116, 101, 120, 116])]))
def laid_demon_api_ErrBound {H : Type} : DataW H := .iface "*errors.errorString" (.ptr (.agg [.lit (.string [100, 101, 109, 111, 110, 58, 32, 98, 111, 117, 110, 100])]))
def laid_demon_api_ErrShape {H : Type} : DataW H := .iface "*errors.errorString" (.ptr (.agg [.lit (.string [100, 101, 109, 111, 110, 58, 32, 115, 104, 97, 112, 101])]))
/-- One of Go's own tables, pinned by name: the form's constant. -/
def laid_unicode_utf8_first : DataW Unit := Go.Pinned.utf8First
def laid_errors_errorType {H : Type} : DataW H := .iface "internal/reflectlite.rtype" (.agg [.ptr (.lit (.string [101, 114, 114, 111, 114]))])
def laid_demon_api_ErrZero {H : Type} : DataW H := .iface "*errors.errorString" (.ptr (.agg [.lit (.string [100, 101, 109, 111, 110, 58, 32, 122, 101, 114, 111])]))
def laid_demon_api_ErrName {H : Type} : DataW H := .iface "*errors.errorString" (.ptr (.agg [.lit (.string [100, 101, 109, 111, 110, 58, 32, 110, 97, 109, 101])]))
def laid_demon_api_ErrNone {H : Type} : DataW H := .iface "*errors.errorString" (.ptr (.agg [.lit (.string [100, 101, 109, 111, 110, 58, 32, 110, 111, 110, 101])]))
def laid_demon_api_ErrOrder {H : Type} : DataW H := .iface "*errors.errorString" (.ptr (.agg [.lit (.string [100, 101, 109, 111, 110, 58, 32, 111, 114, 100, 101, 114])]))
def laid_demon_api_ErrKind {H : Type} : DataW H := .iface "*errors.errorString" (.ptr (.agg [.lit (.string [100, 101, 109, 111, 110, 58, 32, 107, 105, 110, 100])]))

/-- 'demonlaw5.GasKeeps': WHATEVER THE INPUT: true; the input reads as it did. -/
def gasKeepsSpec : ChangeSpec := { name := "gasKeeps", fn := fun _ => fun
  | [d1, d2, d3, d4] => { results := [.lit (.bool true)], args := [d1, d2, d3, d4] }
  | _ => none }
def gasKeepsRow : OpenClaim := { program := "ytlckljibajhhkaadoor", sum := "f44d8e193e8adc24485076944f743ad970f111affb0bf54aa6282f678b5ec25a", func := "demon/demonlaw5.GasKeeps", spec := "gasKeeps", inPlace := ["internal/bytealg.IndexByteString", "internal/bytealg.IndexString"], named := ["demon/api.ErrBound", "demon/api.ErrShape", "demon/api.ErrText", "unicode/utf8.first", "unicode/utf8.acceptRanges", "internal/bytealg.MaxLen"], apart := false, laid := [("unicode/utf8.acceptRanges", laid_unicode_utf8_acceptRanges), ("demon/api.ErrText", laid_demon_api_ErrText), ("demon/api.ErrBound", laid_demon_api_ErrBound), ("demon/api.ErrShape", laid_demon_api_ErrShape), ("unicode/utf8.first", laid_unicode_utf8_first)] }
def GasKeepsSaid : Prop := gasKeepsRow.holds Tryd.pinned (OpenSpec.ofChange gasKeepsSpec)

/-- ITS FALSE NEIGHBOUR: 'it returns false'. Refute it at one input. -/
def gasKeepsWrong : ChangeSpec := { name := "gasKeeps", fn := fun _ => fun
  | [d1, d2, d3, d4] => { results := [.lit (.bool false)], args := [d1, d2, d3, d4] }
  | _ => none }
def GasKeepsWrongFalsely : Prop := gasKeepsRow.holds Tryd.pinned (OpenSpec.ofChange gasKeepsWrong)

/-- 'demonlaw5.GasRun': WHATEVER THE INPUT: true; the input reads as it did. -/
def gasRunSpec : ChangeSpec := { name := "gasRun", fn := fun _ => fun
  | [d1, d2, d3] => { results := [.lit (.bool true)], args := [d1, d2, d3] }
  | _ => none }
def gasRunRow : OpenClaim := { program := "ytlckljibajhhkaadoor", sum := "f44d8e193e8adc24485076944f743ad970f111affb0bf54aa6282f678b5ec25a", func := "demon/demonlaw5.GasRun", spec := "gasRun", inPlace := ["internal/bytealg.IndexByteString", "internal/bytealg.IndexString", "internal/reflectlite.ValueOf", "(internal/reflectlite.Value).Type", "(internal/reflectlite.Value).IsNil", "internal/reflectlite.TypeOf", "(internal/reflectlite.Value).Elem", "(internal/reflectlite.Value).Set"], unfollowed := true, recurses := true, named := ["demon/api.ErrBound", "demon/api.ErrShape", "demon/api.ErrText", "unicode/utf8.first", "unicode/utf8.acceptRanges", "demon/api.ErrZero", "demon/api.ErrName", "demon/api.ErrNone", "demon/api.ErrOrder", "demon/api.ErrKind", "errors.errorType", "internal/bytealg.MaxLen"], apart := false, laid := [("unicode/utf8.acceptRanges", laid_unicode_utf8_acceptRanges), ("errors.errorType", laid_errors_errorType), ("demon/api.ErrText", laid_demon_api_ErrText), ("demon/api.ErrBound", laid_demon_api_ErrBound), ("demon/api.ErrShape", laid_demon_api_ErrShape), ("demon/api.ErrZero", laid_demon_api_ErrZero), ("demon/api.ErrName", laid_demon_api_ErrName), ("demon/api.ErrNone", laid_demon_api_ErrNone), ("demon/api.ErrOrder", laid_demon_api_ErrOrder), ("demon/api.ErrKind", laid_demon_api_ErrKind), ("unicode/utf8.first", laid_unicode_utf8_first)] }
def GasRunSaid : Prop := gasRunRow.holds Tryd.pinned (OpenSpec.ofChange gasRunSpec)

/-- ITS FALSE NEIGHBOUR: 'it returns false'. Refute it at one input. -/
def gasRunWrong : ChangeSpec := { name := "gasRun", fn := fun _ => fun
  | [d1, d2, d3] => { results := [.lit (.bool false)], args := [d1, d2, d3] }
  | _ => none }
def GasRunWrongFalsely : Prop := gasRunRow.holds Tryd.pinned (OpenSpec.ofChange gasRunWrong)

/-- 'demonlaw5.GasCoarse': WHATEVER THE INPUT: true; the input reads as it did. -/
def gasCoarseSpec : ChangeSpec := { name := "gasCoarse", fn := fun _ => fun
  | [d] => { results := [.lit (.bool true)], args := [d] }
  | _ => none }
def gasCoarseRow : OpenClaim := { program := "ytlckljibajhhkaadoor", sum := "f44d8e193e8adc24485076944f743ad970f111affb0bf54aa6282f678b5ec25a", func := "demon/demonlaw5.GasCoarse", spec := "gasCoarse", inPlace := ["internal/bytealg.IndexByteString", "internal/bytealg.IndexString", "internal/reflectlite.ValueOf", "(internal/reflectlite.Value).Type", "(internal/reflectlite.Value).IsNil", "internal/reflectlite.TypeOf", "(internal/reflectlite.Value).Elem", "(internal/reflectlite.Value).Set"], unfollowed := true, recurses := true, named := ["demon/api.ErrBound", "demon/api.ErrShape", "demon/api.ErrText", "unicode/utf8.first", "unicode/utf8.acceptRanges", "demon/api.ErrZero", "demon/api.ErrName", "demon/api.ErrNone", "demon/api.ErrOrder", "demon/api.ErrKind", "errors.errorType", "internal/bytealg.MaxLen"], apart := false, laid := [("unicode/utf8.acceptRanges", laid_unicode_utf8_acceptRanges), ("errors.errorType", laid_errors_errorType), ("demon/api.ErrText", laid_demon_api_ErrText), ("demon/api.ErrBound", laid_demon_api_ErrBound), ("demon/api.ErrShape", laid_demon_api_ErrShape), ("demon/api.ErrZero", laid_demon_api_ErrZero), ("demon/api.ErrName", laid_demon_api_ErrName), ("demon/api.ErrNone", laid_demon_api_ErrNone), ("demon/api.ErrOrder", laid_demon_api_ErrOrder), ("demon/api.ErrKind", laid_demon_api_ErrKind), ("unicode/utf8.first", laid_unicode_utf8_first)] }
def GasCoarseSaid : Prop := gasCoarseRow.holds Tryd.pinned (OpenSpec.ofChange gasCoarseSpec)

/-- ITS FALSE NEIGHBOUR: 'it returns false'. Refute it at one input. -/
def gasCoarseWrong : ChangeSpec := { name := "gasCoarse", fn := fun _ => fun
  | [d] => { results := [.lit (.bool false)], args := [d] }
  | _ => none }
def GasCoarseWrongFalsely : Prop := gasCoarseRow.holds Tryd.pinned (OpenSpec.ofChange gasCoarseWrong)

/-- 'demonlaw5.GasStep': WHATEVER THE INPUT: true; the input reads as it did. -/
def gasStepSpec : ChangeSpec := { name := "gasStep", fn := fun _ => fun
  | [d1, d2, d3] => { results := [.lit (.bool true)], args := [d1, d2, d3] }
  | _ => none }
def gasStepRow : OpenClaim := { program := "ytlckljibajhhkaadoor", sum := "f44d8e193e8adc24485076944f743ad970f111affb0bf54aa6282f678b5ec25a", func := "demon/demonlaw5.GasStep", spec := "gasStep", inPlace := ["internal/bytealg.IndexByteString", "internal/bytealg.IndexString", "internal/reflectlite.ValueOf", "(internal/reflectlite.Value).Type", "(internal/reflectlite.Value).IsNil", "internal/reflectlite.TypeOf", "(internal/reflectlite.Value).Elem", "(internal/reflectlite.Value).Set"], unfollowed := true, recurses := true, named := ["demon/api.ErrBound", "demon/api.ErrShape", "demon/api.ErrText", "unicode/utf8.first", "unicode/utf8.acceptRanges", "demon/api.ErrZero", "demon/api.ErrName", "demon/api.ErrNone", "demon/api.ErrOrder", "demon/api.ErrKind", "errors.errorType", "internal/bytealg.MaxLen"], apart := false, laid := [("unicode/utf8.acceptRanges", laid_unicode_utf8_acceptRanges), ("errors.errorType", laid_errors_errorType), ("demon/api.ErrText", laid_demon_api_ErrText), ("demon/api.ErrBound", laid_demon_api_ErrBound), ("demon/api.ErrShape", laid_demon_api_ErrShape), ("demon/api.ErrZero", laid_demon_api_ErrZero), ("demon/api.ErrName", laid_demon_api_ErrName), ("demon/api.ErrNone", laid_demon_api_ErrNone), ("demon/api.ErrOrder", laid_demon_api_ErrOrder), ("demon/api.ErrKind", laid_demon_api_ErrKind), ("unicode/utf8.first", laid_unicode_utf8_first)] }
def GasStepSaid : Prop := gasStepRow.holds Tryd.pinned (OpenSpec.ofChange gasStepSpec)

/-- ITS FALSE NEIGHBOUR: 'it returns false'. Refute it at one input. -/
def gasStepWrong : ChangeSpec := { name := "gasStep", fn := fun _ => fun
  | [d1, d2, d3] => { results := [.lit (.bool false)], args := [d1, d2, d3] }
  | _ => none }
def GasStepWrongFalsely : Prop := gasStepRow.holds Tryd.pinned (OpenSpec.ofChange gasStepWrong)

/-- 'demonlaw5.GasRound': WHATEVER THE INPUT: true; the input reads as it did. -/
def gasRoundSpec : ChangeSpec := { name := "gasRound", fn := fun _ => fun
  | [d1, d2] => { results := [.lit (.bool true)], args := [d1, d2] }
  | _ => none }
def gasRoundRow : OpenClaim := { program := "ytlckljibajhhkaadoor", sum := "f44d8e193e8adc24485076944f743ad970f111affb0bf54aa6282f678b5ec25a", func := "demon/demonlaw5.GasRound", spec := "gasRound", inPlace := ["internal/bytealg.IndexByteString", "internal/bytealg.IndexString", "internal/reflectlite.ValueOf", "(internal/reflectlite.Value).Type", "(internal/reflectlite.Value).IsNil", "internal/reflectlite.TypeOf", "(internal/reflectlite.Value).Elem", "(internal/reflectlite.Value).Set"], unfollowed := true, recurses := true, named := ["demon/api.ErrBound", "demon/api.ErrShape", "demon/api.ErrText", "unicode/utf8.first", "unicode/utf8.acceptRanges", "demon/api.ErrZero", "demon/api.ErrName", "demon/api.ErrNone", "demon/api.ErrOrder", "demon/api.ErrKind", "errors.errorType", "internal/bytealg.MaxLen"], apart := false, laid := [("unicode/utf8.acceptRanges", laid_unicode_utf8_acceptRanges), ("errors.errorType", laid_errors_errorType), ("demon/api.ErrText", laid_demon_api_ErrText), ("demon/api.ErrBound", laid_demon_api_ErrBound), ("demon/api.ErrShape", laid_demon_api_ErrShape), ("demon/api.ErrZero", laid_demon_api_ErrZero), ("demon/api.ErrName", laid_demon_api_ErrName), ("demon/api.ErrNone", laid_demon_api_ErrNone), ("demon/api.ErrOrder", laid_demon_api_ErrOrder), ("demon/api.ErrKind", laid_demon_api_ErrKind), ("unicode/utf8.first", laid_unicode_utf8_first)] }
def GasRoundSaid : Prop := gasRoundRow.holds Tryd.pinned (OpenSpec.ofChange gasRoundSpec)

/-- ITS FALSE NEIGHBOUR: 'it returns false'. Refute it at one input. -/
def gasRoundWrong : ChangeSpec := { name := "gasRound", fn := fun _ => fun
  | [d1, d2] => { results := [.lit (.bool false)], args := [d1, d2] }
  | _ => none }
def GasRoundWrongFalsely : Prop := gasRoundRow.holds Tryd.pinned (OpenSpec.ofChange gasRoundWrong)

/- THE SECOND FORM. 'bulk': how many values and letters a reading holds, each counted each time it is reached (what is shared counts as often as it is met; a slice's spare places count too). A statement '..UptoSaid' is the law's where the arguments, and the package variables that the reading takes, are together of bulk at most 1048576: NARROWER than '..Said'. Prove '..Said' where nothing that the law and all that it calls make is longer than what came in: it says more and counts as full. Else prove '..UptoSaid'. A law counts once. -/
mutual
def uptoBulk {H : Type} : DataW H → Nat
  | .lit (.string bytes) => bytes.length + 1
  | .lit _ => 1
  | .nil => 1
  | .ptr d => uptoBulk d + 1
  | .slice elems spare => uptoBulkAll elems + uptoBulkAll spare + 1
  | .agg parts => uptoBulkAll parts + 1
  | .iface _ d => uptoBulk d + 1
  | .map entries => uptoBulkEntries entries + 1
  | .held _ => 1
def uptoBulkAll {H : Type} : List (DataW H) → Nat
  | [] => 0
  | d :: r => uptoBulk d + uptoBulkAll r
def uptoBulkEntries {H : Type} : List (Lit × DataW H) → Nat
  | [] => 0
  | x :: r => uptoBulkEntry x + uptoBulkEntries r
def uptoBulkEntry {H : Type} : Lit × DataW H → Nat
  | (.string bytes, d) => bytes.length + uptoBulk d + 1
  | (_, d) => uptoBulk d + 1
 end
def uptoSmall : (H : Type) → List (DataW H) → Bool := fun _ ds => decide (uptoBulkAll ds ≤ 1048576)
def OpenSpec.upto (s : _root_.Go.ChangeSpec) : _root_.Go.OpenSpec := { _root_.Go.OpenSpec.ofChange s with cond := some uptoSmall }

/-- 'demonlaw5.GasKeeps', WHERE WHAT IT READS IS OF BULK AT MOST 1048576: true; the input reads as it did. -/
def gasKeepsUptoRow : OpenClaim := { program := "ytlckljibajhhkaadoor", sum := "f44d8e193e8adc24485076944f743ad970f111affb0bf54aa6282f678b5ec25a", func := "demon/demonlaw5.GasKeeps", spec := "gasKeeps", inPlace := ["internal/bytealg.IndexByteString", "internal/bytealg.IndexString"], named := ["demon/api.ErrBound", "demon/api.ErrShape", "demon/api.ErrText", "unicode/utf8.first", "unicode/utf8.acceptRanges", "internal/bytealg.MaxLen"], apart := false, laid := [("unicode/utf8.acceptRanges", laid_unicode_utf8_acceptRanges), ("demon/api.ErrText", laid_demon_api_ErrText), ("demon/api.ErrBound", laid_demon_api_ErrBound), ("demon/api.ErrShape", laid_demon_api_ErrShape), ("unicode/utf8.first", laid_unicode_utf8_first)], narrowed := true }
def GasKeepsUptoSaid : Prop := gasKeepsUptoRow.holds Tryd.pinned (OpenSpec.upto gasKeepsSpec)

/-- 'demonlaw5.GasRun', WHERE WHAT IT READS IS OF BULK AT MOST 1048576: true; the input reads as it did. -/
def gasRunUptoRow : OpenClaim := { program := "ytlckljibajhhkaadoor", sum := "f44d8e193e8adc24485076944f743ad970f111affb0bf54aa6282f678b5ec25a", func := "demon/demonlaw5.GasRun", spec := "gasRun", inPlace := ["internal/bytealg.IndexByteString", "internal/bytealg.IndexString", "internal/reflectlite.ValueOf", "(internal/reflectlite.Value).Type", "(internal/reflectlite.Value).IsNil", "internal/reflectlite.TypeOf", "(internal/reflectlite.Value).Elem", "(internal/reflectlite.Value).Set"], unfollowed := true, recurses := true, named := ["demon/api.ErrBound", "demon/api.ErrShape", "demon/api.ErrText", "unicode/utf8.first", "unicode/utf8.acceptRanges", "demon/api.ErrZero", "demon/api.ErrName", "demon/api.ErrNone", "demon/api.ErrOrder", "demon/api.ErrKind", "errors.errorType", "internal/bytealg.MaxLen"], apart := false, laid := [("unicode/utf8.acceptRanges", laid_unicode_utf8_acceptRanges), ("errors.errorType", laid_errors_errorType), ("demon/api.ErrText", laid_demon_api_ErrText), ("demon/api.ErrBound", laid_demon_api_ErrBound), ("demon/api.ErrShape", laid_demon_api_ErrShape), ("demon/api.ErrZero", laid_demon_api_ErrZero), ("demon/api.ErrName", laid_demon_api_ErrName), ("demon/api.ErrNone", laid_demon_api_ErrNone), ("demon/api.ErrOrder", laid_demon_api_ErrOrder), ("demon/api.ErrKind", laid_demon_api_ErrKind), ("unicode/utf8.first", laid_unicode_utf8_first)], narrowed := true }
def GasRunUptoSaid : Prop := gasRunUptoRow.holds Tryd.pinned (OpenSpec.upto gasRunSpec)

/-- 'demonlaw5.GasCoarse', WHERE WHAT IT READS IS OF BULK AT MOST 1048576: true; the input reads as it did. -/
def gasCoarseUptoRow : OpenClaim := { program := "ytlckljibajhhkaadoor", sum := "f44d8e193e8adc24485076944f743ad970f111affb0bf54aa6282f678b5ec25a", func := "demon/demonlaw5.GasCoarse", spec := "gasCoarse", inPlace := ["internal/bytealg.IndexByteString", "internal/bytealg.IndexString", "internal/reflectlite.ValueOf", "(internal/reflectlite.Value).Type", "(internal/reflectlite.Value).IsNil", "internal/reflectlite.TypeOf", "(internal/reflectlite.Value).Elem", "(internal/reflectlite.Value).Set"], unfollowed := true, recurses := true, named := ["demon/api.ErrBound", "demon/api.ErrShape", "demon/api.ErrText", "unicode/utf8.first", "unicode/utf8.acceptRanges", "demon/api.ErrZero", "demon/api.ErrName", "demon/api.ErrNone", "demon/api.ErrOrder", "demon/api.ErrKind", "errors.errorType", "internal/bytealg.MaxLen"], apart := false, laid := [("unicode/utf8.acceptRanges", laid_unicode_utf8_acceptRanges), ("errors.errorType", laid_errors_errorType), ("demon/api.ErrText", laid_demon_api_ErrText), ("demon/api.ErrBound", laid_demon_api_ErrBound), ("demon/api.ErrShape", laid_demon_api_ErrShape), ("demon/api.ErrZero", laid_demon_api_ErrZero), ("demon/api.ErrName", laid_demon_api_ErrName), ("demon/api.ErrNone", laid_demon_api_ErrNone), ("demon/api.ErrOrder", laid_demon_api_ErrOrder), ("demon/api.ErrKind", laid_demon_api_ErrKind), ("unicode/utf8.first", laid_unicode_utf8_first)], narrowed := true }
def GasCoarseUptoSaid : Prop := gasCoarseUptoRow.holds Tryd.pinned (OpenSpec.upto gasCoarseSpec)

/-- 'demonlaw5.GasStep', WHERE WHAT IT READS IS OF BULK AT MOST 1048576: true; the input reads as it did. -/
def gasStepUptoRow : OpenClaim := { program := "ytlckljibajhhkaadoor", sum := "f44d8e193e8adc24485076944f743ad970f111affb0bf54aa6282f678b5ec25a", func := "demon/demonlaw5.GasStep", spec := "gasStep", inPlace := ["internal/bytealg.IndexByteString", "internal/bytealg.IndexString", "internal/reflectlite.ValueOf", "(internal/reflectlite.Value).Type", "(internal/reflectlite.Value).IsNil", "internal/reflectlite.TypeOf", "(internal/reflectlite.Value).Elem", "(internal/reflectlite.Value).Set"], unfollowed := true, recurses := true, named := ["demon/api.ErrBound", "demon/api.ErrShape", "demon/api.ErrText", "unicode/utf8.first", "unicode/utf8.acceptRanges", "demon/api.ErrZero", "demon/api.ErrName", "demon/api.ErrNone", "demon/api.ErrOrder", "demon/api.ErrKind", "errors.errorType", "internal/bytealg.MaxLen"], apart := false, laid := [("unicode/utf8.acceptRanges", laid_unicode_utf8_acceptRanges), ("errors.errorType", laid_errors_errorType), ("demon/api.ErrText", laid_demon_api_ErrText), ("demon/api.ErrBound", laid_demon_api_ErrBound), ("demon/api.ErrShape", laid_demon_api_ErrShape), ("demon/api.ErrZero", laid_demon_api_ErrZero), ("demon/api.ErrName", laid_demon_api_ErrName), ("demon/api.ErrNone", laid_demon_api_ErrNone), ("demon/api.ErrOrder", laid_demon_api_ErrOrder), ("demon/api.ErrKind", laid_demon_api_ErrKind), ("unicode/utf8.first", laid_unicode_utf8_first)], narrowed := true }
def GasStepUptoSaid : Prop := gasStepUptoRow.holds Tryd.pinned (OpenSpec.upto gasStepSpec)

/-- 'demonlaw5.GasRound', WHERE WHAT IT READS IS OF BULK AT MOST 1048576: true; the input reads as it did. -/
def gasRoundUptoRow : OpenClaim := { program := "ytlckljibajhhkaadoor", sum := "f44d8e193e8adc24485076944f743ad970f111affb0bf54aa6282f678b5ec25a", func := "demon/demonlaw5.GasRound", spec := "gasRound", inPlace := ["internal/bytealg.IndexByteString", "internal/bytealg.IndexString", "internal/reflectlite.ValueOf", "(internal/reflectlite.Value).Type", "(internal/reflectlite.Value).IsNil", "internal/reflectlite.TypeOf", "(internal/reflectlite.Value).Elem", "(internal/reflectlite.Value).Set"], unfollowed := true, recurses := true, named := ["demon/api.ErrBound", "demon/api.ErrShape", "demon/api.ErrText", "unicode/utf8.first", "unicode/utf8.acceptRanges", "demon/api.ErrZero", "demon/api.ErrName", "demon/api.ErrNone", "demon/api.ErrOrder", "demon/api.ErrKind", "errors.errorType", "internal/bytealg.MaxLen"], apart := false, laid := [("unicode/utf8.acceptRanges", laid_unicode_utf8_acceptRanges), ("errors.errorType", laid_errors_errorType), ("demon/api.ErrText", laid_demon_api_ErrText), ("demon/api.ErrBound", laid_demon_api_ErrBound), ("demon/api.ErrShape", laid_demon_api_ErrShape), ("demon/api.ErrZero", laid_demon_api_ErrZero), ("demon/api.ErrName", laid_demon_api_ErrName), ("demon/api.ErrNone", laid_demon_api_ErrNone), ("demon/api.ErrOrder", laid_demon_api_ErrOrder), ("demon/api.ErrKind", laid_demon_api_ErrKind), ("unicode/utf8.first", laid_unicode_utf8_first)], narrowed := true }
def GasRoundUptoSaid : Prop := gasRoundUptoRow.holds Tryd.pinned (OpenSpec.upto gasRoundSpec)

end Rows
end Go.Proofs.YtlckljibajhhkaaDoor
